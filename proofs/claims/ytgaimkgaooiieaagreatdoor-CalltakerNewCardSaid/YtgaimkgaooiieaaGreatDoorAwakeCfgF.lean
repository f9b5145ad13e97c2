/-
  What config.validPlans answers in this program, for every configuration within the reach.
-/
import Derived.Test.YtgaimkgaooiieaaGreatDoorAwakeCfgE
namespace Go.Proofs.YtgaimkgaooiieaaGreatDoor
open Go Go.RowKit

theorem plan_urg1 {p : PlD} (h : ¬ 1 ≤ p.urg) : planB p = false := by
  have : decide (1 ≤ p.urg ∧ p.urg ≤ 5) = false := decide_eq_false (by omega)
  simp only [planB, this, Bool.and_false, Bool.false_and]
theorem plan_urg2 {p : PlD} (h : ¬ p.urg ≤ 5) : planB p = false := by
  have : decide (1 ≤ p.urg ∧ p.urg ≤ 5) = false := decide_eq_false (by omega)
  simp only [planB, this, Bool.and_false, Bool.false_and]
theorem plan_len1 {p : PlD} (h : ¬ 1 ≤ p.kinds.length) : planB p = false := by
  have : decide (1 ≤ p.kinds.length ∧ p.kinds.length ≤ 8) = false := decide_eq_false (by omega)
  simp only [planB, this, Bool.and_false]
theorem plan_len2 {p : PlD} (h : ¬ p.kinds.length ≤ 8) : planB p = false := by
  have : decide (1 ≤ p.kinds.length ∧ p.kinds.length ≤ 8) = false := decide_eq_false (by omega)
  simp only [planB, this, Bool.and_false]
theorem plan_yes {p : PlD} (h0 : codeB p.code = true) (h1 : 1 ≤ p.urg) (h2 : p.urg ≤ 5) (h3 : 1 ≤ p.kinds.length) (h4 : p.kinds.length ≤ 8) (h5 : p.kinds.all kindB = true) : planB p = true := by
  simp [planB, h0, h1, h2, h3, h4, h5]
theorem code_is {s : ByteArray} {v : Bool} (h : codeB s = v) (hs : s.size ≤ 140737488355328) : ∀ W, Calls Tryz.prog 133 #[.string s] W fun e w' => e = .returned (.bool v) ∧ w' = W := fun W => (code_any s W hs).mono fun _ _ ⟨h1, h2⟩ => ⟨by rw [h1, h], h2.symm⟩

set_option maxHeartbeats 8000000 in
set_option maxRecDepth 100000 in
theorem validPlans_any (c : CfD) (P : CfP) (g B : Nat) (w : World) (hX : CfBox w g c P) (hg : g < B) (hC : CfAt w B c P) (hB : B ≤ w.heap.size) :
    Calls Tryz.prog 66 #[.pointer (some ⟨g, 0, none⟩)] w (Says (psB c) w) := by
  obtain ⟨Ad, dc, Ae, ec, Au, uc, Ap, pc⟩ := P
  have HX := Lib.hid hX
  have HC := Lib.hid hC
  have k4 : _ = some (Value.slice Ap c.ps.length pc) := hX.k4
  have hpl := hC.pl
  have hpcap : c.ps.length ≤ pc := hC.pcap
  have hpcl : pc ≤ 140737488355328 := hC.pcl
  clear hX hC
  by_cases hl64 : c.ps.length ≤ 64
  rotate_left
  · have HR := Lib.hid (ps_len hl64)
    go_enter Tryz.func66, Tryz.ntmps66
    go_wp2
    go_ret
    exact ⟨by rw [HR.out]; rfl, Below.refl _ _⟩
  go_enter Tryz.func66, Tryz.ntmps66
  go_wp2
  go_loopw [20] (fun i wr => ∃ k : Nat, k ≤ c.ps.length ∧ i = .int .i64 k ∧ Hid ((c.ps.take k).all planB = true) ∧ Hid (((List.range c.ps.length).take k).all (freshB c.ps) = true) ∧ Hid (Below w.heap.size w wr)) (fun i _ => c.ps.length - (intOf i).toNat)
  case atStart => exact ⟨0, Nat.zero_le _, rfl, Lib.hid rfl, Lib.hid rfl, Lib.hid (Below.refl _ _)⟩
  case round =>
    clear k4
    obtain ⟨k, hk, rfl, HP, HF, HBK⟩ := hrel
    obtain ⟨wo, rfl⟩ : ∃ wo : World, wo = wr := ⟨_, rfl⟩
    have hszr := HBK.out.size
    by_cases hlt : k < c.ps.length
    rotate_left
    · obtain rfl : k = c.ps.length := by omega
      have HR := Lib.hid (ps_yes HP.out hl64 HF.out)
      clear hlt hk
      go_wp2
      go_ret
      exact ⟨by rw [HR.out]; rfl, HBK.out⟩
    obtain ⟨p, hp⟩ : ∃ p, c.ps[k]? = some p := ⟨_, List.getElem?_eq_getElem hlt⟩
    obtain ⟨b, o, K, kc, e, hbB, g0, g1, g2, hki, hkl, hcl⟩ := (HC.out.below (HBK.out.mono hB)).p k p hp
    have e' : Ap = some ⟨b, o, none⟩ := e
    subst e'
    have hb3 := HBK.out.alloc hszr (.cells #[.string p.code, .int .i64 p.urg, .slice K p.kinds.length kc] 76)
    have HB3 := Lib.hid hb3
    have k4 : _ = some (Value.slice (some ⟨b, o, none⟩) c.ps.length pc) := (HX.out.below (B := w.heap.size) (by omega) hb3).k4
    have HKI := Lib.hid (hki.below (((Below.refl wo.heap.size wo).alloc (Nat.le_refl _) (.cells #[.string p.code, .int .i64 p.urg, .slice K p.kinds.length kc] 76)).mono (show B ≤ _ by omega)))
    have HPP := Lib.hid hp
    clear hp e hki hb3
    by_cases hcode : codeB p.code = true
    rotate_left
    · have hc' : codeB p.code = false := by simpa using hcode
      have HR := Lib.hid (ps_plan HPP.out (plan_code hc'))
      have HT := Lib.hid (code_is hc' hcl)
      clear hcode hc'
      go_wp2_with (go_at_call 133; refine (HT.out _).mono ?_; rintro e W2 ⟨rfl, rfl⟩)
      go_ret
      exact ⟨by rw [HR.out]; rfl, HB3.out⟩
    have HT := Lib.hid (code_is hcode hcl)
    have HCO := Lib.hid hcode
    clear hcode
    by_cases urg1 : 1 ≤ p.urg
    rotate_left
    · have HR := Lib.hid (ps_plan HPP.out (plan_urg1 urg1))
      go_wp2_with (go_at_call 133; refine (HT.out _).mono ?_; rintro e W2 ⟨rfl, rfl⟩)
      go_ret
      exact ⟨by rw [HR.out]; rfl, HB3.out⟩
    by_cases urg2 : p.urg ≤ 5
    rotate_left
    · have HR := Lib.hid (ps_plan HPP.out (plan_urg2 urg2))
      go_wp2_with (go_at_call 133; refine (HT.out _).mono ?_; rintro e W2 ⟨rfl, rfl⟩)
      go_ret
      exact ⟨by rw [HR.out]; rfl, HB3.out⟩
    by_cases kl1 : 1 ≤ p.kinds.length
    rotate_left
    · have HR := Lib.hid (ps_plan HPP.out (plan_len1 kl1))
      go_wp2_with (go_at_call 133; refine (HT.out _).mono ?_; rintro e W2 ⟨rfl, rfl⟩)
      go_ret
      exact ⟨by rw [HR.out]; rfl, HB3.out⟩
    by_cases kl2 : p.kinds.length ≤ 8
    rotate_left
    · have HR := Lib.hid (ps_plan HPP.out (plan_len2 kl2))
      go_wp2_with (go_at_call 133; refine (HT.out _).mono ?_; rintro e W2 ⟨rfl, rfl⟩)
      go_ret
      exact ⟨by rw [HR.out]; rfl, HB3.out⟩
    go_wp2_with (go_at_call 133; refine (HT.out _).mono ?_; rintro e W2 ⟨rfl, rfl⟩)
    go_loop [52] (fun i => ∃ j : Nat, j ≤ p.kinds.length ∧ i = .int .i64 j ∧ Hid ((p.kinds.take j).all kindB = true)) (fun i => p.kinds.length - (intOf i).toNat)
    case atStart => exact ⟨0, Nat.zero_le _, rfl, Lib.hid rfl⟩
    case round =>
      obtain ⟨j, hj, rfl, HJ⟩ := hrel
      by_cases hjt : j < p.kinds.length
      · obtain ⟨z, hz⟩ : ∃ z, p.kinds[j]? = some z := ⟨_, List.getElem?_eq_getElem hjt⟩
        obtain ⟨b2, o2, e2, hb2, hc2⟩ := HKI.out j z hz
        subst e2
        by_cases hz1 : kindB z = true
        · have HS := Lib.hid (all_snoc hz HJ.out hz1)
          have HKT := Lib.hid (kind_is hz1)
          clear hz hz1
          go_wp2_with (go_at_call 132; refine (HKT.out _).mono ?_; rintro e W2 ⟨rfl, rfl⟩)
          go_round
          case rel => exact ⟨j + 1, by omega, by go_num, HS⟩
          case measure => simp [intOf]; omega
        · have hz' : kindB z = false := by simpa using hz1
          have HR := Lib.hid (ps_plan HPP.out (plan_kinds (all_no hz hz')))
          have HKT := Lib.hid (kind_is hz')
          clear hz hz1 hz'
          go_wp2_with (go_at_call 132; refine (HKT.out _).mono ?_; rintro e W2 ⟨rfl, rfl⟩)
          go_ret
          exact ⟨by rw [HR.out]; rfl, HB3.out⟩
      · obtain rfl : j = p.kinds.length := by omega
        have HS := Lib.hid (all_snoc HPP.out HP.out (plan_yes HCO.out urg1 urg2 kl1 kl2 (all_full HJ.out)))
        have HPB := Lib.hid (alloc_last wo (.cells #[.string p.code, .int .i64 p.urg, .slice K p.kinds.length kc] 76))
        obtain ⟨W2, hW2⟩ : ∃ W2, W2 = wo.alloc (.cells #[.string p.code, .int .i64 p.urg, .slice K p.kinds.length kc] 76) := ⟨_, rfl⟩
        have hsz2 : wo.heap.size + 1 ≤ W2.heap.size := by rw [hW2]; simp
        rw [← hW2] at HPB HB3 HKI k4 ⊢
        clear hW2 hjt hj
        go_wp2
        go_loopw [67] (fun i w5 => ∃ j : Nat, j ≤ k ∧ i = .int .i64 j ∧ Hid (((List.range k).take j).all (pairB c.ps k) = true) ∧ Hid (Below W2.heap.size W2 w5)) (fun i _ => k - (intOf i).toNat)
        case atStart => exact ⟨0, Nat.zero_le _, rfl, Lib.hid rfl, Lib.hid (Below.refl _ _)⟩
        case round =>
          obtain ⟨j, hj, rfl, HJ, HBJ⟩ := hrel
          have hsz5 := HBJ.out.size
          have HBJ2 := Lib.hid (HB3.out.trans (HBJ.out.mono (by omega)))
          by_cases hjt : j < k
          · obtain ⟨q, hq⟩ : ∃ q, c.ps[j]? = some q := ⟨_, List.getElem?_eq_getElem (by omega)⟩
            obtain ⟨b', o', K', kc', e, _, q0, q1, q2, _, hkl', hcl'⟩ := (HC.out.below (HBJ2.out.mono hB)).p j q hq
            have e' : some (⟨b, o, none⟩ : Addr) = some ⟨b', o', none⟩ := e
            obtain ⟨rfl, rfl⟩ : b = b' ∧ o = o' := by cases e'; exact ⟨rfl, rfl⟩
            have hpb := (HBJ.out.block wo.heap.size (by omega)).trans HPB.out
            have hpb6 := (((Below.refl wr.heap.size wr).alloc (Nat.le_refl _) (.cells #[.string q.code, .int .i64 q.urg, .slice K' q.kinds.length kc'] 76)).block wo.heap.size (by omega)).trans hpb
            have r0 : (wr.alloc (.cells #[.string q.code, .int .i64 q.urg, .slice K' q.kinds.length kc'] 76)).cell? ⟨wo.heap.size, 0, none⟩ = some (.string p.code) := by unfold World.cell?; simp only [hpb6]; rfl
            have r1 : (wr.alloc (.cells #[.string q.code, .int .i64 q.urg, .slice K' q.kinds.length kc'] 76)).cell? ⟨wo.heap.size, 1, none⟩ = some (.int .i64 p.urg) := by unfold World.cell?; simp only [hpb6]; rfl
            have HPR := Lib.hid (pair_eq HPP.out hq)
            have HB6 := Lib.hid (HBJ2.out.alloc (by omega) (.cells #[.string q.code, .int .i64 q.urg, .slice K' q.kinds.length kc'] 76))
            have HB7 := Lib.hid (HBJ.out.alloc hsz5 (.cells #[.string q.code, .int .i64 q.urg, .slice K' q.kinds.length kc'] 76))
            clear e e' hpb hpb6 hq k4
            go_wp2
            · have ht : twinB q p = true := decide_eq_true ⟨by assumption, by simpa using ‹(q.urg == p.urg) = true›⟩
              have HR := Lib.hid (ps_twin hlt hjt (by rw [HPR.out, ht]; rfl))
              clear ht
              go_ret
              exact ⟨by rw [HR.out]; rfl, HB6.out⟩
            · have hf : twinB q p = false := decide_eq_false fun h => by
                have h2 := ‹(q.urg == p.urg) = false›
                rw [h.2] at h2
                simp at h2
              go_roundw
              case rel => exact ⟨j + 1, by omega, by go_num, Lib.hid (all_snoc (range_at hjt) HJ.out (by rw [HPR.out, hf]; rfl)), HB7⟩
              case measure => simp [intOf]; omega
            · have hf : twinB q p = false := decide_eq_false fun h => absurd h.1 ‹¬q.code.toList = p.code.toList›
              go_roundw
              case rel => exact ⟨j + 1, by omega, by go_num, Lib.hid (all_snoc (range_at hjt) HJ.out (by rw [HPR.out, hf]; rfl)), HB7⟩
              case measure => simp [intOf]; omega
          · obtain rfl : j = k := by omega
            have HFS := Lib.hid (all_snoc (range_at hlt) HF.out (fresh_yes HJ.out))
            clear k4
            go_wp2
            go_roundw
            case rel => exact ⟨j + 1, by omega, by go_num, HS, HFS, HBJ2⟩
            case measure => simp [intOf]; omega
end Go.Proofs.YtgaimkgaooiieaaGreatDoor
