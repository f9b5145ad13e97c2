/-
  What samaritanref06.plan, Numbers and Great answer in this program, for all arguments within the reach.
-/
import Derived.Test.YtgaimkgaooiieaaGreatDoorAwakeCfgB
namespace Go.Proofs.YtgaimkgaooiieaaGreatDoor
open Go Go.RowKit

theorem all_snoc {α : Type} {f : α → Bool} {l : List α} {k : Nat} {x : α} (hx : l[k]? = some x) (hp : (l.take k).all f = true) (hf : f x = true) : (l.take (k + 1)).all f = true := by
  obtain ⟨hk, rfl⟩ := List.getElem?_eq_some_iff.1 hx
  rw [List.take_succ_eq_append_getElem hk, List.all_append, hp]
  simpa using hf
theorem all_no {α : Type} {f : α → Bool} {l : List α} {k : Nat} {x : α} (hx : l[k]? = some x) (hf : f x = false) : l.all f = false := by
  rw [List.all_eq_false]
  exact ⟨x, List.mem_of_getElem? hx, by simp [hf]⟩
theorem all_full {α : Type} {f : α → Bool} {l : List α} (hp : (l.take l.length).all f = true) : l.all f = true := by rwa [List.take_length] at hp

theorem plan_kinds {p : PlD} (h : p.kinds.all kindB = false) : planB p = false := by simp [planB, h]
theorem plan_code {p : PlD} (h : codeB p.code = false) : planB p = false := by simp [planB, h]
theorem plan_rest {p : PlD} (h : p.kinds.all kindB = true) (h2 : codeB p.code = true) : planB p = (decide (1 ≤ p.urg ∧ p.urg ≤ 5) && decide (1 ≤ p.kinds.length ∧ p.kinds.length ≤ 8)) := by simp [planB, h, h2]

set_option maxHeartbeats 2000000 in
set_option maxRecDepth 100000 in
theorem plan_any (p : PlD) (K : Option Addr) (c B : Nat) (w : World) (hK : IntsAt w B K p.kinds) (hB : B ≤ w.heap.size) (hl : p.kinds.length ≤ 140737488355328) (hs : p.code.size ≤ 140737488355328) :
    Calls Tryz.prog 27 #[.agg #[.string p.code, .int .i64 p.urg, .slice K p.kinds.length c]] w (Says (planB p) w) := by
  have hB1 : Below w.heap.size w (w.alloc (.cells #[.string p.code, .int .i64 p.urg, .slice K p.kinds.length c] 76)) := (Below.refl _ w).alloc (Nat.le_refl _) _
  have HK := Lib.hid (hK.below (hB1.mono hB))
  have HB := Lib.hid hB1
  have HC := Lib.hid (fun (W : World) => code_ref p.code W hs)
  clear hK hB1
  go_enter Tryz.func27, Tryz.ntmps27
  go_wp2
  go_loop [8] (fun i => ∃ k : Nat, k ≤ p.kinds.length ∧ i = .int .i64 k ∧ Hid ((p.kinds.take k).all kindB = true)) (fun i => p.kinds.length - (intOf i).toNat)
  case atStart => exact ⟨0, Nat.zero_le _, rfl, Lib.hid rfl⟩
  case round =>
    obtain ⟨k, hk, rfl, HP⟩ := hrel
    by_cases hlt : k < p.kinds.length
    · obtain ⟨z, hz⟩ : ∃ z, p.kinds[k]? = some z := ⟨_, List.getElem?_eq_getElem hlt⟩
      obtain ⟨b, o, rfl, hb, hc⟩ := HK.out k z hz
      by_cases hz1 : kindB z = true
      · have HS := Lib.hid (all_snoc hz HP.out hz1)
        have h1 : 1 ≤ z := (of_decide_eq_true hz1).1
        have h4 : z ≤ 4 := (of_decide_eq_true hz1).2
        clear hz hz1
        go_wp2
        go_round
        case rel => exact ⟨k + 1, by omega, by go_num, HS⟩
        case measure => simp [intOf]; omega
      · have HR := Lib.hid (plan_kinds (all_no hz (by simpa using hz1)))
        have hn : ¬ (1 ≤ z ∧ z ≤ 4) := fun h => hz1 (decide_eq_true h)
        clear hz hz1
        by_cases h1 : 1 ≤ z
        · have h4 : 4 < z := by omega
          clear hn
          go_wp2
          go_ret
          exact ⟨by rw [HR.out]; rfl, HB.out⟩
        · clear hn
          go_wp2
          go_ret
          exact ⟨by rw [HR.out]; rfl, HB.out⟩
    · obtain rfl : k = p.kinds.length := by omega
      by_cases hcode : codeB p.code = true
      · have HR := Lib.hid (plan_rest (all_full HP.out) hcode)
        have HCT := Lib.hid (show ∀ W, Calls Tryz.prog 68 #[.string p.code] W fun e w' => e = .returned (.bool true) ∧ W = w' from fun W => by rw [← hcode]; exact HC.out W)
        clear hcode
        go_wp2_with (go_at_call 68; refine (HCT.out _).mono ?_; rintro e w' ⟨rfl, rfl⟩)
        all_goals
          go_ret
          refine ⟨ret_bool ?_, HB.out⟩
          rw [HR.out, Bool.eq_iff_iff]
          simp
          omega
      · have hc2 : codeB p.code = false := by simpa using hcode
        have HR := Lib.hid (plan_code hc2)
        have HCT := Lib.hid (show ∀ W, Calls Tryz.prog 68 #[.string p.code] W fun e w' => e = .returned (.bool false) ∧ W = w' from fun W => by rw [← hc2]; exact HC.out W)
        clear hcode hc2
        go_wp2_with (go_at_call 68; refine (HCT.out _).mono ?_; rintro e w' ⟨rfl, rfl⟩)
        go_ret
        exact ⟨by rw [HR.out]; rfl, HB.out⟩

/-- the ten numbers in a row of their own -/
def NumRet (c : CfD) (w : World) (e : Ending) (w' : World) : Prop := ∃ b, e = .returned (.slice (some ⟨b, 0, none⟩) 10 10) ∧ Below w.heap.size w w' ∧ b < w'.heap.size ∧ ∀ (k : Nat) z, c.ns[k]? = some z → w'.cell? ⟨b, k, none⟩ = some (.int .i64 z)
set_option maxHeartbeats 2000000 in
set_option maxRecDepth 100000 in
theorem numbers_any (c : CfD) (P : CfP) (w : World) : Calls Tryz.prog 28 #[.agg (cfCells c P)] w (NumRet c w) := by
  have hB1 : Below w.heap.size w ((w.alloc (.cells (cfCells c P) 27)).alloc (.cells #[.int .i64 c.n0, .int .i64 c.n1, .int .i64 c.n2, .int .i64 c.n3, .int .i64 c.n4, .int .i64 c.n5, .int .i64 c.n6, .int .i64 c.n7, .int .i64 c.n8, .int .i64 c.n9] 2)) := ((Below.refl _ w).alloc (Nat.le_refl _) _).alloc (by simp) _
  have HB := Lib.hid hB1
  have hbox := CfBox.new w c P
  have k5 := hbox.k5
  have k6 := hbox.k6
  have k7 := hbox.k7
  have k8 := hbox.k8
  have k9 := hbox.k9
  have k10 := hbox.k10
  have k11 := hbox.k11
  have k12 := hbox.k12
  have k13 := hbox.k13
  have k14 := hbox.k14
  clear hB1 hbox
  generalize cfCells c P = ca at *
  go_enter Tryz.func28, Tryz.ntmps28
  go_wp2
  go_ret
  refine ⟨w.heap.size + 1, by simp, HB.out, by simp, fun k z hz => ?_⟩
  have hk : k < 10 := (List.getElem?_eq_some_iff.1 hz).1
  unfold World.cell?
  have e : ((w.alloc (.cells ca 27)).alloc (.cells #[.int .i64 c.n0, .int .i64 c.n1, .int .i64 c.n2, .int .i64 c.n3, .int .i64 c.n4, .int .i64 c.n5, .int .i64 c.n6, .int .i64 c.n7, .int .i64 c.n8, .int .i64 c.n9] 2)).heap[w.heap.size + 1]? = some (.cells #[.int .i64 c.n0, .int .i64 c.n1, .int .i64 c.n2, .int .i64 c.n3, .int .i64 c.n4, .int .i64 c.n5, .int .i64 c.n6, .int .i64 c.n7, .int .i64 c.n8, .int .i64 c.n9] 2) := by
    show ((w.heap.push _).push _)[w.heap.size + 1]? = _
    rw [Array.getElem?_push, if_pos (by simp)]
  simp only [e]
  match k, hk, hz with
  | 0, _, hz => cases hz; rfl
  | 1, _, hz => cases hz; rfl
  | 2, _, hz => cases hz; rfl
  | 3, _, hz => cases hz; rfl
  | 4, _, hz => cases hz; rfl
  | 5, _, hz => cases hz; rfl
  | 6, _, hz => cases hz; rfl
  | 7, _, hz => cases hz; rfl
  | 8, _, hz => cases hz; rfl
  | 9, _, hz => cases hz; rfl

def SomeBool (w : World) (e : Ending) (w' : World) : Prop := ∃ b : Bool, e = .returned (.bool b) ∧ Below w.heap.size w w'
set_option maxHeartbeats 2000000 in
set_option maxRecDepth 100000 in
theorem great_any (c : CfD) (P : CfP) (B : Nat) (w : World) (hc : CfAt w B c P) (hB : B ≤ w.heap.size) : Calls Tryz.prog 6 #[.agg (cfCells c P)] w (SomeBool w) := by
  obtain ⟨Ad, dc, Ae, ec, Au, uc, Ap, pc⟩ := P
  have hB1 : Below w.heap.size w (w.alloc (.cells (cfCells c ⟨Ad, dc, Ae, ec, Au, uc, Ap, pc⟩) 27)) := (Below.refl _ w).alloc (Nat.le_refl _) _
  have HB := Lib.hid hB1
  have hp := hc.p.below (hB1.mono hB)
  have HP := Lib.hid hp
  have hbox := CfBox.new w c ⟨Ad, dc, Ae, ec, Au, uc, Ap, pc⟩
  have HBX := Lib.hid hbox
  have k4 : _ = some (Value.slice Ap c.ps.length pc) := hbox.k4
  have hpl := hc.pl
  have hdl := hc.dl
  have hel := hc.el
  have hul := hc.ul
  clear hB1 hbox hc hp
  obtain ⟨ca, hca⟩ : ∃ ca, ca = cfCells c ⟨Ad, dc, Ae, ec, Au, uc, Ap, pc⟩ := ⟨_, rfl⟩
  have HCA := Lib.hid hca
  rw [← hca] at HB k4 ⊢
  clear hca
  go_enter Tryz.func6, Tryz.ntmps6
  go_wp2
  go_loopw [3, 9] (fun n i wr => ∃ (k : Nat) (z : Int), k ≤ c.ps.length ∧ i = .int .i64 k ∧ n = .int .i64 z ∧ 0 ≤ z ∧ z ≤ 4000 ∧ Below (w.heap.size + 1) (w.alloc (.cells ca 27)) wr) (fun _ i _ => c.ps.length - (intOf i).toNat)
  case atStart => exact ⟨0, 0, Nat.zero_le _, rfl, rfl, by omega, by omega, Below.refl _ _⟩
  case round =>
    obtain ⟨k, z, hk, rfl, rfl, hz0, hz1, hb⟩ := hrel
    by_cases hlt : k < c.ps.length
    · obtain ⟨p, hp⟩ : ∃ p, c.ps[k]? = some p := ⟨_, List.getElem?_eq_getElem hlt⟩
      obtain ⟨b, o, K, kc, e, hbB, h0, h1, h2, _, hkl, hcl⟩ := HP.out k p hp
      have e' : Ap = some ⟨b, o, none⟩ := e
      subst e'
      rw [← HCA.out] at h0 h1 h2
      have g0 := (hb.cell (p := ⟨b, o + k * 3, none⟩) (show b < w.heap.size + 1 by omega)).trans h0
      have g1 := (hb.cell (p := ⟨b, o + k * 3 + 1, none⟩) (show b < w.heap.size + 1 by omega)).trans h1
      have g2 := (hb.cell (p := ⟨b, o + k * 3 + 2, none⟩) (show b < w.heap.size + 1 by omega)).trans h2
      have HB3 := Lib.hid (hb.alloc (o := .cells #[.string p.code, .int .i64 p.urg, .slice K p.kinds.length kc] 76) (by have := hb.size; simp at this; omega))
      have HB2 := Lib.hid ((HB.out.trans (HB3.out.mono (by omega))))
      clear hp e h0 h1 h2 hb
      go_wp2
      · go_ret
        exact ⟨_, rfl, HB2.out⟩
      · go_roundw
        case rel => exact ⟨k + 1, _, by omega, by go_num, rfl, by omega, by omega, HB3.out⟩
        case measure => simp [intOf]; omega
    · obtain rfl : k = c.ps.length := by omega
      have HB2 := Lib.hid ((HB.out.trans (hb.mono (by omega))))
      have hbx := HBX.out.below (B := w.heap.size + 1) (by omega) (by rw [← HCA.out]; exact hb)
      have k1 : _ = some (Value.slice Ad c.ds.length dc) := hbx.k1
      have k2 : _ = some (Value.slice Ae c.es.length ec) := hbx.k2
      have k3 : _ = some (Value.slice Au c.us.length uc) := hbx.k3
      have k4 : _ = some (Value.slice Ap c.ps.length pc) := hbx.k4
      clear hb hbx
      go_wp2
      all_goals
        go_ret
        exact ⟨_, rfl, HB2.out⟩
end Go.Proofs.YtgaimkgaooiieaaGreatDoor
