/-
  What samaritanref06.Right answers in this program: 0 where the configuration is valid, for every configuration within the reach.
-/
import Derived.Test.YtgaimkgaooiieaaGreatDoorAwakeCfgC
namespace Go.Proofs.YtgaimkgaooiieaaGreatDoor
open Go Go.RowKit

theorem size27 : (Tryz.prog.info? 27).map (·.size) = some 15 := by kernel_rfl
theorem alloc_last (w : World) (o : Obj) : (w.alloc o).heap[w.heap.size]? = some o := by
  show (w.heap.push _)[w.heap.size]? = _
  simp
theorem numB_other {k : Nat} {z : Int} (h6 : k ≠ 6) (h7 : k ≠ 7) (h8 : k ≠ 8) (h9 : k ≠ 9) : numB k z = withinB z 1 1048576 := by
  unfold numB withinB
  split <;> first | omega | rfl
theorem hb_alloc {S : Nat} {w W : World} (h : Below S w W) (hs : w.heap.size = S) (o : Obj) : Below S w (W.alloc o) := h.alloc (by have := h.size; omega) o
theorem es_no {c : CfD} {k : Nat} {t : TriD} (hx : c.es[k]? = some t) (h : edgeB c.ds.length t = false) : esB c = false := by simp [esB, all_no hx h]
theorem es_len {c : CfD} (h : ¬ c.es.length ≤ 16384) : esB c = false := by simp only [esB, decide_eq_false h, Bool.and_false]
theorem es_yes {c : CfD} (h : (c.es.take c.es.length).all (edgeB c.ds.length) = true) (h2 : c.es.length ≤ 16384) : esB c = true := by simp [esB, all_full h, h2]
theorem us_no {c : CfD} {k : Nat} {t : TriD} (hx : c.us[k]? = some t) (h : unitB c.cen c.ds.length t = false) : usB c = false := by simp [usB, all_no hx h]
theorem us_len {c : CfD} (h : ¬ c.us.length ≤ 256) : usB c = false := by simp only [usB, decide_eq_false h, Bool.and_false]
theorem us_yes {c : CfD} (h : (c.us.take c.us.length).all (unitB c.cen c.ds.length) = true) (h2 : c.us.length ≤ 256) : usB c = true := by simp [usB, all_full h, h2]
theorem size_cen1 {c : CfD} (h : ¬ 1 ≤ c.cen) : sizeB c = false := by simp [sizeB]; omega
theorem size_cen2 {c : CfD} (h : ¬ c.cen ≤ 9) : sizeB c = false := by simp [sizeB]; omega
theorem size_ds1 {c : CfD} (h : ¬ 1 ≤ c.ds.length) : sizeB c = false := by simp [sizeB]; omega
theorem size_ds2 {c : CfD} (h : ¬ c.ds.length ≤ 4096) : sizeB c = false := by simp [sizeB]; omega
theorem size_yes {c : CfD} (h : 1 ≤ c.cen) (h2 : c.cen ≤ 9) (h3 : 1 ≤ c.ds.length) (h4 : c.ds.length ≤ 4096) : sizeB c = true := by simp [sizeB]; omega
theorem ps_plan {c : CfD} {k : Nat} {p : PlD} (hx : c.ps[k]? = some p) (h : planB p = false) : psB c = false := by simp [psB, all_no hx h]
theorem ps_len {c : CfD} (h : ¬ c.ps.length ≤ 64) : psB c = false := by simp only [psB, decide_eq_false h, Bool.and_false, Bool.false_and]
theorem range_at {n k : Nat} (h : k < n) : (List.range n)[k]? = some k := by simp [h]
theorem ps_twin {c : CfD} {i j : Nat} (hi : i < c.ps.length) (hj : j < i) (h : pairB c.ps i j = false) : psB c = false := by
  have h1 : freshB c.ps i = false := all_no (range_at hj) h
  have h2 : apartB c.ps = false := all_no (range_at hi) h1
  simp [psB, h2]
theorem ps_yes {c : CfD} (h : (c.ps.take c.ps.length).all planB = true) (h2 : c.ps.length ≤ 64) (h3 : ((List.range c.ps.length).take c.ps.length).all (freshB c.ps) = true) : psB c = true := by
  have h4 : apartB c.ps = true := by
    unfold apartB
    rwa [List.take_of_length_le (by simp)] at h3
  simp [psB, all_full h, h2, h4]
theorem fresh_yes {ps : List PlD} {i : Nat} (h : ((List.range i).take i).all (pairB ps i) = true) : freshB ps i = true := by
  unfold freshB
  rwa [List.take_of_length_le (by simp)] at h
theorem pair_eq {ps : List PlD} {i j : Nat} {p q : PlD} (hp : ps[i]? = some p) (hq : ps[j]? = some q) : pairB ps i j = !twinB q p := by simp [pairB, hp, hq]
theorem nums_at {c : CfD} {k : Nat} {z : Int} (h : c.ns[k]? = some z) : c.ns.zipIdx[k]? = some (z, k) := by simp [List.getElem?_zipIdx, h]
theorem nums_no {c : CfD} {k : Nat} {z : Int} (h : c.ns[k]? = some z) (hn : numB k z = false) : numsB c.ns = false := all_no (f := fun p : Int × Nat => numB p.2 p.1) (nums_at h) hn
theorem nums_yes {c : CfD} (h : (c.ns.zipIdx.take 10).all (fun p : Int × Nat => numB p.2 p.1) = true) : numsB c.ns = true := by
  unfold numsB
  rwa [List.take_of_length_le (by simp [CfD.ns])] at h

set_option maxHeartbeats 20000000 in
set_option maxRecDepth 100000 in
theorem right_any (c : CfD) (P : CfP) (B : Nat) (w : World) (hc : CfAt w B c P) (hB : B ≤ w.heap.size) : Calls Tryz.prog 9 #[.agg (cfCells c P)] w (Zero (validB c) w) := by
  obtain ⟨Ad, dc, Ae, ec, Au, uc, Ap, pc⟩ := P
  have hB1 : Below w.heap.size w (w.alloc (.cells (cfCells c ⟨Ad, dc, Ae, ec, Au, uc, Ap, pc⟩) 27)) := (Below.refl _ w).alloc (Nat.le_refl _) _
  have HB := Lib.hid hB1
  have HS1 := Lib.hid (show (w.alloc (.cells (cfCells c ⟨Ad, dc, Ae, ec, Au, uc, Ap, pc⟩) 27)).heap.size = w.heap.size + 1 by simp)
  have HC := Lib.hid ((hc.below (hB1.mono hB)).mono (Nat.le_trans hB (Nat.le_succ _)))
  have hbox := CfBox.new w c ⟨Ad, dc, Ae, ec, Au, uc, Ap, pc⟩
  have HX := Lib.hid hbox
  have HE : Hid (∀ (W : World) (t : TriD), Calls Tryz.prog 25 #[.agg (cfCells c ⟨Ad, dc, Ae, ec, Au, uc, Ap, pc⟩), .agg #[.int .i64 t.x, .int .i64 t.y, .int .i64 t.z]] W (Says (edgeB c.ds.length t) W)) :=
    Lib.hid (fun W t => edge_any (.int .i64 c.cen) Ad c.ds.length dc (.slice Ae c.es.length ec) (.slice Au c.us.length uc) (.slice Ap c.ps.length pc) (.int .i64 c.n0) (.int .i64 c.n1) (.int .i64 c.n2) (.int .i64 c.n3) (.int .i64 c.n4) (.int .i64 c.n5) (.int .i64 c.n6) (.int .i64 c.n7) (.int .i64 c.n8) (.int .i64 c.n9) t W hc.dl)
  have HU : Hid (∀ (W : World) (t : TriD), Calls Tryz.prog 26 #[.agg (cfCells c ⟨Ad, dc, Ae, ec, Au, uc, Ap, pc⟩), .agg #[.int .i64 t.x, .int .i64 t.y, .int .i64 t.z]] W (Says (unitB c.cen c.ds.length t) W)) :=
    Lib.hid (fun W t => unit_any c.cen Ad c.ds.length dc (.slice Ae c.es.length ec) (.slice Au c.us.length uc) (.slice Ap c.ps.length pc) (.int .i64 c.n0) (.int .i64 c.n1) (.int .i64 c.n2) (.int .i64 c.n3) (.int .i64 c.n4) (.int .i64 c.n5) (.int .i64 c.n6) (.int .i64 c.n7) (.int .i64 c.n8) (.int .i64 c.n9) t W hc.dl)
  have HN := Lib.hid (fun (W : World) => numbers_any c ⟨Ad, dc, Ae, ec, Au, uc, Ap, pc⟩ W)
  have k0 : _ = some (Value.int .i64 c.cen) := hbox.k0
  have k1 : _ = some (Value.slice Ad c.ds.length dc) := hbox.k1
  have k2 : _ = some (Value.slice Ae c.es.length ec) := hbox.k2
  have hpl := hc.pl
  have hdl := hc.dl
  have hel := hc.el
  have hul := hc.ul
  have hpcap : c.ps.length ≤ pc := hc.pcap
  have hpcl : pc ≤ 140737488355328 := hc.pcl
  clear hB1 hbox hc
  obtain ⟨cl, hcl⟩ : ∃ cl, cl = (cfCells c ⟨Ad, dc, Ae, ec, Au, uc, Ap, pc⟩).toList := ⟨_, rfl⟩
  obtain ⟨ca, hca⟩ : ∃ ca, ca = cfCells c ⟨Ad, dc, Ae, ec, Au, uc, Ap, pc⟩ := ⟨_, rfl⟩
  have HCA := Lib.hid hca
  have HCL := Lib.hid (show ca = cl.toArray by rw [hcl, hca])
  have H15 := Lib.hid (show (Tryz.prog.info? 27).map (·.size) = some cl.length by rw [hcl]; exact size27)
  have HRG := Lib.hid (show ∀ W, CfBox W w.heap.size c ⟨Ad, dc, Ae, ec, Au, uc, Ap, pc⟩ → W.rangeAt w.heap.size 0 cl from fun W h j v hv => by rw [Nat.zero_add]; exact h.cell (by rw [← hv, hcl]; simp))
  rw [← hca] at HE HU HB k0 k1 k2 HN HS1 HC HX ⊢
  clear hca hcl
  by_cases h1 : 1 ≤ c.cen
  rotate_left
  · have HR := Lib.hid (v_size (size_cen1 h1))
    go_enter Tryz.func9, Tryz.ntmps9
    go_wp2
    go_ret
    exact ⟨1, rfl, by rw [HR.out]; rfl, HB.out⟩
  by_cases h2 : c.cen ≤ 9
  rotate_left
  · have HR := Lib.hid (v_size (size_cen2 h2))
    go_enter Tryz.func9, Tryz.ntmps9
    go_wp2
    go_ret
    exact ⟨1, rfl, by rw [HR.out]; rfl, HB.out⟩
  by_cases h3 : 1 ≤ c.ds.length
  rotate_left
  · have HR := Lib.hid (v_size (size_ds1 h3))
    go_enter Tryz.func9, Tryz.ntmps9
    go_wp2
    go_ret
    exact ⟨2, rfl, by rw [HR.out]; rfl, HB.out⟩
  by_cases h4 : c.ds.length ≤ 4096
  rotate_left
  · have HR := Lib.hid (v_size (size_ds2 h4))
    go_enter Tryz.func9, Tryz.ntmps9
    go_wp2
    go_ret
    exact ⟨2, rfl, by rw [HR.out]; rfl, HB.out⟩
  have HSZ := Lib.hid (size_yes h1 h2 h3 h4)
  go_enter Tryz.func9, Tryz.ntmps9
  go_wp2
  go_loop [38] (fun i => ∃ k : Nat, k ≤ c.ds.length ∧ i = .int .i64 k ∧ Hid ((c.ds.take k).all (fun d => idxB d c.cen) = true)) (fun i => c.ds.length - (intOf i).toNat)
  case atStart => exact ⟨0, Nat.zero_le _, rfl, Lib.hid rfl⟩
  case round =>
    obtain ⟨k, hk, rfl, HP⟩ := hrel
    by_cases hlt : k < c.ds.length
    · obtain ⟨z, hz⟩ : ∃ z, c.ds[k]? = some z := ⟨_, List.getElem?_eq_getElem hlt⟩
      obtain ⟨b, o, e, hbB, hcz⟩ := HC.out.d k z hz
      have e' : Ad = some ⟨b, o, none⟩ := e
      subst e'
      by_cases hz1 : idxB z c.cen = true
      · have HS := Lib.hid (all_snoc hz HP.out hz1)
        have z0 : 0 ≤ z := (of_decide_eq_true hz1).1
        have z1 : z < c.cen := (of_decide_eq_true hz1).2
        clear hz hz1 e
        go_wp2
        go_round
        case rel => exact ⟨k + 1, by omega, by go_num, HS⟩
        case measure => simp [intOf]; omega
      · have HR := Lib.hid (v_ds (all_no hz (by simpa using hz1)))
        have hn : ¬ (0 ≤ z ∧ z < c.cen) := fun h => hz1 (decide_eq_true h)
        by_cases z0 : 0 ≤ z
        · have z1 : c.cen ≤ z := by omega
          clear hz hz1 e hn
          go_wp2
          go_ret
          exact ⟨3, rfl, by rw [HR.out]; rfl, HB.out⟩
        · clear hz hz1 e hn
          go_wp2
          go_ret
          exact ⟨3, rfl, by rw [HR.out]; rfl, HB.out⟩
    · obtain rfl : k = c.ds.length := by omega
      have HDS := Lib.hid (show dsB c = true from all_full HP.out)
      clear HP hlt hk
      go_wp2
      go_loopw [54] (fun i wr => ∃ k : Nat, k ≤ c.es.length ∧ i = .int .i64 k ∧ Hid ((c.es.take k).all (edgeB c.ds.length) = true) ∧ Hid (Below (w.heap.size + 1) (w.alloc (.cells ca 27)) wr)) (fun i _ => c.es.length - (intOf i).toNat)
      case atStart => exact ⟨0, Nat.zero_le _, rfl, Lib.hid rfl, Lib.hid (Below.refl _ _)⟩
      case round =>
        clear k0 k1 k2
        obtain ⟨k, hk, rfl, HP, HBK⟩ := hrel
        have hszr := HBK.out.size
        rw [HS1.out] at hszr
        by_cases hlt : k < c.es.length
        · obtain ⟨t, ht⟩ : ∃ t, c.es[k]? = some t := ⟨_, List.getElem?_eq_getElem hlt⟩
          obtain ⟨b, o, e, hbB, g0, g1, g2⟩ := (HC.out.below HBK.out).e k t ht
          have e' : Ae = some ⟨b, o, none⟩ := e
          subst e'
          have HB3 := Lib.hid (hb_alloc HBK.out HS1.out (.cells #[.int .i64 t.x, .int .i64 t.y, .int .i64 t.z] 85))
          have HRR := Lib.hid (HRG.out _ (HX.out.below (B := w.heap.size + 1) (by omega) HB3.out))
          by_cases hv : edgeB c.ds.length t = true
          · have HS := Lib.hid (all_snoc ht HP.out hv)
            have HT := Lib.hid (fun W => hv ▸ HE.out W t)
            clear ht hv e
            go_wp2_with (first | (with_reducible refine wpList_load_mid rfl 27 (.tmp 1) rfl w.heap.size 0 rfl cl _ HRR.out Tryz.underlying27 rfl H15.out ?_; rw [← HCL.out]) | (go_at_call 25; refine (HT.out _).mono ?_; rintro e W2 ⟨rfl, hb2⟩))
            have HB4 := Lib.hid (HB3.out.trans (hb2.mono (by simp; omega)))
            clear hb2
            go_roundw
            case rel => exact ⟨k + 1, by omega, by go_num, HS, HB4⟩
            case measure => simp [intOf]; omega
          · have hv' : edgeB c.ds.length t = false := by simpa using hv
            have HR := Lib.hid (v_es (es_no ht hv'))
            have HT := Lib.hid (fun W => hv' ▸ HE.out W t)
            clear ht hv hv' e
            go_wp2_with (first | (with_reducible refine wpList_load_mid rfl 27 (.tmp 1) rfl w.heap.size 0 rfl cl _ HRR.out Tryz.underlying27 rfl H15.out ?_; rw [← HCL.out]) | (go_at_call 25; refine (HT.out _).mono ?_; rintro e W2 ⟨rfl, hb2⟩))
            go_ret
            exact ⟨4, rfl, by rw [HR.out]; rfl, HB.out.trans ((HB3.out.trans (hb2.mono (by simp; omega))).mono (by omega))⟩
        · obtain rfl : k = c.es.length := by omega
          have hbx := HX.out.below (B := w.heap.size + 1) (by omega) HBK.out
          have k2 : _ = some (Value.slice Ae c.es.length ec) := hbx.k2
          have k3 : _ = some (Value.slice Au c.us.length uc) := hbx.k3
          clear hbx hlt hk
          by_cases hel2 : c.es.length ≤ 16384
          rotate_left
          · have HR := Lib.hid (v_es (es_len hel2))
            go_wp2
            go_ret
            exact ⟨4, rfl, by rw [HR.out]; rfl, HB.out.trans (HBK.out.mono (by omega))⟩
          have HES := Lib.hid (es_yes HP.out hel2)
          clear HP
          go_wp2
          go_loopw [70] (fun i wr => ∃ k : Nat, k ≤ c.us.length ∧ i = .int .i64 k ∧ Hid ((c.us.take k).all (unitB c.cen c.ds.length) = true) ∧ Hid (Below (w.heap.size + 1) (w.alloc (.cells ca 27)) wr)) (fun i _ => c.us.length - (intOf i).toNat)
          case atStart => exact ⟨0, Nat.zero_le _, rfl, Lib.hid rfl, HBK⟩
          case round =>
            clear k2 k3 HBK hszr
            obtain ⟨k, hk, rfl, HP, HBK⟩ := hrel
            have hszr := HBK.out.size
            rw [HS1.out] at hszr
            by_cases hlt : k < c.us.length
            · obtain ⟨t, ht⟩ : ∃ t, c.us[k]? = some t := ⟨_, List.getElem?_eq_getElem hlt⟩
              obtain ⟨b, o, e, hbB, g0, g1, g2⟩ := (HC.out.below HBK.out).u k t ht
              have e' : Au = some ⟨b, o, none⟩ := e
              subst e'
              have HB3 := Lib.hid (hb_alloc HBK.out HS1.out (.cells #[.int .i64 t.x, .int .i64 t.y, .int .i64 t.z] 88))
              have HRR := Lib.hid (HRG.out _ (HX.out.below (B := w.heap.size + 1) (by omega) HB3.out))
              by_cases hv : unitB c.cen c.ds.length t = true
              · have HS := Lib.hid (all_snoc ht HP.out hv)
                have HT := Lib.hid (fun W => hv ▸ HU.out W t)
                clear ht hv e
                go_wp2_with (first | (with_reducible refine wpList_load_mid rfl 27 (.tmp 1) rfl w.heap.size 0 rfl cl _ HRR.out Tryz.underlying27 rfl H15.out ?_; rw [← HCL.out]) | (go_at_call 26; refine (HT.out _).mono ?_; rintro e W2 ⟨rfl, hb2⟩))
                have HB4 := Lib.hid (HB3.out.trans (hb2.mono (by simp; omega)))
                clear hb2
                go_roundw
                case rel => exact ⟨k + 1, by omega, by go_num, HS, HB4⟩
                case measure => simp [intOf]; omega
              · have hv' : unitB c.cen c.ds.length t = false := by simpa using hv
                have HR := Lib.hid (v_us (us_no ht hv'))
                have HT := Lib.hid (fun W => hv' ▸ HU.out W t)
                clear ht hv hv' e
                go_wp2_with (first | (with_reducible refine wpList_load_mid rfl 27 (.tmp 1) rfl w.heap.size 0 rfl cl _ HRR.out Tryz.underlying27 rfl H15.out ?_; rw [← HCL.out]) | (go_at_call 26; refine (HT.out _).mono ?_; rintro e W2 ⟨rfl, hb2⟩))
                go_ret
                exact ⟨5, rfl, by rw [HR.out]; rfl, HB.out.trans ((HB3.out.trans (hb2.mono (by simp; omega))).mono (by omega))⟩
            · obtain rfl : k = c.us.length := by omega
              have hbx := HX.out.below (B := w.heap.size + 1) (by omega) HBK.out
              have k3 : _ = some (Value.slice Au c.us.length uc) := hbx.k3
              have k4 : _ = some (Value.slice Ap c.ps.length pc) := hbx.k4
              clear hbx hlt hk
              by_cases hul2 : c.us.length ≤ 256
              rotate_left
              · have HR := Lib.hid (v_us (us_len hul2))
                go_wp2
                go_ret
                exact ⟨5, rfl, by rw [HR.out]; rfl, HB.out.trans (HBK.out.mono (by omega))⟩
              have HUS := Lib.hid (us_yes HP.out hul2)
              clear HP
              go_wp2
              go_loopw [86] (fun i wr => ∃ k : Nat, k ≤ c.ps.length ∧ i = .int .i64 k ∧ Hid ((c.ps.take k).all planB = true) ∧ Hid (((List.range c.ps.length).take k).all (freshB c.ps) = true) ∧ Hid (k ≤ 64) ∧ Hid (Below (w.heap.size + 1) (w.alloc (.cells ca 27)) wr)) (fun i _ => c.ps.length - (intOf i).toNat)
              case atStart => exact ⟨0, Nat.zero_le _, rfl, Lib.hid rfl, Lib.hid rfl, Lib.hid (by omega), HBK⟩
              case round =>
                clear k3 k4 HBK hszr
                obtain ⟨k, hk, rfl, HP, HF, HK64, HBK⟩ := hrel
                obtain ⟨wo, rfl⟩ : ∃ wo : World, wo = wr := ⟨_, rfl⟩
                have hszr := HBK.out.size
                rw [HS1.out] at hszr
                by_cases hlt : k < c.ps.length
                · obtain ⟨p, hp⟩ : ∃ p, c.ps[k]? = some p := ⟨_, List.getElem?_eq_getElem hlt⟩
                  obtain ⟨b, o, K, kc, e, hbB, g0, g1, g2, hki, hkl, hcl⟩ := (HC.out.below HBK.out).p k p hp
                  have e' : Ap = some ⟨b, o, none⟩ := e
                  subst e'
                  have HB3 := Lib.hid (hb_alloc HBK.out HS1.out (.cells #[.string p.code, .int .i64 p.urg, .slice K p.kinds.length kc] 76))
                  by_cases h64 : k < 64
                  rotate_left
                  · have HR := Lib.hid (v_ps (ps_len (show ¬ c.ps.length ≤ 64 by omega)))
                    clear hp e hki
                    go_wp2
                    go_ret
                    exact ⟨6, rfl, by rw [HR.out]; rfl, HB.out.trans (HB3.out.mono (by omega))⟩
                  have hszA := HB3.out.size
                  rw [HS1.out] at hszA
                  have HPA := Lib.hid (plan_any p K kc (w.heap.size + 1) (wo.alloc (.cells #[.string p.code, .int .i64 p.urg, .slice K p.kinds.length kc] 76)) (hki.below ((Below.refl _ wo).alloc hszr _)) hszA hkl hcl)
                  have HPP := Lib.hid hp
                  clear hszA hki
                  by_cases hv : planB p = true
                  rotate_left
                  · have hv' : planB p = false := by simpa using hv
                    have HR := Lib.hid (v_ps (ps_plan hp hv'))
                    rw [hv'] at HPA
                    clear hp hv hv' e
                    go_wp2_with (go_at_call 27; refine HPA.out.mono ?_; rintro e W2 ⟨rfl, hb2⟩)
                    go_ret
                    exact ⟨6, rfl, by rw [HR.out]; rfl, HB.out.trans ((HB3.out.trans (hb2.mono (by simp; omega))).mono (by omega))⟩
                  rw [hv] at HPA
                  have HS := Lib.hid (all_snoc hp HP.out hv)
                  clear hp hv e
                  go_wp2_with (go_at_call 27; refine HPA.out.mono ?_; rintro e W2 ⟨rfl, hb2⟩; have HB4 := Lib.hid (HB3.out.trans (hb2.mono (by simp; omega))); have k4 : _ = some (Value.slice (some ⟨b, o, none⟩) c.ps.length pc) := (HX.out.below (B := w.heap.size + 1) (by omega) HB4.out).k4; have HPB := Lib.hid ((hb2.block wo.heap.size (by simp)).trans (alloc_last wo (.cells #[.string p.code, .int .i64 p.urg, .slice K p.kinds.length kc] 76))); have hsz2 := hb2.size; clear hb2)
                  simp only [World.size_alloc] at hsz2
                  go_loopw [103] (fun i w5 => ∃ j : Nat, j ≤ k ∧ i = .int .i64 j ∧ Hid (((List.range k).take j).all (pairB c.ps k) = true) ∧ Hid (Below W2.heap.size W2 w5)) (fun i _ => k - (intOf i).toNat)
                  case atStart => exact ⟨0, Nat.zero_le _, rfl, Lib.hid rfl, Lib.hid (Below.refl _ _)⟩
                  case round =>
                    obtain ⟨j, hj, rfl, HJ, HBJ⟩ := hrel
                    have hsz5 := HBJ.out.size
                    have HBJ2 := Lib.hid (HB4.out.trans (HBJ.out.mono (by omega)))
                    by_cases hjt : j < k
                    · obtain ⟨q, hq⟩ : ∃ q, c.ps[j]? = some q := ⟨_, List.getElem?_eq_getElem (by omega)⟩
                      obtain ⟨b', o', K', kc', e, _, q0, q1, q2, _, hkl', hcl'⟩ := (HC.out.below HBJ2.out).p j q hq
                      have e' : some (⟨b, o, none⟩ : Addr) = some ⟨b', o', none⟩ := e
                      obtain ⟨rfl, rfl⟩ : b = b' ∧ o = o' := by cases e'; exact ⟨rfl, rfl⟩
                      have hpb := (HBJ.out.block wo.heap.size (by omega)).trans HPB.out
                      have hpb6 := (((Below.refl wr.heap.size wr).alloc (Nat.le_refl _) (.cells #[.string q.code, .int .i64 q.urg, .slice K' q.kinds.length kc'] 76)).block wo.heap.size (by omega)).trans hpb
                      have r0 : (wr.alloc (.cells #[.string q.code, .int .i64 q.urg, .slice K' q.kinds.length kc'] 76)).cell? ⟨wo.heap.size, 0, none⟩ = some (.string p.code) := by unfold World.cell?; simp only [hpb6]; rfl
                      have r1 : (wr.alloc (.cells #[.string q.code, .int .i64 q.urg, .slice K' q.kinds.length kc'] 76)).cell? ⟨wo.heap.size, 1, none⟩ = some (.int .i64 p.urg) := by unfold World.cell?; simp only [hpb6]; rfl
                      have HPR := Lib.hid (pair_eq HPP.out hq)
                      have HB6 := Lib.hid (HBJ2.out.alloc (by omega) (.cells #[.string q.code, .int .i64 q.urg, .slice K' q.kinds.length kc'] 76))
                      clear e e' hpb hpb6 hq k4
                      have HB7 := Lib.hid (HBJ.out.alloc hsz5 (.cells #[.string q.code, .int .i64 q.urg, .slice K' q.kinds.length kc'] 76))
                      go_wp2
                      · have ht : twinB q p = true := decide_eq_true ⟨by assumption, by simpa using ‹(q.urg == p.urg) = true›⟩
                        have HR := Lib.hid (v_ps (ps_twin hlt hjt (by rw [HPR.out, ht]; rfl)))
                        clear ht
                        go_ret
                        exact ⟨6, rfl, by rw [HR.out]; rfl, HB.out.trans (HB6.out.mono (by omega))⟩
                      · have hf : twinB q p = false := decide_eq_false fun h => by
                          have h2 := ‹(q.urg == p.urg) = false›
                          rw [h.2] at h2
                          simp at h2
                        go_roundw
                        case rel => exact ⟨j + 1, by omega, by go_num, Lib.hid (all_snoc (range_at hjt) HJ.out (by rw [HPR.out, hf]; rfl)), HB7⟩
                        case measure => simp [intOf]; omega
                      · have hf : twinB q p = false := decide_eq_false fun h => absurd h.1 ‹¬q.code.toList = p.code.toList›
                        go_roundw
                        case rel => exact ⟨j + 1, by omega, by go_num, Lib.hid (all_snoc (range_at hjt) HJ.out (by rw [HPR.out, hf]; rfl)), HB7⟩
                        case measure => simp [intOf]; omega
                    · obtain rfl : j = k := by omega
                      have HFS := Lib.hid (all_snoc (range_at hlt) HF.out (fresh_yes HJ.out))
                      clear k4
                      go_wp2
                      go_roundw
                      case rel => exact ⟨j + 1, by omega, by go_num, HS, HFS, Lib.hid (by omega), HBJ2⟩
                      case measure => simp [intOf]; omega
                · obtain rfl : k = c.ps.length := by omega
                  have HPS := Lib.hid (ps_yes HP.out HK64.out HF.out)
                  have HRR := Lib.hid (HRG.out _ (HX.out.below (B := w.heap.size + 1) (by omega) HBK.out))
                  clear HP HF HK64 hlt hk
                  go_wp2_with (first | (with_reducible refine wpList_load_mid rfl 27 (.tmp 1) rfl w.heap.size 0 rfl cl _ HRR.out Tryz.underlying27 rfl H15.out ?_; rw [← HCL.out]) | (go_at_call 28; refine (HN.out _).mono ?_; rintro e W2 ⟨bn, rfl, hb2, hbn, hcn⟩; have HCN := Lib.hid hcn; have HB4 := Lib.hid (HBK.out.trans (hb2.mono (by omega))); clear hb2 hcn))
                  go_loop [124] (fun i => ∃ k : Nat, k ≤ 10 ∧ i = .int .i64 k ∧ Hid ((c.ns.zipIdx.take k).all (fun p : Int × Nat => numB p.2 p.1) = true)) (fun i => 10 - (intOf i).toNat)
                  case atStart => exact ⟨0, Nat.zero_le _, rfl, Lib.hid rfl⟩
                  case round =>
                    obtain ⟨k, hk, rfl, HP⟩ := hrel
                    by_cases hlt : k < 10
                    rotate_left
                    · obtain rfl : k = 10 := by omega
                      have HR := Lib.hid (v_all HSZ.out HDS.out HES.out HUS.out HPS.out (nums_yes HP.out))
                      go_wp2
                      go_ret
                      exact ⟨0, rfl, by rw [HR.out]; rfl, HB.out.trans (HB4.out.mono (by omega))⟩
                    obtain ⟨z, hz⟩ : ∃ z, c.ns[k]? = some z := ⟨c.ns[k]'(by simpa [CfD.ns] using hlt), List.getElem?_eq_getElem _⟩
                    have hcz := HCN.out k z hz
                    have HZ := Lib.hid hz
                    clear hz
                    by_cases e6 : k = 6
                    · have HW := Lib.hid (show numB k z = withinB z 0 1099511627776 by rw [e6]; rfl)
                      have b6 : ((k : Int) == 6) = true := by simp; omega
                      clear e6
                      by_cases hv : numB k z = true
                      · have HS := Lib.hid (all_snoc (f := fun p : Int × Nat => numB p.2 p.1) (nums_at HZ.out) HP.out hv)
                        have HT := Lib.hid (show ∀ W, Calls Tryz.prog 29 #[.int .i64 z, .int .i64 0, .int .i64 1099511627776] W fun e w' => e = .returned (.bool true) ∧ W = w' from fun W => by rw [← hv, HW.out]; exact within_any z 0 1099511627776 W)
                        clear hv
                        go_wp2_with (go_at_call 29; refine (HT.out _).mono ?_; rintro e w' ⟨rfl, rfl⟩)
                        go_round
                        case rel => exact ⟨k + 1, by omega, by go_num, HS⟩
                        case measure => simp [intOf]; omega
                      · have hv' : numB k z = false := by simpa using hv
                        have HR := Lib.hid (v_ns (nums_no HZ.out hv'))
                        have HT := Lib.hid (show ∀ W, Calls Tryz.prog 29 #[.int .i64 z, .int .i64 0, .int .i64 1099511627776] W fun e w' => e = .returned (.bool false) ∧ W = w' from fun W => by rw [← hv', HW.out]; exact within_any z 0 1099511627776 W)
                        clear hv hv'
                        go_wp2_with (go_at_call 29; refine (HT.out _).mono ?_; rintro e w' ⟨rfl, rfl⟩)
                        go_ret
                        exact ⟨7, rfl, by rw [HR.out]; rfl, HB.out.trans (HB4.out.mono (by omega))⟩
                    by_cases e7 : k = 7
                    · have HW := Lib.hid (show numB k z = withinB z 0 1099511627776 by rw [e7]; rfl)
                      have b6 : ((k : Int) == 6) = false := by simp; omega
                      have b7 : ((k : Int) == 7) = true := by simp; omega
                      clear e7
                      by_cases hv : numB k z = true
                      · have HS := Lib.hid (all_snoc (f := fun p : Int × Nat => numB p.2 p.1) (nums_at HZ.out) HP.out hv)
                        have HT := Lib.hid (show ∀ W, Calls Tryz.prog 29 #[.int .i64 z, .int .i64 0, .int .i64 1099511627776] W fun e w' => e = .returned (.bool true) ∧ W = w' from fun W => by rw [← hv, HW.out]; exact within_any z 0 1099511627776 W)
                        clear hv
                        go_wp2_with (go_at_call 29; refine (HT.out _).mono ?_; rintro e w' ⟨rfl, rfl⟩)
                        go_round
                        case rel => exact ⟨k + 1, by omega, by go_num, HS⟩
                        case measure => simp [intOf]; omega
                      · have hv' : numB k z = false := by simpa using hv
                        have HR := Lib.hid (v_ns (nums_no HZ.out hv'))
                        have HT := Lib.hid (show ∀ W, Calls Tryz.prog 29 #[.int .i64 z, .int .i64 0, .int .i64 1099511627776] W fun e w' => e = .returned (.bool false) ∧ W = w' from fun W => by rw [← hv', HW.out]; exact within_any z 0 1099511627776 W)
                        clear hv hv'
                        go_wp2_with (go_at_call 29; refine (HT.out _).mono ?_; rintro e w' ⟨rfl, rfl⟩)
                        go_ret
                        exact ⟨7, rfl, by rw [HR.out]; rfl, HB.out.trans (HB4.out.mono (by omega))⟩
                    by_cases e8 : k = 8
                    · have HW := Lib.hid (show numB k z = withinB z 0 256 by rw [e8]; rfl)
                      have b6 : ((k : Int) == 6) = false := by simp; omega
                      have b7 : ((k : Int) == 7) = false := by simp; omega
                      have b8 : ((k : Int) == 8) = true := by simp; omega
                      clear e8
                      by_cases hv : numB k z = true
                      · have HS := Lib.hid (all_snoc (f := fun p : Int × Nat => numB p.2 p.1) (nums_at HZ.out) HP.out hv)
                        have HT := Lib.hid (show ∀ W, Calls Tryz.prog 29 #[.int .i64 z, .int .i64 0, .int .i64 256] W fun e w' => e = .returned (.bool true) ∧ W = w' from fun W => by rw [← hv, HW.out]; exact within_any z 0 256 W)
                        clear hv
                        go_wp2_with (go_at_call 29; refine (HT.out _).mono ?_; rintro e w' ⟨rfl, rfl⟩)
                        go_round
                        case rel => exact ⟨k + 1, by omega, by go_num, HS⟩
                        case measure => simp [intOf]; omega
                      · have hv' : numB k z = false := by simpa using hv
                        have HR := Lib.hid (v_ns (nums_no HZ.out hv'))
                        have HT := Lib.hid (show ∀ W, Calls Tryz.prog 29 #[.int .i64 z, .int .i64 0, .int .i64 256] W fun e w' => e = .returned (.bool false) ∧ W = w' from fun W => by rw [← hv', HW.out]; exact within_any z 0 256 W)
                        clear hv hv'
                        go_wp2_with (go_at_call 29; refine (HT.out _).mono ?_; rintro e w' ⟨rfl, rfl⟩)
                        go_ret
                        exact ⟨7, rfl, by rw [HR.out]; rfl, HB.out.trans (HB4.out.mono (by omega))⟩
                    by_cases e9 : k = 9
                    · have HW := Lib.hid (show numB k z = withinB z 1 4096 by rw [e9]; rfl)
                      have b6 : ((k : Int) == 6) = false := by simp; omega
                      have b7 : ((k : Int) == 7) = false := by simp; omega
                      have b8 : ((k : Int) == 8) = false := by simp; omega
                      have b9 : ((k : Int) == 9) = true := by simp; omega
                      clear e9
                      by_cases hv : numB k z = true
                      · have HS := Lib.hid (all_snoc (f := fun p : Int × Nat => numB p.2 p.1) (nums_at HZ.out) HP.out hv)
                        have HT := Lib.hid (show ∀ W, Calls Tryz.prog 29 #[.int .i64 z, .int .i64 1, .int .i64 4096] W fun e w' => e = .returned (.bool true) ∧ W = w' from fun W => by rw [← hv, HW.out]; exact within_any z 1 4096 W)
                        clear hv
                        go_wp2_with (go_at_call 29; refine (HT.out _).mono ?_; rintro e w' ⟨rfl, rfl⟩)
                        go_round
                        case rel => exact ⟨k + 1, by omega, by go_num, HS⟩
                        case measure => simp [intOf]; omega
                      · have hv' : numB k z = false := by simpa using hv
                        have HR := Lib.hid (v_ns (nums_no HZ.out hv'))
                        have HT := Lib.hid (show ∀ W, Calls Tryz.prog 29 #[.int .i64 z, .int .i64 1, .int .i64 4096] W fun e w' => e = .returned (.bool false) ∧ W = w' from fun W => by rw [← hv', HW.out]; exact within_any z 1 4096 W)
                        clear hv hv'
                        go_wp2_with (go_at_call 29; refine (HT.out _).mono ?_; rintro e w' ⟨rfl, rfl⟩)
                        go_ret
                        exact ⟨7, rfl, by rw [HR.out]; rfl, HB.out.trans (HB4.out.mono (by omega))⟩
                    have HW := Lib.hid (show numB k z = withinB z 1 1048576 by exact numB_other e6 e7 e8 e9)
                    have b6 : ((k : Int) == 6) = false := by simp; omega
                    have b7 : ((k : Int) == 7) = false := by simp; omega
                    have b8 : ((k : Int) == 8) = false := by simp; omega
                    have b9 : ((k : Int) == 9) = false := by simp; omega
                    by_cases hv : numB k z = true
                    · have HS := Lib.hid (all_snoc (f := fun p : Int × Nat => numB p.2 p.1) (nums_at HZ.out) HP.out hv)
                      have HT := Lib.hid (show ∀ W, Calls Tryz.prog 29 #[.int .i64 z, .int .i64 1, .int .i64 1048576] W fun e w' => e = .returned (.bool true) ∧ W = w' from fun W => by rw [← hv, HW.out]; exact within_any z 1 1048576 W)
                      clear hv
                      go_wp2_with (go_at_call 29; refine (HT.out _).mono ?_; rintro e w' ⟨rfl, rfl⟩)
                      go_round
                      case rel => exact ⟨k + 1, by omega, by go_num, HS⟩
                      case measure => simp [intOf]; omega
                    · have hv' : numB k z = false := by simpa using hv
                      have HR := Lib.hid (v_ns (nums_no HZ.out hv'))
                      have HT := Lib.hid (show ∀ W, Calls Tryz.prog 29 #[.int .i64 z, .int .i64 1, .int .i64 1048576] W fun e w' => e = .returned (.bool false) ∧ W = w' from fun W => by rw [← hv', HW.out]; exact within_any z 1 1048576 W)
                      clear hv hv'
                      go_wp2_with (go_at_call 29; refine (HT.out _).mono ?_; rintro e w' ⟨rfl, rfl⟩)
                      go_ret
                      exact ⟨7, rfl, by rw [HR.out]; rfl, HB.out.trans (HB4.out.mono (by omega))⟩
end Go.Proofs.YtgaimkgaooiieaaGreatDoor
