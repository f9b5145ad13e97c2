/-
  What config.validEdges, validUnits and slices.ContainsFunc at the test of a district answer in this program, for every configuration within the reach.
-/
import Derived.Test.YtgaimkgaooiieaaGreatDoorAwakeCfgD
namespace Go.Proofs.YtgaimkgaooiieaaGreatDoor
open Go Go.RowKit

theorem below_drewN {B n : Nat} {a W : World} (h : Below B a W) : Below B a (W.drewN n) := h.trans ⟨rfl, rfl, rfl, Nat.le_refl _, fun _ _ => rfl⟩
theorem edge_x {n : Int} {t : TriD} (h : idxB t.x n = false) : edgeB n t = false := by simp [edgeB, h]
theorem edge_y {n : Int} {t : TriD} (h : idxB t.y n = false) : edgeB n t = false := by simp [edgeB, h]
theorem edge_z {n : Int} {t : TriD} (h : timeB t.z = false) : edgeB n t = false := by simp [edgeB, h]
theorem edge_yes {n : Int} {t : TriD} (h1 : idxB t.x n = true) (h2 : idxB t.y n = true) (h3 : timeB t.z = true) : edgeB n t = true := by simp [edgeB, h1, h2, h3]
theorem unit_x {n m : Int} {t : TriD} (h : kindB t.x = false) : unitB n m t = false := by simp [unitB, h]
theorem unit_y {n m : Int} {t : TriD} (h : idxB t.y n = false) : unitB n m t = false := by simp [unitB, h]
theorem unit_z {n m : Int} {t : TriD} (h : idxB t.z m = false) : unitB n m t = false := by simp [unitB, h]
theorem unit_yes {n m : Int} {t : TriD} (h1 : kindB t.x = true) (h2 : idxB t.y n = true) (h3 : idxB t.z m = true) : unitB n m t = true := by simp [unitB, h1, h2, h3]
theorem idx_is {i n : Int} {v : Bool} (h : idxB i n = v) : ∀ W, Calls Tryz.prog 63 #[.int .i64 i, .int .i64 n] W fun e w' => e = .returned (.bool v) ∧ w' = W := fun W => (idx_any i n W).mono fun _ _ ⟨h1, h2⟩ => ⟨by rw [h1, h], h2.symm⟩
theorem kind_is {i : Int} {v : Bool} (h : kindB i = v) : ∀ W, Calls Tryz.prog 132 #[.int .i64 i] W fun e w' => e = .returned (.bool v) ∧ w' = W := fun W => (kind_any i W).mono fun _ _ ⟨h1, h2⟩ => ⟨by rw [h1, h], h2.symm⟩

set_option maxHeartbeats 8000000 in
set_option maxRecDepth 100000 in
theorem validEdges_any (c : CfD) (P : CfP) (g B : Nat) (w : World) (hX : CfBox w g c P) (hg : g < B) (hC : CfAt w B c P) (hB : B ≤ w.heap.size) :
    Calls Tryz.prog 64 #[.pointer (some ⟨g, 0, none⟩)] w (Says (esB c) w) := by
  obtain ⟨Ad, dc, Ae, ec, Au, uc, Ap, pc⟩ := P
  have HX := Lib.hid hX
  have HC := Lib.hid hC
  have k1 : _ = some (Value.slice Ad c.ds.length dc) := hX.k1
  have k2 : _ = some (Value.slice Ae c.es.length ec) := hX.k2
  have hdl := hC.dl
  have hel := hC.el
  clear hX hC
  go_enter Tryz.func64, Tryz.ntmps64
  go_wp2
  go_loopw [16] (fun i wr => ∃ k : Nat, k ≤ c.es.length ∧ i = .int .i64 k ∧ Hid ((c.es.take k).all (edgeB c.ds.length) = true) ∧ Hid (Below w.heap.size w wr)) (fun i _ => c.es.length - (intOf i).toNat)
  case atStart => exact ⟨0, Nat.zero_le _, rfl, Lib.hid rfl, Lib.hid (Below.refl _ _)⟩
  case round =>
    clear k1 k2
    obtain ⟨k, hk, rfl, HP, HBK⟩ := hrel
    have hszr := HBK.out.size
    by_cases hlt : k < c.es.length
    · obtain ⟨t, ht⟩ : ∃ t, c.es[k]? = some t := ⟨_, List.getElem?_eq_getElem hlt⟩
      obtain ⟨b, o, e, hbB, g0, g1, g2⟩ := (HC.out.below (HBK.out.mono hB)).e k t ht
      have e' : Ae = some ⟨b, o, none⟩ := e
      subst e'
      have HB3 := Lib.hid (HBK.out.alloc hszr (.cells #[.int .i64 t.x, .int .i64 t.y, .int .i64 t.z] 85))
      have HT := Lib.hid ht
      clear ht e
      by_cases hx : idxB t.x c.ds.length = true
      rotate_left
      · have hx' : idxB t.x c.ds.length = false := by simpa using hx
        have HR := Lib.hid (es_no HT.out (edge_x hx'))
        have HI := Lib.hid (idx_is hx')
        clear hx hx'
        go_wp2_with (go_at_call 63; refine (HI.out _).mono ?_; rintro e W2 ⟨rfl, rfl⟩)
        go_ret
        exact ⟨by rw [HR.out]; rfl, HB3.out⟩
      have HIX := Lib.hid (idx_is hx)
      have HX1 := Lib.hid hx
      clear hx
      by_cases hy : idxB t.y c.ds.length = true
      rotate_left
      · have hy' : idxB t.y c.ds.length = false := by simpa using hy
        have HR := Lib.hid (es_no HT.out (edge_y hy'))
        have HIY := Lib.hid (idx_is hy')
        clear hy hy'
        go_wp2_with (first | (go_at_call 63; (with_reducible refine (HIX.out _).mono ?_); rintro e W2 ⟨rfl, rfl⟩) | (go_at_call 63; (with_reducible refine (HIY.out _).mono ?_); rintro e W2 ⟨rfl, rfl⟩))
        go_ret
        exact ⟨by rw [HR.out]; rfl, HB3.out⟩
      have HIY := Lib.hid (idx_is hy)
      have HY1 := Lib.hid hy
      clear hy
      by_cases a12 : 1 ≤ t.z ∧ t.z ≤ 1048576
      · obtain ⟨a1, a2⟩ := a12
        have HS := Lib.hid (all_snoc HT.out HP.out (edge_yes HX1.out HY1.out (decide_eq_true (.inl ⟨a1, a2⟩))))
        go_wp2_with (first | (go_at_call 63; (with_reducible refine (HIX.out _).mono ?_); rintro e W2 ⟨rfl, rfl⟩) | (go_at_call 63; (with_reducible refine (HIY.out _).mono ?_); rintro e W2 ⟨rfl, rfl⟩))
        go_roundw
        case rel => exact ⟨k + 1, by omega, by go_num, HS, HB3⟩
        case measure => simp [intOf]; omega
      by_cases a3 : t.z = 4611686018427387904
      · have a1 : 1 ≤ t.z := by omega
        have a2 : 1048576 < t.z := by omega
        have b3 : (t.z != 4611686018427387904) = false := by simp [a3]
        have HS := Lib.hid (all_snoc HT.out HP.out (edge_yes HX1.out HY1.out (decide_eq_true (.inr a3))))
        clear a12 a3
        go_wp2_with (first | (go_at_call 63; (with_reducible refine (HIX.out _).mono ?_); rintro e W2 ⟨rfl, rfl⟩) | (go_at_call 63; (with_reducible refine (HIY.out _).mono ?_); rintro e W2 ⟨rfl, rfl⟩))
        go_roundw
        case rel => exact ⟨k + 1, by omega, by go_num, HS, HB3⟩
        case measure => simp [intOf]; omega
      by_cases a1 : 1 ≤ t.z
      · have a2 : 1048576 < t.z := by omega
        have HR := Lib.hid (es_no HT.out (edge_z (show timeB t.z = false from decide_eq_false (by omega))))
        have b3 : (t.z != 4611686018427387904) = true := by simpa using a3
        clear a3
        go_wp2_with (first | (go_at_call 63; (with_reducible refine (HIX.out _).mono ?_); rintro e W2 ⟨rfl, rfl⟩) | (go_at_call 63; (with_reducible refine (HIY.out _).mono ?_); rintro e W2 ⟨rfl, rfl⟩))
        go_ret
        exact ⟨by rw [HR.out]; rfl, HB3.out⟩
      · have a2 : t.z < 1 := by omega
        have HR := Lib.hid (es_no HT.out (edge_z (show timeB t.z = false from decide_eq_false (by omega))))
        have b3 : (t.z != 4611686018427387904) = true := by simpa using a3
        clear a3
        go_wp2_with (first | (go_at_call 63; (with_reducible refine (HIX.out _).mono ?_); rintro e W2 ⟨rfl, rfl⟩) | (go_at_call 63; (with_reducible refine (HIY.out _).mono ?_); rintro e W2 ⟨rfl, rfl⟩))
        go_ret
        exact ⟨by rw [HR.out]; rfl, HB3.out⟩
    · obtain rfl : k = c.es.length := by omega
      have k2 : _ = some (Value.slice Ae c.es.length ec) := (HX.out.below (B := w.heap.size) (by omega) HBK.out).k2
      clear hlt hk
      go_wp2
      go_ret
      refine ⟨ret_bool ?_, HBK.out⟩
      simp only [esB, all_full HP.out, Bool.true_and]
      rw [Bool.eq_iff_iff, decide_eq_true_iff, decide_eq_true_iff]
      omega

theorem quiet_idx {i n : Int} {v : Bool} (h : idxB i n = v) (W : World) (m : Nat) : Calls Tryz.prog 63 #[.int .i64 i, .int .i64 n] (W.drewN m) fun e w'' => e = .returned (.bool v) ∧ ∃ m, w'' = W.drewN m := Calls.quiet_of_same (idx_is h _)
theorem quiet_kind {i : Int} {v : Bool} (h : kindB i = v) (W : World) (m : Nat) : Calls Tryz.prog 132 #[.int .i64 i] (W.drewN m) fun e w'' => e = .returned (.bool v) ∧ ∃ m, w'' = W.drewN m := Calls.quiet_of_same (kind_is h _)
set_option maxHeartbeats 8000000 in
set_option maxRecDepth 100000 in
theorem validUnits_any (c : CfD) (P : CfP) (g B : Nat) (w : World) (hX : CfBox w g c P) (hg : g < B) (hC : CfAt w B c P) (hB : B ≤ w.heap.size) :
    Calls Tryz.prog 65 #[.pointer (some ⟨g, 0, none⟩)] w (Says (usB c) w) := by
  obtain ⟨Ad, dc, Ae, ec, Au, uc, Ap, pc⟩ := P
  have HX := Lib.hid hX
  have HC := Lib.hid hC
  have k3 : _ = some (Value.slice Au c.us.length uc) := hX.k3
  have hdl := hC.dl
  have hul := hC.ul
  clear hX hC
  go_enter Tryz.func65, Tryz.ntmps65
  go_wp2
  go_loopw [10] (fun i wr => ∃ k : Nat, k ≤ c.us.length ∧ i = .int .i64 k ∧ Hid ((c.us.take k).all (unitB c.cen c.ds.length) = true) ∧ Hid (Below w.heap.size w wr)) (fun i _ => c.us.length - (intOf i).toNat)
  case atStart => exact ⟨0, Nat.zero_le _, rfl, Lib.hid rfl, Lib.hid (Below.refl _ _)⟩
  case round =>
    clear k3
    obtain ⟨k, hk, rfl, HP, HBK⟩ := hrel
    have hszr := HBK.out.size
    by_cases hlt : k < c.us.length
    · obtain ⟨t, ht⟩ : ∃ t, c.us[k]? = some t := ⟨_, List.getElem?_eq_getElem hlt⟩
      obtain ⟨b, o, e, hbB, g0, g1, g2⟩ := (HC.out.below (HBK.out.mono hB)).u k t ht
      have e' : Au = some ⟨b, o, none⟩ := e
      subst e'
      have hb3 := HBK.out.alloc hszr (.cells #[.int .i64 t.x, .int .i64 t.y, .int .i64 t.z] 88)
      have HB3 := Lib.hid hb3
      have hx3 := HX.out.below (B := w.heap.size) (by omega) hb3
      have k0 : _ = some (Value.int .i64 c.cen) := hx3.k0
      have k1 : _ = some (Value.slice Ad c.ds.length dc) := hx3.k1
      have HT := Lib.hid ht
      clear ht e hb3 hx3
      by_cases hx : kindB t.x = true
      rotate_left
      · have hx' : kindB t.x = false := by simpa using hx
        have HR := Lib.hid (us_no HT.out (unit_x (n := c.cen) (m := c.ds.length) hx'))
        have HI := Lib.hid (quiet_kind hx')
        clear hx hx'
        go_wp2
        go_quiet ((go_at_call 132; exact HI.out _ _))
        go_wp2
        go_ret
        exact ⟨by rw [HR.out]; rfl, below_drewN HB3.out⟩
      have HIX := Lib.hid (quiet_kind hx)
      have HX1 := Lib.hid hx
      clear hx
      by_cases hy : idxB t.y c.cen = true
      rotate_left
      · have hy' : idxB t.y c.cen = false := by simpa using hy
        have HR := Lib.hid (us_no HT.out (unit_y (m := c.ds.length) hy'))
        have HIY := Lib.hid (quiet_idx hy')
        clear hy hy'
        go_wp2
        go_quiet ((first | (go_at_call 132; exact HIX.out _ _) | (go_at_call 63; with_reducible exact HIY.out _ _)))
        go_wp2
        go_ret
        exact ⟨by rw [HR.out]; rfl, below_drewN HB3.out⟩
      have HIY := Lib.hid (quiet_idx hy)
      have HY1 := Lib.hid hy
      clear hy
      by_cases hz : idxB t.z c.ds.length = true
      · have HIZ := Lib.hid (quiet_idx hz)
        have HS := Lib.hid (all_snoc HT.out HP.out (unit_yes HX1.out HY1.out hz))
        clear hz
        go_wp2
        go_quiet ((first | (go_at_call 132; exact HIX.out _ _) | (go_at_call 63; with_reducible exact HIY.out _ _) | (go_at_call 63; with_reducible exact HIZ.out _ _)))
        go_wp2
        go_roundw
        case rel => exact ⟨k + 1, by omega, by go_num, HS, Lib.hid (below_drewN HB3.out)⟩
        case measure => simp [intOf]; omega
      · have hz' : idxB t.z c.ds.length = false := by simpa using hz
        have HR := Lib.hid (us_no HT.out (unit_z (n := c.cen) hz'))
        have HIZ := Lib.hid (quiet_idx hz')
        clear hz hz'
        go_wp2
        go_quiet ((first | (go_at_call 132; exact HIX.out _ _) | (go_at_call 63; with_reducible exact HIY.out _ _) | (go_at_call 63; with_reducible exact HIZ.out _ _)))
        go_wp2
        go_ret
        exact ⟨by rw [HR.out]; rfl, below_drewN HB3.out⟩
    · obtain rfl : k = c.us.length := by omega
      have k3 : _ = some (Value.slice Au c.us.length uc) := (HX.out.below (B := w.heap.size) (by omega) HBK.out).k3
      clear hlt hk
      go_wp2
      go_ret
      refine ⟨ret_bool ?_, HBK.out⟩
      simp only [usB, all_full HP.out, Bool.true_and]
      rw [Bool.eq_iff_iff, decide_eq_true_iff, decide_eq_true_iff]
      omega
end Go.Proofs.YtgaimkgaooiieaaGreatDoor
