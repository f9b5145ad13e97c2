/-
  What slices.ContainsFunc at the test of a district and config.Validate answer in this program, for every configuration within the reach.
-/
import Derived.Test.YtgaimkgaooiieaaGreatDoorAwakeCfgF
import Derived.Test.YtgaimkgaooiieaaGreatDoorAwakeParams
namespace Go.Proofs.YtgaimkgaooiieaaGreatDoor
open Go Go.RowKit

theorem dist_is {c : CfD} {P : CfP} {g : Nat} {w : World} {d : Int} {v : Bool} (hX : CfBox w g c P) (h : idxB d c.cen = v) : Calls Tryz.prog 62 #[.int .i64 d, .pointer (some ⟨g, 0, none⟩)] w fun e w' => e = .returned (.bool !v) ∧ w' = w := by
  have k0 := hX.k0
  have HI := Lib.hid (idx_is h)
  clear hX h
  cases v
  · go_enter Tryz.func62, Tryz.ntmps62
    go_wp2_with (go_at_call 63; refine (HI.out _).mono ?_; rintro e w' ⟨rfl, rfl⟩)
    go_ret
    exact ⟨rfl, rfl⟩
  · go_enter Tryz.func62, Tryz.ntmps62
    go_wp2_with (go_at_call 63; refine (HI.out _).mono ?_; rintro e w' ⟨rfl, rfl⟩)
    go_ret
    exact ⟨rfl, rfl⟩
def IdxRet (v : Bool) (w : World) (e : Ending) (w' : World) : Prop := ∃ r : Int, e = .returned (.int .i64 r) ∧ decide (0 ≤ r) = v ∧ w' = w
set_option maxHeartbeats 4000000 in
set_option maxRecDepth 100000 in
theorem index_any (c : CfD) (P : CfP) (g B : Nat) (w : World) (hX : CfBox w g c P) (hC : CfAt w B c P) :
    Calls Tryz.prog 131 #[.slice P.d c.ds.length P.dc, .func (.func 62) #[] #[.pointer (some ⟨g, 0, none⟩)]] w (IdxRet (!dsB c) w) := by
  obtain ⟨Ad, dc, Ae, ec, Au, uc, Ap, pc⟩ := P
  have HX := Lib.hid hX
  have HC := Lib.hid hC
  have hdl := hC.dl
  clear hX hC
  go_enter Tryz.func131, Tryz.ntmps131
  go_wp2
  go_loop [8] (fun i => ∃ k : Nat, k ≤ c.ds.length ∧ i = .int .i64 k ∧ Hid ((c.ds.take k).all (fun d => idxB d c.cen) = true)) (fun i => c.ds.length - (intOf i).toNat)
  case atStart => exact ⟨0, Nat.zero_le _, rfl, Lib.hid rfl⟩
  case round =>
    obtain ⟨k, hk, rfl, HP⟩ := hrel
    by_cases hlt : k < c.ds.length
    · obtain ⟨z, hz⟩ : ∃ z, c.ds[k]? = some z := ⟨_, List.getElem?_eq_getElem hlt⟩
      obtain ⟨b, o, e, hbB, hcz⟩ := HC.out.d k z hz
      have e' : Ad = some ⟨b, o, none⟩ := e
      subst e'
      by_cases hz1 : idxB z c.cen = true
      · have HS := Lib.hid (all_snoc hz HP.out hz1)
        have HD := Lib.hid (dist_is HX.out hz1)
        clear hz hz1 e
        go_wp2_with (go_at_call 62; refine HD.out.mono ?_; rintro e w' ⟨rfl, rfl⟩)
        go_round
        case rel => exact ⟨k + 1, by omega, by go_num, HS⟩
        case measure => simp [intOf]; omega
      · have hz' : idxB z c.cen = false := by simpa using hz1
        have HR := Lib.hid (show dsB c = false from all_no (f := fun d => idxB d c.cen) hz hz')
        have HD := Lib.hid (dist_is HX.out hz')
        clear hz hz1 hz' e
        go_wp2_with (go_at_call 62; refine HD.out.mono ?_; rintro e w' ⟨rfl, rfl⟩)
        go_ret
        exact ⟨k, rfl, by rw [HR.out]; exact decide_eq_true (by omega), rfl⟩
    · obtain rfl : k = c.ds.length := by omega
      have HR := Lib.hid (show dsB c = true from all_full HP.out)
      go_wp2
      go_ret
      exact ⟨-1, rfl, by rw [HR.out]; rfl, rfl⟩
theorem contains_any (c : CfD) (P : CfP) (g B : Nat) (w : World) (hX : CfBox w g c P) (hC : CfAt w B c P) :
    Calls Tryz.prog 61 #[.slice P.d c.ds.length P.dc, .func (.func 62) #[] #[.pointer (some ⟨g, 0, none⟩)]] w fun e w' => e = .returned (.bool !dsB c) ∧ w' = w := by
  have HI := Lib.hid (index_any c P g B w hX hC)
  clear hX hC
  go_enter Tryz.func61, Tryz.ntmps61
  go_wp2_with (go_at_call 131; refine HI.out.mono ?_; rintro e w' ⟨r, rfl, hr, rfl⟩; have HR := Lib.hid hr; clear hr)
  go_ret
  exact ⟨by rw [← HR.out]; rfl, rfl⟩

set_option maxHeartbeats 8000000 in
set_option maxRecDepth 100000 in
theorem validate_any (c : CfD) (P : CfP) (B : Nat) (w : World) (hc : CfAt w B c P) (hB : B ≤ w.heap.size) (hw : 2 ≤ w.heap.size) : Calls Tryz.prog 24 #[.agg (cfCells c P)] w (Zero (validB c) w) := by
  obtain ⟨Ad, dc, Ae, ec, Au, uc, Ap, pc⟩ := P
  have hB1 : Below w.heap.size w (w.alloc (.cells (cfCells c ⟨Ad, dc, Ae, ec, Au, uc, Ap, pc⟩) 27)) := (Below.refl _ w).alloc (Nat.le_refl _) _
  have HB := Lib.hid hB1
  have HS1 := Lib.hid (show (w.alloc (.cells (cfCells c ⟨Ad, dc, Ae, ec, Au, uc, Ap, pc⟩) 27)).heap.size = w.heap.size + 1 by simp)
  have HC := Lib.hid ((hc.below (hB1.mono hB)).mono (show B ≤ w.heap.size + 1 by omega))
  have hbox := CfBox.new w c ⟨Ad, dc, Ae, ec, Au, uc, Ap, pc⟩
  have HX := Lib.hid hbox
  have HK : Hid (∀ W, Below (w.heap.size + 1) (w.alloc (.cells (cfCells c ⟨Ad, dc, Ae, ec, Au, uc, Ap, pc⟩) 27)) W → w.heap.size + 1 ≤ W.heap.size ∧ CfBox W w.heap.size c ⟨Ad, dc, Ae, ec, Au, uc, Ap, pc⟩ ∧ CfAt W (w.heap.size + 1) c ⟨Ad, dc, Ae, ec, Au, uc, Ap, pc⟩) :=
    Lib.hid (fun W hb => ⟨by have := hb.size; rw [HS1.out] at this; exact this, HX.out.below (by omega) hb, HC.out.below hb⟩)
  have K1 := Lib.hid (fun W hb => contains_any c ⟨Ad, dc, Ae, ec, Au, uc, Ap, pc⟩ w.heap.size (w.heap.size + 1) W (HK.out W hb).2.1 (HK.out W hb).2.2)
  have K2 := Lib.hid (fun W hb => validEdges_any c ⟨Ad, dc, Ae, ec, Au, uc, Ap, pc⟩ w.heap.size (w.heap.size + 1) W (HK.out W hb).2.1 (by omega) (HK.out W hb).2.2 (HK.out W hb).1)
  have K3 := Lib.hid (fun W hb => validUnits_any c ⟨Ad, dc, Ae, ec, Au, uc, Ap, pc⟩ w.heap.size (w.heap.size + 1) W (HK.out W hb).2.1 (by omega) (HK.out W hb).2.2 (HK.out W hb).1)
  have K4 := Lib.hid (fun W hb => validPlans_any c ⟨Ad, dc, Ae, ec, Au, uc, Ap, pc⟩ w.heap.size (w.heap.size + 1) W (HK.out W hb).2.1 (by omega) (HK.out W hb).2.2 (HK.out W hb).1)
  have K5 := Lib.hid (fun W hb => params_any c ⟨Ad, dc, Ae, ec, Au, uc, Ap, pc⟩ w.heap.size W (by have := (HK.out W hb).1; omega) (HK.out W hb).2.1)
  have k0 : _ = some (Value.int .i64 c.cen) := hbox.k0
  have k1 : _ = some (Value.slice Ad c.ds.length dc) := hbox.k1
  have hdl := hc.dl
  clear hB1 hbox hc
  obtain ⟨ca, hca⟩ : ∃ ca, ca = cfCells c ⟨Ad, dc, Ae, ec, Au, uc, Ap, pc⟩ := ⟨_, rfl⟩
  rw [← hca] at HB k0 k1 HS1 HC HX HK K1 K2 K3 K4 K5 ⊢
  clear hca
  by_cases h1 : 1 ≤ c.cen
  rotate_left
  · have HR := Lib.hid (v_size (size_cen1 h1))
    go_enter Tryz.func24, Tryz.ntmps24
    go_wp2
    go_ret
    exact ⟨1, rfl, by rw [HR.out]; rfl, HB.out⟩
  by_cases h2 : c.cen ≤ 9
  rotate_left
  · have HR := Lib.hid (v_size (size_cen2 h2))
    go_enter Tryz.func24, Tryz.ntmps24
    go_wp2
    go_ret
    exact ⟨1, rfl, by rw [HR.out]; rfl, HB.out⟩
  by_cases h3 : 1 ≤ c.ds.length
  rotate_left
  · have HR := Lib.hid (v_size (size_ds1 h3))
    go_enter Tryz.func24, Tryz.ntmps24
    go_wp2
    go_ret
    exact ⟨2, rfl, by rw [HR.out]; rfl, HB.out⟩
  by_cases h4 : c.ds.length ≤ 4096
  rotate_left
  · have HR := Lib.hid (v_size (size_ds2 h4))
    go_enter Tryz.func24, Tryz.ntmps24
    go_wp2
    go_ret
    exact ⟨2, rfl, by rw [HR.out]; rfl, HB.out⟩
  have HSZ := Lib.hid (size_yes h1 h2 h3 h4)
  have K1' := Lib.hid (K1.out _ (Below.refl _ _))
  clear K1
  by_cases hd : dsB c = true
  rotate_left
  · have hd' : dsB c = false := by simpa using hd
    have HR := Lib.hid (v_ds hd')
    rw [hd'] at K1'
    clear hd hd'
    go_enter Tryz.func24, Tryz.ntmps24
    go_wp2_with (go_at_call 61; refine K1'.out.mono ?_; rintro e w' ⟨rfl, rfl⟩)
    go_ret
    exact ⟨3, rfl, by rw [HR.out]; rfl, HB.out⟩
  rw [hd] at K1'
  have HDS := Lib.hid hd
  have K2' := Lib.hid (K2.out _ (Below.refl _ _))
  clear K2 hd
  by_cases hd : esB c = true
  rotate_left
  · have hd' : esB c = false := by simpa using hd
    have HR := Lib.hid (v_es hd')
    rw [hd'] at K2'
    clear hd hd'
    go_enter Tryz.func24, Tryz.ntmps24
    go_wp2_with (first | (go_at_call 61; refine K1'.out.mono ?_; rintro e w' ⟨rfl, rfl⟩) | (go_at_call 64; refine K2'.out.mono ?_; rintro e W2 ⟨rfl, hb2⟩))
    go_ret
    exact ⟨4, rfl, by rw [HR.out]; rfl, HB.out.trans (hb2.mono (by simp))⟩
  rw [hd] at K2'
  have HES := Lib.hid hd
  clear hd
  by_cases hd : usB c = true
  rotate_left
  · have hd' : usB c = false := by simpa using hd
    have HR := Lib.hid (v_us hd')
    rw [hd'] at K3
    clear hd hd'
    go_enter Tryz.func24, Tryz.ntmps24
    go_wp2_with (first | (go_at_call 61; refine K1'.out.mono ?_; rintro e w' ⟨rfl, rfl⟩) | (go_at_call 64; refine K2'.out.mono ?_; rintro e W2 ⟨rfl, hb2⟩; have HB2 := Lib.hid (hb2.mono (Nat.le_of_eq HS1.out.symm)); clear hb2) | (go_at_call 65; refine (K3.out _ HB2.out).mono ?_; rintro e W3 ⟨rfl, hb3⟩; have HB3 := Lib.hid (HB2.out.trans (hb3.mono (HK.out _ HB2.out).1)); clear hb3))
    go_ret
    exact ⟨5, rfl, by rw [HR.out]; rfl, HB.out.trans (HB3.out.mono (by omega))⟩
  rw [hd] at K3
  have HUS := Lib.hid hd
  clear hd
  by_cases hd : psB c = true
  rotate_left
  · have hd' : psB c = false := by simpa using hd
    have HR := Lib.hid (v_ps hd')
    rw [hd'] at K4
    clear hd hd'
    go_enter Tryz.func24, Tryz.ntmps24
    go_wp2_with (first | (go_at_call 61; refine K1'.out.mono ?_; rintro e w' ⟨rfl, rfl⟩) | (go_at_call 64; refine K2'.out.mono ?_; rintro e W2 ⟨rfl, hb2⟩; have HB2 := Lib.hid (hb2.mono (Nat.le_of_eq HS1.out.symm)); clear hb2) | (go_at_call 65; refine (K3.out _ HB2.out).mono ?_; rintro e W3 ⟨rfl, hb3⟩; have HB3 := Lib.hid (HB2.out.trans (hb3.mono (HK.out _ HB2.out).1)); clear hb3) | (go_at_call 66; refine (K4.out _ HB3.out).mono ?_; rintro e W4 ⟨rfl, hb4⟩; have HB4 := Lib.hid (HB3.out.trans (hb4.mono (HK.out _ HB3.out).1)); clear hb4))
    go_ret
    exact ⟨6, rfl, by rw [HR.out]; rfl, HB.out.trans (HB4.out.mono (by omega))⟩
  rw [hd] at K4
  have HPS := Lib.hid hd
  clear hd
  by_cases hd : numsB c.ns = true
  rotate_left
  · have hd' : numsB c.ns = false := by simpa using hd
    have HR := Lib.hid (v_ns hd')
    rw [hd'] at K5
    clear hd hd'
    go_enter Tryz.func24, Tryz.ntmps24
    go_wp2_with (first | (go_at_call 61; refine K1'.out.mono ?_; rintro e w' ⟨rfl, rfl⟩) | (go_at_call 64; refine K2'.out.mono ?_; rintro e W2 ⟨rfl, hb2⟩; have HB2 := Lib.hid (hb2.mono (Nat.le_of_eq HS1.out.symm)); clear hb2) | (go_at_call 65; refine (K3.out _ HB2.out).mono ?_; rintro e W3 ⟨rfl, hb3⟩; have HB3 := Lib.hid (HB2.out.trans (hb3.mono (HK.out _ HB2.out).1)); clear hb3) | (go_at_call 66; refine (K4.out _ HB3.out).mono ?_; rintro e W4 ⟨rfl, hb4⟩; have HB4 := Lib.hid (HB3.out.trans (hb4.mono (HK.out _ HB3.out).1)); clear hb4) | (go_at_call 67; refine (K5.out _ HB4.out).mono ?_; rintro e W5 ⟨rfl, hb5⟩; have HB5 := Lib.hid (HB4.out.trans (hb5.mono (HK.out _ HB4.out).1)); clear hb5))
    go_ret
    exact ⟨7, rfl, by rw [HR.out]; rfl, HB.out.trans (HB5.out.mono (by omega))⟩
  rw [hd] at K5
  have HR := Lib.hid (v_all HSZ.out HDS.out HES.out HUS.out HPS.out hd)
  clear hd
  go_enter Tryz.func24, Tryz.ntmps24
  go_wp2_with (first | (go_at_call 61; refine K1'.out.mono ?_; rintro e w' ⟨rfl, rfl⟩) | (go_at_call 64; refine K2'.out.mono ?_; rintro e W2 ⟨rfl, hb2⟩; have HB2 := Lib.hid (hb2.mono (Nat.le_of_eq HS1.out.symm)); clear hb2) | (go_at_call 65; refine (K3.out _ HB2.out).mono ?_; rintro e W3 ⟨rfl, hb3⟩; have HB3 := Lib.hid (HB2.out.trans (hb3.mono (HK.out _ HB2.out).1)); clear hb3) | (go_at_call 66; refine (K4.out _ HB3.out).mono ?_; rintro e W4 ⟨rfl, hb4⟩; have HB4 := Lib.hid (HB3.out.trans (hb4.mono (HK.out _ HB3.out).1)); clear hb4) | (go_at_call 67; refine (K5.out _ HB4.out).mono ?_; rintro e W5 ⟨rfl, hb5⟩; have HB5 := Lib.hid (HB4.out.trans (hb5.mono (HK.out _ HB4.out).1)); clear hb5))
  go_ret
  exact ⟨0, rfl, by rw [HR.out]; rfl, HB.out.trans (HB5.out.mono (by omega))⟩
end Go.Proofs.YtgaimkgaooiieaaGreatDoor
