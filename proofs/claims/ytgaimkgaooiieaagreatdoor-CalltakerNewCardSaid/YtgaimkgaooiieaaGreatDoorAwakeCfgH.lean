/-
  What calltaker.New and protocolstore.New answer in this program, for every configuration within the reach.
-/
import Derived.Test.YtgaimkgaooiieaaGreatDoorAwakeCfgG
import Derived.Test.YtgaimkgaooiieaaGreatDoorAwakeQueue
namespace Go.Proofs.YtgaimkgaooiieaaGreatDoor
open Go Go.RowKit

def StoreRet (w : World) (e : Ending) (w' : World) : Prop := ∃ s, e = .returned (.pointer (some ⟨s, 0, none⟩)) ∧ Below w.heap.size w w' ∧ s < w'.heap.size
set_option maxRecDepth 100000 in
theorem store_any (w : World) : Calls Tryz.prog 8 #[] w (StoreRet w) := by
  have hmm := @run_makeMap Tryz.prog
  have HB := Lib.hid (show Below w.heap.size w ((w.alloc (.map #[] 0)).alloc (.cells #[.slice none 0 0, .map (some w.heap.size)] 83)) from ((Below.refl _ w).alloc (Nat.le_refl _) _).alloc (by simp) _)
  go_enter Tryz.func8, Tryz.ntmps8
  go_wp2
  go_ret
  exact ⟨w.heap.size + 1, by simp, HB.out, by simp⟩

theorem two_allocs (W : World) (a b : Obj) : ((W.alloc a).alloc b).heap[W.heap.size + 1]? = some b ∧ ((W.alloc a).alloc b).heap[W.heap.size]? = some a := by
  show ((W.heap.push a).push b)[W.heap.size + 1]? = _ ∧ ((W.heap.push a).push b)[W.heap.size]? = _
  constructor
  · rw [Array.getElem?_push, if_pos (by simp)]
  · rw [Array.getElem?_push, if_neg (by simp), Array.getElem?_push, if_pos rfl]
/-- a call taker without calls -/
def DeskRet (s : Nat) (w : World) (e : Ending) (w' : World) : Prop := ∃ (d mp : Nat) (i0 i1 i2 i3 i4 : Int), e = .returned (.tuple #[.pointer (some ⟨d, 0, none⟩), .int .i64 0]) ∧
  w'.heap[d]? = some (.cells #[.int .i64 i0, .int .i64 i1, .int .i64 i2, .int .i64 i3, .int .i64 i4, .pointer (some ⟨s, 0, none⟩), .map (some mp)] 79) ∧ w'.heap[mp]? = some (.map #[] 0) ∧ Below w.heap.size w w'
def NoDesk (w : World) (e : Ending) (w' : World) : Prop := e = .returned (.tuple #[.pointer none, .int .i64 1]) ∧ Below w.heap.size w w'

def NewRet (z : Int) (c : CfD) (st : Option Addr) (w : World) (e : Ending) (w' : World) : Prop :=
  (validB c = true → 0 ≤ z → z < c.cen → ∀ s, st = some ⟨s, 0, none⟩ → DeskRet s w e w') ∧ ((validB c = false ∨ z < 0 ∨ c.cen ≤ z ∨ st = none) → NoDesk w e w')
set_option maxHeartbeats 8000000 in
set_option maxRecDepth 100000 in
theorem new_any (z : Int) (c : CfD) (P : CfP) (B : Nat) (st : Option Addr) (w : World) (hc : CfAt w B c P) (hB : B ≤ w.heap.size) (hw : 2 ≤ w.heap.size) (hst : st = none ∨ ∃ s, st = some ⟨s, 0, none⟩) :
    Calls Tryz.prog 7 #[.int .i64 z, .agg (cfCells c P), .pointer st] w (NewRet z c st w) := by
  obtain ⟨Ad, dc, Ae, ec, Au, uc, Ap, pc⟩ := P
  have hmm := @run_makeMap Tryz.prog
  have hB1 : Below w.heap.size w (w.alloc (.cells (cfCells c ⟨Ad, dc, Ae, ec, Au, uc, Ap, pc⟩) 27)) := (Below.refl _ w).alloc (Nat.le_refl _) _
  have HB := Lib.hid hB1
  have hbox := CfBox.new w c ⟨Ad, dc, Ae, ec, Au, uc, Ap, pc⟩
  have HX := Lib.hid hbox
  have HV := Lib.hid (validate_any c ⟨Ad, dc, Ae, ec, Au, uc, Ap, pc⟩ B (w.alloc (.cells (cfCells c ⟨Ad, dc, Ae, ec, Au, uc, Ap, pc⟩) 27)) (hc.below (hB1.mono hB)) (by simp; omega) (by simp; omega))
  have hdl := hc.dl
  clear hB1 hc
  obtain ⟨cl, hcl⟩ : ∃ cl, cl = (cfCells c ⟨Ad, dc, Ae, ec, Au, uc, Ap, pc⟩).toList := ⟨_, rfl⟩
  obtain ⟨ca, hca⟩ : ∃ ca, ca = cfCells c ⟨Ad, dc, Ae, ec, Au, uc, Ap, pc⟩ := ⟨_, rfl⟩
  have HCL := Lib.hid (show ca = cl.toArray by rw [hcl, hca])
  have H15 := Lib.hid (show (Tryz.prog.info? 27).map (·.size) = some cl.length by rw [hcl]; exact size27)
  have HRR := Lib.hid (show (w.alloc (.cells (cfCells c ⟨Ad, dc, Ae, ec, Au, uc, Ap, pc⟩) 27)).rangeAt w.heap.size 0 cl from fun j v hv => by rw [Nat.zero_add]; exact hbox.cell (by rw [← hv, hcl]; simp))
  rw [← hca] at HB HX HV HRR ⊢
  clear hca hcl hbox
  have HW : Hid (∀ W, Below (w.alloc (.cells ca 27)).heap.size (w.alloc (.cells ca 27)) W → CfBox W w.heap.size c ⟨Ad, dc, Ae, ec, Au, uc, Ap, pc⟩ ∧ Below w.heap.size w W) :=
    Lib.hid fun W hb => ⟨HX.out.below (by simp) hb, HB.out.trans (hb.mono (by simp))⟩
  by_cases hv : validB c = true
  rotate_left
  · have hv' : validB c = false := by simpa using hv
    have HN := Lib.hid hv'
    rw [hv'] at HV
    clear hv hv'
    go_enter Tryz.func7, Tryz.ntmps7
    go_wp2_with (first | (with_reducible refine wpList_load_mid rfl 27 (.tmp 4) rfl w.heap.size 0 rfl cl _ HRR.out Tryz.underlying27 rfl H15.out ?_; rw [← HCL.out]) | (go_at_call 24; refine HV.out.mono ?_; rintro e W2 ⟨r, rfl, hr, hb2⟩; have hr0 : (r != 0) = true := (by simpa using hr); have HB2 := Lib.hid hb2; clear hr hb2))
    go_ret2
    exact ⟨(fun h => by rw [HN.out] at h; cases h), fun _ => ⟨rfl, (HW.out _ HB2.out).2⟩⟩
  rw [hv] at HV
  by_cases z0 : 0 ≤ z
  rotate_left
  · have hz : z < 0 := by omega
    clear hv
    go_enter Tryz.func7, Tryz.ntmps7
    go_wp2_with (first | (with_reducible refine wpList_load_mid rfl 27 (.tmp 4) rfl w.heap.size 0 rfl cl _ HRR.out Tryz.underlying27 rfl H15.out ?_; rw [← HCL.out]) | (go_at_call 24; refine HV.out.mono ?_; rintro e W2 ⟨r, rfl, hr, hb2⟩; obtain rfl : r = 0 := of_decide_eq_true hr; have HB2 := Lib.hid hb2; clear hr hb2))
    go_ret2
    exact ⟨(fun _ h => by omega), fun _ => ⟨rfl, (HW.out _ HB2.out).2⟩⟩
  by_cases z1 : z < c.cen
  rotate_left
  · clear hv
    go_enter Tryz.func7, Tryz.ntmps7
    go_wp2_with (first | (with_reducible refine wpList_load_mid rfl 27 (.tmp 4) rfl w.heap.size 0 rfl cl _ HRR.out Tryz.underlying27 rfl H15.out ?_; rw [← HCL.out]) | (go_at_call 24; refine HV.out.mono ?_; rintro e W2 ⟨r, rfl, hr, hb2⟩; obtain rfl : r = 0 := of_decide_eq_true hr; have HB2 := Lib.hid hb2; have k0 : _ = some (Value.int .i64 c.cen) := (HW.out _ hb2).1.k0; clear hr hb2))
    go_ret2
    exact ⟨(fun _ _ h => by omega), fun _ => ⟨rfl, (HW.out _ HB2.out).2⟩⟩
  rcases hst with rfl | ⟨s, rfl⟩
  · clear hv
    go_enter Tryz.func7, Tryz.ntmps7
    go_wp2_with (first | (with_reducible refine wpList_load_mid rfl 27 (.tmp 4) rfl w.heap.size 0 rfl cl _ HRR.out Tryz.underlying27 rfl H15.out ?_; rw [← HCL.out]) | (go_at_call 24; refine HV.out.mono ?_; rintro e W2 ⟨r, rfl, hr, hb2⟩; obtain rfl : r = 0 := of_decide_eq_true hr; have HB2 := Lib.hid hb2; have k0 : _ = some (Value.int .i64 c.cen) := (HW.out _ hb2).1.k0; clear hr hb2))
    go_ret2
    exact ⟨fun _ _ _ s h => (by cases h), fun _ => ⟨rfl, (HW.out _ HB2.out).2⟩⟩
  · have HVT := Lib.hid hv
    clear hv
    go_enter Tryz.func7, Tryz.ntmps7
    go_wp2_with (first | (with_reducible refine wpList_load_mid rfl 27 (.tmp 4) rfl w.heap.size 0 rfl cl _ HRR.out Tryz.underlying27 rfl H15.out ?_; rw [← HCL.out]) | (go_at_call 24; refine HV.out.mono ?_; rintro e W2 ⟨r, rfl, hr, hb2⟩; obtain rfl : r = 0 := of_decide_eq_true hr; have HB2 := Lib.hid hb2; have k0 : _ = some (Value.int .i64 c.cen) := (HW.out _ hb2).1.k0; have k1 : _ = some (Value.slice Ad c.ds.length dc) := (HW.out _ hb2).1.k1; have k6 : _ = some (Value.int .i64 c.n1) := (HW.out _ hb2).1.k6; have k10 : _ = some (Value.int .i64 c.n5) := (HW.out _ hb2).1.k10; clear hr hb2))
    go_ret2
    refine ⟨fun _ _ _ s' hs' => ?_, fun h => ?_⟩
    · obtain rfl : s = s' := by cases hs'; rfl
      refine ⟨W2.heap.size + 1, W2.heap.size, z, c.cen, c.ds.length, wrap64 (2 * c.n1), c.n5, rfl, ?_, ?_, ?_⟩
      · exact (two_allocs W2 _ _).1
      · exact (two_allocs W2 _ _).2
      · exact ((HW.out _ HB2.out).2.alloc (HW.out _ HB2.out).2.size (.map #[] 0)).alloc (by have := (HW.out _ HB2.out).2.size; simp; omega) _
    · rw [HVT.out] at h
      rcases h with h | h | h | h
      · cases h
      · omega
      · omega
      · cases h
end Go.Proofs.YtgaimkgaooiieaaGreatDoor
