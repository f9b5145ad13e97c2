/-
  The same function at events of a centre that is up: an entry applied, a centre down or up.
-/
import Derived.Test.YtjhhdklbiibhdaaGreatDoorAwakeCenD
import Derived.Deep.RegionWith
namespace Go.Proofs.YtjhhdklbiibhdaaGreatDoor
open Go Go.RowKit

theorem grown_set (W : World) (p i : Nat) (v : Value) : W.grownBy (W.setCell ⟨p, i, none⟩ v) (some p) := ⟨rfl, rfl, rfl, by simp, fun k _ hne => Deep.blk_setCell_other _ _ _ _ (fun e => hne (by rw [e]))⟩
section
variable {W : World} {AE : Option Addr} {nE cE B cbx lbx mbx mb : Nat} {s : LogS} {j : Nat} {c : CenS}
theorem cen_down (h : CenInv W AE nE cE B cbx lbx mbx mb s) (hc : s.cen[j]? = some c) (hB : B ≤ W.heap.size) (d : Bool) :
    CenInv (W.setCell ⟨cbx, j * 2, none⟩ (.bool d)) AE nE cE B cbx lbx mbx mb ⟨s.cen.set j ⟨d, c.last⟩, s.auth⟩ ∧ Below B W (W.setCell ⟨cbx, j * 2, none⟩ (.bool d)) ∧ KeepsF W (W.setCell ⟨cbx, j * 2, none⟩ (.bool d)) :=
  h.cen (by simp [h.n9]) (grown_set _ _ _ _) (by rw [cenCells_down hc, ← List.setIfInBounds_toArray]; exact setCell_block h.hc _) hB
theorem cen_last (h : CenInv W AE nE cE B cbx lbx mbx mb s) (hc : s.cen[j]? = some c) (hB : B ≤ W.heap.size) (z : Int) :
    CenInv (W.setCell ⟨cbx, j * 2 + 1, none⟩ (.int .i64 z)) AE nE cE B cbx lbx mbx mb ⟨s.cen.set j ⟨c.down, z⟩, s.auth⟩ ∧ Below B W (W.setCell ⟨cbx, j * 2 + 1, none⟩ (.int .i64 z)) ∧ KeepsF W (W.setCell ⟨cbx, j * 2 + 1, none⟩ (.int .i64 z)) :=
  h.cen (by simp [h.n9]) (grown_set _ _ _ _) (by rw [cenCells_last hc, ← List.setIfInBounds_toArray]; exact setCell_block h.hc _) hB
theorem cen_both (h : CenInv W AE nE cE B cbx lbx mbx mb s) (hc : s.cen[j]? = some c) (hB : B ≤ W.heap.size) (d : Bool) (z : Int) :
    CenInv ((W.setCell ⟨cbx, j * 2, none⟩ (.bool d)).setCell ⟨cbx, j * 2 + 1, none⟩ (.int .i64 z)) AE nE cE B cbx lbx mbx mb ⟨s.cen.set j ⟨d, z⟩, s.auth⟩ ∧ Below B W ((W.setCell ⟨cbx, j * 2, none⟩ (.bool d)).setCell ⟨cbx, j * 2 + 1, none⟩ (.int .i64 z)) ∧ KeepsF W ((W.setCell ⟨cbx, j * 2, none⟩ (.bool d)).setCell ⟨cbx, j * 2 + 1, none⟩ (.int .i64 z)) := by
  obtain ⟨h1, h2, h3⟩ := cen_down h hc hB d
  have hj : j < s.cen.length := (List.getElem?_eq_some_iff.1 hc).1
  obtain ⟨h4, h5, h6⟩ := cen_last (j := j) (c := ⟨d, c.last⟩) h1 (by simp [hj]) (by simpa using hB) z
  refine ⟨?_, h2.trans h5, h3.trans h6⟩
  simpa using h4
end

set_option maxHeartbeats 8000000 in
set_option maxRecDepth 100000 in
theorem judgeL_down10 (B cbx lbx mbx mb i : Nat) (E : List EnD) (AE : Option Addr) (cE : Nat) (x : EvD) (C : Option Addr) (cap : Nat) (tl : List Value) (w : World) (s : LogS)
    (hBy : BytesLow w B C x.body) (hEn : EnLow w B AE E) (hI : CenInv w AE E.length cE B cbx lbx mbx mb s) (hB : B ≤ w.heap.size) (hbd : ∀ c ∈ s.cen, 0 ≤ c.last ∧ c.last ≤ 1000) (j : Nat) (hj : x.who = (j : Int)) (hj9 : j < 9) (c : CenS) (hc : s.cen[j]? = some c) (k : x.kind = 10) (hd : c.down = decide (x.kind = 11)) :
    Calls Tryz.prog 33 #[.int .i64 i, .agg (evCells x C cap tl).toArray, .pointer (some ⟨cbx, 0, none⟩), .pointer (some ⟨lbx, 0, none⟩), .pointer (some ⟨mbx, 0, none⟩)] w (LRet w AE E.length cE B cbx lbx mbx mb (judgeL E x s)) := by
  have q0 : (evCells x C cap tl).toArray[0]? = some (.int .i64 x.kind) := rfl
  have q1 : (evCells x C cap tl).toArray[1]? = some (.int .i64 x.tick) := rfl
  have q2 : (evCells x C cap tl).toArray[2]? = some (.int .i64 x.who) := rfl
  have q4 : (evCells x C cap tl).toArray[4]? = some (.int .i64 x.epoch) := rfl
  have q5 : (evCells x C cap tl).toArray[5]? = some (.int .i64 x.n) := rfl
  have q6 : (evCells x C cap tl).toArray[6]? = some (.int .i64 x.term) := rfl
  have q7 : (evCells x C cap tl).toArray[7]? = some (.int .i64 x.ek) := rfl
  have q8 : (evCells x C cap tl).toArray[8]? = some (.slice C x.body.length cap) := rfl
  generalize (evCells x C cap tl).toArray = ca at q0 q1 q2 q4 q5 q6 q7 q8 ⊢
  have hb1 : Below w.heap.size w (w.alloc (.cells ca 46)) := (Below.refl _ w).alloc (Nat.le_refl _) _
  have HI1 := Lib.hid (hI.next (W' := w.alloc (.cells ca 46)) hb1.block)
  have HB1 := Lib.hid hb1
  have HEN := Lib.hid hEn
  have HBY := Lib.hid hBy
  have HBD := Lib.hid hbd
  clear hEn hBy hI hb1 hbd
  have HAT := Lib.hid (show cenAt s.cen x.who = some c by unfold cenAt; rw [if_pos (by omega), show x.who.toNat = j by omega]; exact hc)
  have HJ := Lib.hid (show x.who.toNat = j by omega)
  have HC := Lib.hid hc
  have o0 : (w.alloc (.cells ca 46)).cell? ⟨cbx, j * 2, none⟩ = some (.bool c.down) := cells_of HI1.out.hc (cenCells_at _ j c hc).1
  have o1 : (w.alloc (.cells ca 46)).cell? ⟨cbx, j * 2 + 1, none⟩ = some (.int .i64 c.last) := cells_of HI1.out.hc (cenCells_at _ j c hc).2
  have fr : ∀ i, (w.alloc (.cells ca 46)).frozen? ⟨cbx, i, none⟩ = false := frozen_of HI1.out.hc
  rw [hj] at q2
  have hj0 : decide ((j : Int) < 0) = false := decide_eq_false (by omega)
  have hj8 : decide ((9 : Int) ≤ (j : Int)) = false := decide_eq_false (by omega)
  have hjl : (j : Int) < 9 := by omega
  have hlast := HBD.out c (List.mem_of_getElem? hc)
  have HD := Lib.hid hd
  rw [k] at q0 hd
  rw [show c.down = _ from (by simpa using hd)] at o0
  have HR := Lib.hid (show judgeL E x s = (0, ⟨s.cen.set j ⟨true, c.last⟩, s.auth⟩) by simp only [judgeL, show logKind x.kind = true by rw [k]; rfl, if_true, HAT.out]; rw [if_pos HD.out]; simp only [judgeOn, k]; rw [HJ.out]; rfl)
  clear hd hj hc k hlast
  go_enter Tryz.func33, Tryz.ntmps33
  go_wp2
  go_quiet (fail)
  go_wp2
  go_ret
  obtain ⟨h1, h2, h3⟩ := cen_down (HI1.out.next (W' := (w.alloc (.cells ca 46)).drewN nq) fun _ _ => rfl) HC.out (show B ≤ (w.alloc (.cells ca 46)).heap.size by simp; omega) true
  exact ⟨by rw [HR.out]; rfl, by rw [HR.out]; exact h1, (belowF_drewN (HB1.out.mono hB)).trans h2, (keepsF_drewN (keepsF_of HB1.out)).trans h3⟩

set_option maxHeartbeats 8000000 in
set_option maxRecDepth 100000 in
theorem judgeL_up11 (B cbx lbx mbx mb i : Nat) (E : List EnD) (AE : Option Addr) (cE : Nat) (x : EvD) (C : Option Addr) (cap : Nat) (tl : List Value) (w : World) (s : LogS)
    (hBy : BytesLow w B C x.body) (hEn : EnLow w B AE E) (hI : CenInv w AE E.length cE B cbx lbx mbx mb s) (hB : B ≤ w.heap.size) (hbd : ∀ c ∈ s.cen, 0 ≤ c.last ∧ c.last ≤ 1000) (j : Nat) (hj : x.who = (j : Int)) (hj9 : j < 9) (c : CenS) (hc : s.cen[j]? = some c) (k : x.kind = 11) (hd : c.down = decide (x.kind = 11)) :
    Calls Tryz.prog 33 #[.int .i64 i, .agg (evCells x C cap tl).toArray, .pointer (some ⟨cbx, 0, none⟩), .pointer (some ⟨lbx, 0, none⟩), .pointer (some ⟨mbx, 0, none⟩)] w (LRet w AE E.length cE B cbx lbx mbx mb (judgeL E x s)) := by
  have q0 : (evCells x C cap tl).toArray[0]? = some (.int .i64 x.kind) := rfl
  have q1 : (evCells x C cap tl).toArray[1]? = some (.int .i64 x.tick) := rfl
  have q2 : (evCells x C cap tl).toArray[2]? = some (.int .i64 x.who) := rfl
  have q4 : (evCells x C cap tl).toArray[4]? = some (.int .i64 x.epoch) := rfl
  have q5 : (evCells x C cap tl).toArray[5]? = some (.int .i64 x.n) := rfl
  have q6 : (evCells x C cap tl).toArray[6]? = some (.int .i64 x.term) := rfl
  have q7 : (evCells x C cap tl).toArray[7]? = some (.int .i64 x.ek) := rfl
  have q8 : (evCells x C cap tl).toArray[8]? = some (.slice C x.body.length cap) := rfl
  generalize (evCells x C cap tl).toArray = ca at q0 q1 q2 q4 q5 q6 q7 q8 ⊢
  have hb1 : Below w.heap.size w (w.alloc (.cells ca 46)) := (Below.refl _ w).alloc (Nat.le_refl _) _
  have HI1 := Lib.hid (hI.next (W' := w.alloc (.cells ca 46)) hb1.block)
  have HB1 := Lib.hid hb1
  have HEN := Lib.hid hEn
  have HBY := Lib.hid hBy
  have HBD := Lib.hid hbd
  clear hEn hBy hI hb1 hbd
  have HAT := Lib.hid (show cenAt s.cen x.who = some c by unfold cenAt; rw [if_pos (by omega), show x.who.toNat = j by omega]; exact hc)
  have HJ := Lib.hid (show x.who.toNat = j by omega)
  have HC := Lib.hid hc
  have o0 : (w.alloc (.cells ca 46)).cell? ⟨cbx, j * 2, none⟩ = some (.bool c.down) := cells_of HI1.out.hc (cenCells_at _ j c hc).1
  have o1 : (w.alloc (.cells ca 46)).cell? ⟨cbx, j * 2 + 1, none⟩ = some (.int .i64 c.last) := cells_of HI1.out.hc (cenCells_at _ j c hc).2
  have fr : ∀ i, (w.alloc (.cells ca 46)).frozen? ⟨cbx, i, none⟩ = false := frozen_of HI1.out.hc
  rw [hj] at q2
  have hj0 : decide ((j : Int) < 0) = false := decide_eq_false (by omega)
  have hj8 : decide ((9 : Int) ≤ (j : Int)) = false := decide_eq_false (by omega)
  have hjl : (j : Int) < 9 := by omega
  have hlast := HBD.out c (List.mem_of_getElem? hc)
  have HD := Lib.hid hd
  rw [k] at q0 hd
  rw [show c.down = _ from (by simpa using hd)] at o0
  have HR := Lib.hid (show judgeL E x s = (0, ⟨s.cen.set j ⟨false, 0⟩, s.auth⟩) by simp only [judgeL, show logKind x.kind = true by rw [k]; rfl, if_true, HAT.out]; rw [if_pos HD.out]; simp only [judgeOn, k]; rw [HJ.out]; rfl)
  clear hd hj hc k hlast
  go_enter Tryz.func33, Tryz.ntmps33
  go_wp2
  go_quiet (fail)
  go_wp2
  go_ret
  obtain ⟨h1, h2, h3⟩ := cen_both (HI1.out.next (W' := (w.alloc (.cells ca 46)).drewN nq) fun _ _ => rfl) HC.out (show B ≤ (w.alloc (.cells ca 46)).heap.size by simp; omega) false 0
  exact ⟨by rw [HR.out]; rfl, by rw [HR.out]; exact h1, (belowF_drewN (HB1.out.mono hB)).trans h2, (keepsF_drewN (keepsF_of HB1.out)).trans h3⟩

set_option maxHeartbeats 8000000 in
set_option maxRecDepth 100000 in
theorem judgeL_sum13 (B cbx lbx mbx mb i : Nat) (E : List EnD) (AE : Option Addr) (cE : Nat) (x : EvD) (C : Option Addr) (cap : Nat) (tl : List Value) (w : World) (s : LogS)
    (hBy : BytesLow w B C x.body) (hEn : EnLow w B AE E) (hI : CenInv w AE E.length cE B cbx lbx mbx mb s) (hB : B ≤ w.heap.size) (hbd : ∀ c ∈ s.cen, 0 ≤ c.last ∧ c.last ≤ 1000) (j : Nat) (hj : x.who = (j : Int)) (hj9 : j < 9) (c : CenS) (hc : s.cen[j]? = some c) (k : x.kind = 13) (hd : c.down = decide (x.kind = 11)) :
    Calls Tryz.prog 33 #[.int .i64 i, .agg (evCells x C cap tl).toArray, .pointer (some ⟨cbx, 0, none⟩), .pointer (some ⟨lbx, 0, none⟩), .pointer (some ⟨mbx, 0, none⟩)] w (LRet w AE E.length cE B cbx lbx mbx mb (judgeL E x s)) := by
  have q0 : (evCells x C cap tl).toArray[0]? = some (.int .i64 x.kind) := rfl
  have q1 : (evCells x C cap tl).toArray[1]? = some (.int .i64 x.tick) := rfl
  have q2 : (evCells x C cap tl).toArray[2]? = some (.int .i64 x.who) := rfl
  have q4 : (evCells x C cap tl).toArray[4]? = some (.int .i64 x.epoch) := rfl
  have q5 : (evCells x C cap tl).toArray[5]? = some (.int .i64 x.n) := rfl
  have q6 : (evCells x C cap tl).toArray[6]? = some (.int .i64 x.term) := rfl
  have q7 : (evCells x C cap tl).toArray[7]? = some (.int .i64 x.ek) := rfl
  have q8 : (evCells x C cap tl).toArray[8]? = some (.slice C x.body.length cap) := rfl
  generalize (evCells x C cap tl).toArray = ca at q0 q1 q2 q4 q5 q6 q7 q8 ⊢
  have hb1 : Below w.heap.size w (w.alloc (.cells ca 46)) := (Below.refl _ w).alloc (Nat.le_refl _) _
  have HI1 := Lib.hid (hI.next (W' := w.alloc (.cells ca 46)) hb1.block)
  have HB1 := Lib.hid hb1
  have HEN := Lib.hid hEn
  have HBY := Lib.hid hBy
  have HBD := Lib.hid hbd
  clear hEn hBy hI hb1 hbd
  have HAT := Lib.hid (show cenAt s.cen x.who = some c by unfold cenAt; rw [if_pos (by omega), show x.who.toNat = j by omega]; exact hc)
  have HJ := Lib.hid (show x.who.toNat = j by omega)
  have HC := Lib.hid hc
  have o0 : (w.alloc (.cells ca 46)).cell? ⟨cbx, j * 2, none⟩ = some (.bool c.down) := cells_of HI1.out.hc (cenCells_at _ j c hc).1
  have o1 : (w.alloc (.cells ca 46)).cell? ⟨cbx, j * 2 + 1, none⟩ = some (.int .i64 c.last) := cells_of HI1.out.hc (cenCells_at _ j c hc).2
  have fr : ∀ i, (w.alloc (.cells ca 46)).frozen? ⟨cbx, i, none⟩ = false := frozen_of HI1.out.hc
  rw [hj] at q2
  have hj0 : decide ((j : Int) < 0) = false := decide_eq_false (by omega)
  have hj8 : decide ((9 : Int) ≤ (j : Int)) = false := decide_eq_false (by omega)
  have hjl : (j : Int) < 9 := by omega
  have hlast := HBD.out c (List.mem_of_getElem? hc)
  have HD := Lib.hid hd
  rw [k] at q0 hd
  rw [show c.down = _ from (by simpa using hd)] at o0
  have HR := Lib.hid (show judgeL E x s = (0, s) by simp only [judgeL, show logKind x.kind = true by rw [k]; rfl, if_true, HAT.out]; rw [if_pos HD.out]; simp only [judgeOn, k]; rfl)
  clear hd hj hc k hlast
  go_enter Tryz.func33, Tryz.ntmps33
  go_wp2
  go_quiet (fail)
  go_wp2
  go_ret
  exact ⟨by rw [HR.out]; rfl, by rw [HR.out]; exact HI1.out.next fun _ _ => rfl, belowF_drewN (HB1.out.mono hB), keepsF_drewN (keepsF_of HB1.out)⟩
end Go.Proofs.YtjhhdklbiibhdaaGreatDoor
