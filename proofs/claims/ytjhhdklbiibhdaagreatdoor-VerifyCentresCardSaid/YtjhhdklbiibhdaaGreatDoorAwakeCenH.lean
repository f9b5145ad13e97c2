/-
  The same function at an applied entry.
-/
import Derived.Test.YtjhhdklbiibhdaaGreatDoorAwakeCenE
import Derived.StillTailTactics
namespace Go.Proofs.YtjhhdklbiibhdaaGreatDoor
open Go Go.RowKit

theorem judgeOn7 {E : List EnD} {x : EvD} {s : LogS} {c : CenS} (k : x.kind = 7) : judgeOn E x s c = if x.n = c.last + 1 then (if sameAt E x then 0 else 6, ⟨s.cen.set x.who.toNat ⟨c.down, x.n⟩, s.auth⟩) else (8, s) := by
  unfold judgeOn
  rw [if_neg (by omega), if_neg (by omega), if_pos k]
theorem below_same {B : Nat} {a b : World} (h1 : b.os = a.os) (h2 : b.tape = a.tape) (h3 : b.output = a.output) (h4 : b.heap = a.heap) : Below B a b := ⟨h1, h2, h3, by rw [h4]; exact Nat.le_refl _, fun _ _ => by rw [h4]⟩

set_option maxHeartbeats 8000000 in
set_option maxRecDepth 100000 in
theorem judgeL_bad7 (B cbx lbx mbx mb i : Nat) (E : List EnD) (AE : Option Addr) (cE : Nat) (x : EvD) (C : Option Addr) (cap : Nat) (tl : List Value) (w : World) (s : LogS)
    (hBy : BytesLow w B C x.body) (hEn : EnLow w B AE E) (hI : CenInv w AE E.length cE B cbx lbx mbx mb s) (hB : B ≤ w.heap.size) (hbd : ∀ c ∈ s.cen, 0 ≤ c.last ∧ c.last ≤ 1000) (j : Nat) (hj : x.who = (j : Int)) (hj9 : j < 9) (c : CenS) (hc : s.cen[j]? = some c) (k : x.kind = 7) (hd : c.down = decide (x.kind = 11)) (hn : ¬ x.n = c.last + 1) :
    Calls Tryz.prog 33 #[.int .i64 i, .agg (evCells x C cap tl).toArray, .pointer (some ⟨cbx, 0, none⟩), .pointer (some ⟨lbx, 0, none⟩), .pointer (some ⟨mbx, 0, none⟩)] w (LRet w AE E.length cE B cbx lbx mbx mb (judgeL E x s)) := by
  have q0 : (evCells x C cap tl).toArray[0]? = some (.int .i64 x.kind) := rfl
  have q1 : (evCells x C cap tl).toArray[1]? = some (.int .i64 x.tick) := rfl
  have q2 : (evCells x C cap tl).toArray[2]? = some (.int .i64 x.who) := rfl
  have q4 : (evCells x C cap tl).toArray[4]? = some (.int .i64 x.epoch) := rfl
  have q5 : (evCells x C cap tl).toArray[5]? = some (.int .i64 x.n) := rfl
  have q6 : (evCells x C cap tl).toArray[6]? = some (.int .i64 x.term) := rfl
  have q7 : (evCells x C cap tl).toArray[7]? = some (.int .i64 x.ek) := rfl
  have q8 : (evCells x C cap tl).toArray[8]? = some (.slice C x.body.length cap) := rfl
  generalize (evCells x C cap tl).toArray = ca at q0 q1 q2 q4 q5 q6 q7 q8 ⊢
  have hb1 : Below w.heap.size w (w.alloc (.cells ca 46)) := (Below.refl _ w).alloc (Nat.le_refl _) _
  have hI0 := hI.hc
  have HI1 := Lib.hid (hI.next (W' := w.alloc (.cells ca 46)) hb1.block)
  have HB1 := Lib.hid hb1
  have HEN := Lib.hid hEn
  have HBY := Lib.hid hBy
  have HBD := Lib.hid hbd
  clear hEn hBy hI hb1 hbd
  have HAT := Lib.hid (show cenAt s.cen x.who = some c by unfold cenAt; rw [if_pos (by omega), show x.who.toNat = j by omega]; exact hc)
  have HJ := Lib.hid (show x.who.toNat = j by omega)
  have HC := Lib.hid hc
  have o0 : (w.alloc (.cells ca 46)).cell? ⟨cbx, j * 2, none⟩ = some (.bool c.down) := cells_of HI1.out.hc (cenCells_at _ j c hc).1
  have o1 : (w.alloc (.cells ca 46)).cell? ⟨cbx, j * 2 + 1, none⟩ = some (.int .i64 c.last) := cells_of HI1.out.hc (cenCells_at _ j c hc).2
  have fr : ∀ i, (w.alloc (.cells ca 46)).frozen? ⟨cbx, i, none⟩ = false := frozen_of HI1.out.hc
  rw [hj] at q2
  have hj0 : decide ((j : Int) < 0) = false := decide_eq_false (by omega)
  have hj8 : decide ((9 : Int) ≤ (j : Int)) = false := decide_eq_false (by omega)
  have hjl : (j : Int) < 9 := by omega
  have hlast := HBD.out c (List.mem_of_getElem? hc)
  have HD := Lib.hid hd
  rw [k] at q0 hd
  rw [show c.down = _ from (by simpa using hd)] at o0
  have HR := Lib.hid (show judgeL E x s = (8, s) by simp only [judgeL, show logKind x.kind = true by rw [k]; rfl, if_true, HAT.out]; rw [if_pos HD.out, judgeOn7 k]; rw [if_neg hn])
  obtain ⟨hl0, hl1⟩ := hlast
  have hwl : IntKind.i64.wrap (c.last + 1) = c.last + 1 := IntWalk.i64_in _ (by omega)
  have hn2 : (x.n == c.last + 1) = false := by simpa using hn
  have hn3 : (x.n != c.last + 1) = true := by simpa using hn
  have hn4 : decide (x.n = c.last + 1) = false := decide_eq_false hn
  clear hd hj hc k
  go_enter Tryz.func33, Tryz.ntmps33
  go_wp2
  go_quiet (fail)
  revert nq
  intro n1
  go_wp2
  go_quiet (fail)
  go_wp2
  go_ret
  exact ⟨by rw [HR.out]; rfl, by rw [HR.out]; exact HI1.out.next fun _ _ => rfl, belowF_drewN (belowF_drewN (HB1.out.mono hB)), keepsF_drewN (keepsF_drewN (keepsF_of HB1.out))⟩

set_option maxHeartbeats 8000000 in
set_option maxRecDepth 100000 in
theorem judgeL_far7 (B cbx lbx mbx mb i : Nat) (E : List EnD) (AE : Option Addr) (cE : Nat) (x : EvD) (C : Option Addr) (cap : Nat) (tl : List Value) (w : World) (s : LogS)
    (hBy : BytesLow w B C x.body) (hEn : EnLow w B AE E) (hI : CenInv w AE E.length cE B cbx lbx mbx mb s) (hB : B ≤ w.heap.size) (hbd : ∀ c ∈ s.cen, 0 ≤ c.last ∧ c.last ≤ 1000) (j : Nat) (hj : x.who = (j : Int)) (hj9 : j < 9) (c : CenS) (hc : s.cen[j]? = some c) (k : x.kind = 7) (hd : c.down = decide (x.kind = 11)) (m : Nat) (hm : c.last = (m : Int)) (hn : x.n = (m : Int) + 1) (hfar : E.length ≤ m) :
    Calls Tryz.prog 33 #[.int .i64 i, .agg (evCells x C cap tl).toArray, .pointer (some ⟨cbx, 0, none⟩), .pointer (some ⟨lbx, 0, none⟩), .pointer (some ⟨mbx, 0, none⟩)] w (LRet w AE E.length cE B cbx lbx mbx mb (judgeL E x s)) := by
  have q0 : (evCells x C cap tl).toArray[0]? = some (.int .i64 x.kind) := rfl
  have q1 : (evCells x C cap tl).toArray[1]? = some (.int .i64 x.tick) := rfl
  have q2 : (evCells x C cap tl).toArray[2]? = some (.int .i64 x.who) := rfl
  have q4 : (evCells x C cap tl).toArray[4]? = some (.int .i64 x.epoch) := rfl
  have q5 : (evCells x C cap tl).toArray[5]? = some (.int .i64 x.n) := rfl
  have q6 : (evCells x C cap tl).toArray[6]? = some (.int .i64 x.term) := rfl
  have q7 : (evCells x C cap tl).toArray[7]? = some (.int .i64 x.ek) := rfl
  have q8 : (evCells x C cap tl).toArray[8]? = some (.slice C x.body.length cap) := rfl
  generalize (evCells x C cap tl).toArray = ca at q0 q1 q2 q4 q5 q6 q7 q8 ⊢
  have hb1 : Below w.heap.size w (w.alloc (.cells ca 46)) := (Below.refl _ w).alloc (Nat.le_refl _) _
  have hI0 := hI.hc
  have HI1 := Lib.hid (hI.next (W' := w.alloc (.cells ca 46)) hb1.block)
  have HB1 := Lib.hid hb1
  have HEN := Lib.hid hEn
  have HBY := Lib.hid hBy
  have HBD := Lib.hid hbd
  clear hEn hBy hI hb1 hbd
  have HAT := Lib.hid (show cenAt s.cen x.who = some c by unfold cenAt; rw [if_pos (by omega), show x.who.toNat = j by omega]; exact hc)
  have HJ := Lib.hid (show x.who.toNat = j by omega)
  have HC := Lib.hid hc
  have o0 : (w.alloc (.cells ca 46)).cell? ⟨cbx, j * 2, none⟩ = some (.bool c.down) := cells_of HI1.out.hc (cenCells_at _ j c hc).1
  have o1 : (w.alloc (.cells ca 46)).cell? ⟨cbx, j * 2 + 1, none⟩ = some (.int .i64 c.last) := cells_of HI1.out.hc (cenCells_at _ j c hc).2
  have fr : ∀ i, (w.alloc (.cells ca 46)).frozen? ⟨cbx, i, none⟩ = false := frozen_of HI1.out.hc
  rw [hj] at q2
  have hj0 : decide ((j : Int) < 0) = false := decide_eq_false (by omega)
  have hj8 : decide ((9 : Int) ≤ (j : Int)) = false := decide_eq_false (by omega)
  have hjl : (j : Int) < 9 := by omega
  have hlast := HBD.out c (List.mem_of_getElem? hc)
  have HD := Lib.hid hd
  rw [k] at q0 hd
  rw [show c.down = _ from (by simpa using hd)] at o0
  have HR := Lib.hid (show judgeL E x s = (6, ⟨s.cen.set j ⟨c.down, (m : Int) + 1⟩, s.auth⟩) by simp only [judgeL, show logKind x.kind = true by rw [k]; rfl, if_true, HAT.out]; rw [if_pos HD.out, judgeOn7 k]; rw [if_pos (by omega), HJ.out, show sameAt E x = false by unfold sameAt; rw [List.getElem?_eq_none (by omega)], hn]; rfl)
  have hcl : cbx < w.heap.size := by
    have h := (Array.getElem?_eq_some_iff.1 hI0).1
    exact h
  rw [hm] at o1
  rw [hn] at q5
  have hm1 : (m : Int) ≤ 1000 := by omega
  have hfi : (E.length : Int) < (m : Int) + 1 := by omega
  have hfi3 : (E.length : Int) ≤ (m : Int) := by omega
  have hfi4 : decide ((E.length : Int) ≤ (m : Int)) = true := decide_eq_true hfi3
  have hfi5 : decide ((E.length : Int) < (m : Int) + 1) = true := decide_eq_true hfi
  have hwl : IntKind.i64.wrap ((m : Int) + 1) = (m : Int) + 1 := IntWalk.i64_in _ (by omega)
  clear hd hj hc k hlast hI0 hm hn
  go_enter Tryz.func33, Tryz.ntmps33
  go_wp2
  go_quiet (fail)
  revert nq
  intro n1
  go_wp2
  go_quiet (fail)
  revert nq
  intro n2
  go_wp2
  generalize n1 + n2 = n3
  obtain ⟨hI2, hB2, hK2⟩ := cen_last (HI1.out.next (W' := (w.alloc (.cells ca 46)).drewN n3) fun _ _ => rfl) HC.out (show B ≤ (w.alloc (.cells ca 46)).heap.size by simp; omega) ((m : Int) + 1)
  have hB3 := (belowF_drewN (n := n3) (HB1.out.mono hB)).trans hB2
  have hK3 := (keepsF_drewN (n := n3) (keepsF_of HB1.out)).trans hK2
  have eb : (((w.alloc (.cells ca 46)).drewN n3).setCell ⟨cbx, j * 2 + 1, none⟩ (.int .i64 ((m : Int) + 1))).heap[w.heap.size]? = some (.cells ca 46) := ((grown_set ((w.alloc (.cells ca 46)).drewN n3) cbx (j * 2 + 1) (.int .i64 ((m : Int) + 1))).block w.heap.size (show w.heap.size < (w.alloc (.cells ca 46)).heap.size by simp) (by intro e; simp at e; omega)).trans (heap_alloc_last w _)
  have hsz : w.heap.size ≤ (((w.alloc (.cells ca 46)).drewN n3).setCell ⟨cbx, j * 2 + 1, none⟩ (.int .i64 ((m : Int) + 1))).heap.size := hK3.1
  generalize (((w.alloc (.cells ca 46)).drewN n3).setCell ⟨cbx, j * 2 + 1, none⟩ (.int .i64 ((m : Int) + 1))) = W2 at hI2 hB2 hB3 hK2 hK3 eb hsz ⊢
  have e5 : W2.cell? ⟨w.heap.size, 5, none⟩ = some (.int .i64 ((m : Int) + 1)) := by unfold World.cell?; simp only [eb]; exact q5
  have e6 : W2.cell? ⟨w.heap.size, 6, none⟩ = some (.int .i64 x.term) := by unfold World.cell?; simp only [eb]; exact q6
  have e7 : W2.cell? ⟨w.heap.size, 6 + 1, none⟩ = some (.int .i64 x.ek) := by unfold World.cell?; simp only [eb]; exact q7
  have e8 : W2.cell? ⟨w.heap.size, 6 + 2, none⟩ = some (.slice C x.body.length cap) := by unfold World.cell?; simp only [eb]; exact q8
  have el : W2.cell? ⟨lbx, 0, none⟩ = some (.slice AE E.length cE) := by unfold World.cell?; simp only [hI2.hl]; rfl
  have HI2 := Lib.hid hI2
  have HB3 := Lib.hid hB3
  have HK3 := Lib.hid hK3
  clear hI2 hB2 hB3 hK2 hK3 eb o0 o1 fr q0 q1 q2 q4 q5 q6 q7 q8
  go_quiet (fail)
  go_wp2
  go_ret
  exact ⟨by rw [HR.out]; rfl, by rw [HR.out]; exact HI2.out.next fun _ _ => rfl, HB3.out.trans (below_same rfl rfl rfl rfl), HK3.out⟩

set_option maxHeartbeats 8000000 in
set_option maxRecDepth 100000 in
theorem judgeL_same7 (B cbx lbx mbx mb i : Nat) (E : List EnD) (AE : Option Addr) (cE : Nat) (x : EvD) (C : Option Addr) (cap : Nat) (tl : List Value) (w : World) (s : LogS)
    (hBy : BytesLow w B C x.body) (hEn : EnLow w B AE E) (hI : CenInv w AE E.length cE B cbx lbx mbx mb s) (hB : B ≤ w.heap.size) (hbd : ∀ c ∈ s.cen, 0 ≤ c.last ∧ c.last ≤ 1000) (j : Nat) (hj : x.who = (j : Int)) (hj9 : j < 9) (c : CenS) (hc : s.cen[j]? = some c) (k : x.kind = 7) (hd : c.down = decide (x.kind = 11)) (m : Nat) (hm : c.last = (m : Int)) (hn : x.n = (m : Int) + 1) (y : EnD) (hy : E[m]? = some y) (hs : sameEn x.en y = true) :
    Calls Tryz.prog 33 #[.int .i64 i, .agg (evCells x C cap tl).toArray, .pointer (some ⟨cbx, 0, none⟩), .pointer (some ⟨lbx, 0, none⟩), .pointer (some ⟨mbx, 0, none⟩)] w (LRet w AE E.length cE B cbx lbx mbx mb (judgeL E x s)) := by
  have q0 : (evCells x C cap tl).toArray[0]? = some (.int .i64 x.kind) := rfl
  have q1 : (evCells x C cap tl).toArray[1]? = some (.int .i64 x.tick) := rfl
  have q2 : (evCells x C cap tl).toArray[2]? = some (.int .i64 x.who) := rfl
  have q4 : (evCells x C cap tl).toArray[4]? = some (.int .i64 x.epoch) := rfl
  have q5 : (evCells x C cap tl).toArray[5]? = some (.int .i64 x.n) := rfl
  have q6 : (evCells x C cap tl).toArray[6]? = some (.int .i64 x.term) := rfl
  have q7 : (evCells x C cap tl).toArray[7]? = some (.int .i64 x.ek) := rfl
  have q8 : (evCells x C cap tl).toArray[8]? = some (.slice C x.body.length cap) := rfl
  generalize (evCells x C cap tl).toArray = ca at q0 q1 q2 q4 q5 q6 q7 q8 ⊢
  have hb1 : Below w.heap.size w (w.alloc (.cells ca 46)) := (Below.refl _ w).alloc (Nat.le_refl _) _
  have hI0 := hI.hc
  have HI1 := Lib.hid (hI.next (W' := w.alloc (.cells ca 46)) hb1.block)
  have HB1 := Lib.hid hb1
  have HEN := Lib.hid hEn
  have HBY := Lib.hid hBy
  have HBD := Lib.hid hbd
  clear hEn hBy hI hb1 hbd
  have HAT := Lib.hid (show cenAt s.cen x.who = some c by unfold cenAt; rw [if_pos (by omega), show x.who.toNat = j by omega]; exact hc)
  have HJ := Lib.hid (show x.who.toNat = j by omega)
  have HC := Lib.hid hc
  have o0 : (w.alloc (.cells ca 46)).cell? ⟨cbx, j * 2, none⟩ = some (.bool c.down) := cells_of HI1.out.hc (cenCells_at _ j c hc).1
  have o1 : (w.alloc (.cells ca 46)).cell? ⟨cbx, j * 2 + 1, none⟩ = some (.int .i64 c.last) := cells_of HI1.out.hc (cenCells_at _ j c hc).2
  have fr : ∀ i, (w.alloc (.cells ca 46)).frozen? ⟨cbx, i, none⟩ = false := frozen_of HI1.out.hc
  rw [hj] at q2
  have hj0 : decide ((j : Int) < 0) = false := decide_eq_false (by omega)
  have hj8 : decide ((9 : Int) ≤ (j : Int)) = false := decide_eq_false (by omega)
  have hjl : (j : Int) < 9 := by omega
  have hlast := HBD.out c (List.mem_of_getElem? hc)
  have HD := Lib.hid hd
  rw [k] at q0 hd
  rw [show c.down = _ from (by simpa using hd)] at o0
  have HR := Lib.hid (show judgeL E x s = (0, ⟨s.cen.set j ⟨c.down, (m : Int) + 1⟩, s.auth⟩) by simp only [judgeL, show logKind x.kind = true by rw [k]; rfl, if_true, HAT.out]; rw [if_pos HD.out, judgeOn7 k]; rw [if_pos (by omega), HJ.out, show sameAt E x = true by unfold sameAt; rw [show (x.n - 1).toNat = m by omega, hy]; exact hs, hn]; rfl)
  have hcl : cbx < w.heap.size := by
    have h := (Array.getElem?_eq_some_iff.1 hI0).1
    exact h
  rw [hm] at o1
  rw [hn] at q5
  have hm1 : (m : Int) ≤ 1000 := by omega
  have hmE : m < E.length := (List.getElem?_eq_some_iff.1 hy).1
  have hfi : decide ((E.length : Int) < (m : Int) + 1) = false := decide_eq_false (by omega)
  have hfi2 : (m : Int) < (E.length : Int) := by omega
  have hfi3 : ¬ (E.length : Int) ≤ (m : Int) := by omega
  have hfi4 : decide ((E.length : Int) ≤ (m : Int)) = false := decide_eq_false hfi3
  have hfi5 : ¬ E.length ≤ m := by omega
  have hfi6 : decide (E.length ≤ m) = false := decide_eq_false hfi5
  have hwl : IntKind.i64.wrap ((m : Int) + 1) = (m : Int) + 1 := IntWalk.i64_in _ (by omega)
  have hwm : IntKind.i64.wrap (m : Int) = (m : Int) := IntWalk.i64_in _ (by omega)
  have HY := Lib.hid hy
  have HS := Lib.hid hs
  clear hd hj hc k hlast hI0 hm hn hy hs
  go_enter Tryz.func33, Tryz.ntmps33
  go_wp2
  go_quiet (fail)
  revert nq
  intro n1
  go_wp2
  go_quiet (fail)
  revert nq
  intro n2
  go_wp2
  generalize n1 + n2 = n3
  obtain ⟨hI2, hB2, hK2⟩ := cen_last (HI1.out.next (W' := (w.alloc (.cells ca 46)).drewN n3) fun _ _ => rfl) HC.out (show B ≤ (w.alloc (.cells ca 46)).heap.size by simp; omega) ((m : Int) + 1)
  have hB3 := (belowF_drewN (n := n3) (HB1.out.mono hB)).trans hB2
  have hK3 := (keepsF_drewN (n := n3) (keepsF_of HB1.out)).trans hK2
  have eb : (((w.alloc (.cells ca 46)).drewN n3).setCell ⟨cbx, j * 2 + 1, none⟩ (.int .i64 ((m : Int) + 1))).heap[w.heap.size]? = some (.cells ca 46) := ((grown_set ((w.alloc (.cells ca 46)).drewN n3) cbx (j * 2 + 1) (.int .i64 ((m : Int) + 1))).block w.heap.size (show w.heap.size < (w.alloc (.cells ca 46)).heap.size by simp) (by intro e; simp at e; omega)).trans (heap_alloc_last w _)
  have hsz : w.heap.size ≤ (((w.alloc (.cells ca 46)).drewN n3).setCell ⟨cbx, j * 2 + 1, none⟩ (.int .i64 ((m : Int) + 1))).heap.size := hK3.1
  generalize (((w.alloc (.cells ca 46)).drewN n3).setCell ⟨cbx, j * 2 + 1, none⟩ (.int .i64 ((m : Int) + 1))) = W2 at hI2 hB2 hB3 hK2 hK3 eb hsz ⊢
  have e5 : W2.cell? ⟨w.heap.size, 5, none⟩ = some (.int .i64 ((m : Int) + 1)) := by unfold World.cell?; simp only [eb]; exact q5
  have e6 : W2.cell? ⟨w.heap.size, 6, none⟩ = some (.int .i64 x.term) := by unfold World.cell?; simp only [eb]; exact q6
  have e7 : W2.cell? ⟨w.heap.size, 6 + 1, none⟩ = some (.int .i64 x.ek) := by unfold World.cell?; simp only [eb]; exact q7
  have e8 : W2.cell? ⟨w.heap.size, 6 + 2, none⟩ = some (.slice C x.body.length cap) := by unfold World.cell?; simp only [eb]; exact q8
  have el : W2.cell? ⟨lbx, 0, none⟩ = some (.slice AE E.length cE) := by unfold World.cell?; simp only [hI2.hl]; rfl
  have HI2 := Lib.hid hI2
  have HB3 := Lib.hid hB3
  have HK3 := Lib.hid hK3
  clear hI2 hB2 hB3 hK2 hK3 eb o0 o1 fr q0 q1 q2 q4 q5 q6 q7 q8
  obtain ⟨b, off, D, d, rfl, hbB, hr, hDy⟩ := (HEN.out.below HB3.out) m y HY.out
  have g0 : W2.cell? ⟨b, off + m * 3, none⟩ = some (.int .i64 y.term) := hr 0 _ rfl
  have g1 : W2.cell? ⟨b, off + m * 3 + 1, none⟩ = some (.int .i64 y.ek) := hr 1 _ rfl
  have g2 : W2.cell? ⟨b, off + m * 3 + 2, none⟩ = some (.slice D y.body.length d) := hr 2 _ rfl
  have HEQ := Lib.hid (show ∀ W', W'.heap = W2.heap → Calls Tryz.prog 34 #[.agg #[.int .i64 x.term, .int .i64 x.ek, .slice C x.body.length cap], .agg #[.int .i64 y.term, .int .i64 y.ek, .slice D y.body.length d]] W' (BoolRet W' true) from fun W' hW' => by
    have h := equalEntries_any x.en y C D cap d W' ((HBY.out.below HB3.out).at' (Nat.le_trans hB hsz) |>.keep (by rw [hW']; exact Nat.le_refl _) (fun b _ => by rw [hW']) |>.top) (hDy.at' (Nat.le_trans hB hsz) |>.keep (by rw [hW']; exact Nat.le_refl _) (fun b _ => by rw [hW']) |>.top)
    rw [HS.out] at h
    exact h)
  clear hr hDy
  go_still_tail 14, (by kernel_rfl)
  change wpList _ _ _ _ _ W2.drew
  go_wp2_with (go_at_call 34; go_loud (refine (HEQ.out W2.drew rfl).mono ?_); rintro e w3 ⟨rfl, hb3⟩)
  go_ret
  exact ⟨by rw [HR.out]; rfl, by rw [HR.out]; exact (HI2.out.next (W' := W2.drew) fun _ _ => rfl).next hb3.block, (HB3.out.trans (below_same (b := W2.drew) rfl rfl rfl rfl)).trans (hb3.mono (show B ≤ W2.heap.size from Nat.le_trans hB hsz)), (show KeepsF w W2.drew from HK3.out).trans (keepsF_of hb3)⟩

set_option maxHeartbeats 8000000 in
set_option maxRecDepth 100000 in
theorem judgeL_diff7 (B cbx lbx mbx mb i : Nat) (E : List EnD) (AE : Option Addr) (cE : Nat) (x : EvD) (C : Option Addr) (cap : Nat) (tl : List Value) (w : World) (s : LogS)
    (hBy : BytesLow w B C x.body) (hEn : EnLow w B AE E) (hI : CenInv w AE E.length cE B cbx lbx mbx mb s) (hB : B ≤ w.heap.size) (hbd : ∀ c ∈ s.cen, 0 ≤ c.last ∧ c.last ≤ 1000) (j : Nat) (hj : x.who = (j : Int)) (hj9 : j < 9) (c : CenS) (hc : s.cen[j]? = some c) (k : x.kind = 7) (hd : c.down = decide (x.kind = 11)) (m : Nat) (hm : c.last = (m : Int)) (hn : x.n = (m : Int) + 1) (y : EnD) (hy : E[m]? = some y) (hs : sameEn x.en y = false) :
    Calls Tryz.prog 33 #[.int .i64 i, .agg (evCells x C cap tl).toArray, .pointer (some ⟨cbx, 0, none⟩), .pointer (some ⟨lbx, 0, none⟩), .pointer (some ⟨mbx, 0, none⟩)] w (LRet w AE E.length cE B cbx lbx mbx mb (judgeL E x s)) := by
  have q0 : (evCells x C cap tl).toArray[0]? = some (.int .i64 x.kind) := rfl
  have q1 : (evCells x C cap tl).toArray[1]? = some (.int .i64 x.tick) := rfl
  have q2 : (evCells x C cap tl).toArray[2]? = some (.int .i64 x.who) := rfl
  have q4 : (evCells x C cap tl).toArray[4]? = some (.int .i64 x.epoch) := rfl
  have q5 : (evCells x C cap tl).toArray[5]? = some (.int .i64 x.n) := rfl
  have q6 : (evCells x C cap tl).toArray[6]? = some (.int .i64 x.term) := rfl
  have q7 : (evCells x C cap tl).toArray[7]? = some (.int .i64 x.ek) := rfl
  have q8 : (evCells x C cap tl).toArray[8]? = some (.slice C x.body.length cap) := rfl
  generalize (evCells x C cap tl).toArray = ca at q0 q1 q2 q4 q5 q6 q7 q8 ⊢
  have hb1 : Below w.heap.size w (w.alloc (.cells ca 46)) := (Below.refl _ w).alloc (Nat.le_refl _) _
  have hI0 := hI.hc
  have HI1 := Lib.hid (hI.next (W' := w.alloc (.cells ca 46)) hb1.block)
  have HB1 := Lib.hid hb1
  have HEN := Lib.hid hEn
  have HBY := Lib.hid hBy
  have HBD := Lib.hid hbd
  clear hEn hBy hI hb1 hbd
  have HAT := Lib.hid (show cenAt s.cen x.who = some c by unfold cenAt; rw [if_pos (by omega), show x.who.toNat = j by omega]; exact hc)
  have HJ := Lib.hid (show x.who.toNat = j by omega)
  have HC := Lib.hid hc
  have o0 : (w.alloc (.cells ca 46)).cell? ⟨cbx, j * 2, none⟩ = some (.bool c.down) := cells_of HI1.out.hc (cenCells_at _ j c hc).1
  have o1 : (w.alloc (.cells ca 46)).cell? ⟨cbx, j * 2 + 1, none⟩ = some (.int .i64 c.last) := cells_of HI1.out.hc (cenCells_at _ j c hc).2
  have fr : ∀ i, (w.alloc (.cells ca 46)).frozen? ⟨cbx, i, none⟩ = false := frozen_of HI1.out.hc
  rw [hj] at q2
  have hj0 : decide ((j : Int) < 0) = false := decide_eq_false (by omega)
  have hj8 : decide ((9 : Int) ≤ (j : Int)) = false := decide_eq_false (by omega)
  have hjl : (j : Int) < 9 := by omega
  have hlast := HBD.out c (List.mem_of_getElem? hc)
  have HD := Lib.hid hd
  rw [k] at q0 hd
  rw [show c.down = _ from (by simpa using hd)] at o0
  have HR := Lib.hid (show judgeL E x s = (6, ⟨s.cen.set j ⟨c.down, (m : Int) + 1⟩, s.auth⟩) by simp only [judgeL, show logKind x.kind = true by rw [k]; rfl, if_true, HAT.out]; rw [if_pos HD.out, judgeOn7 k]; rw [if_pos (by omega), HJ.out, show sameAt E x = false by unfold sameAt; rw [show (x.n - 1).toNat = m by omega, hy]; exact hs, hn]; rfl)
  have hcl : cbx < w.heap.size := by
    have h := (Array.getElem?_eq_some_iff.1 hI0).1
    exact h
  rw [hm] at o1
  rw [hn] at q5
  have hm1 : (m : Int) ≤ 1000 := by omega
  have hmE : m < E.length := (List.getElem?_eq_some_iff.1 hy).1
  have hfi : decide ((E.length : Int) < (m : Int) + 1) = false := decide_eq_false (by omega)
  have hfi2 : (m : Int) < (E.length : Int) := by omega
  have hfi3 : ¬ (E.length : Int) ≤ (m : Int) := by omega
  have hfi4 : decide ((E.length : Int) ≤ (m : Int)) = false := decide_eq_false hfi3
  have hfi5 : ¬ E.length ≤ m := by omega
  have hfi6 : decide (E.length ≤ m) = false := decide_eq_false hfi5
  have hwl : IntKind.i64.wrap ((m : Int) + 1) = (m : Int) + 1 := IntWalk.i64_in _ (by omega)
  have hwm : IntKind.i64.wrap (m : Int) = (m : Int) := IntWalk.i64_in _ (by omega)
  have HY := Lib.hid hy
  have HS := Lib.hid hs
  clear hd hj hc k hlast hI0 hm hn hy hs
  go_enter Tryz.func33, Tryz.ntmps33
  go_wp2
  go_quiet (fail)
  revert nq
  intro n1
  go_wp2
  go_quiet (fail)
  revert nq
  intro n2
  go_wp2
  generalize n1 + n2 = n3
  obtain ⟨hI2, hB2, hK2⟩ := cen_last (HI1.out.next (W' := (w.alloc (.cells ca 46)).drewN n3) fun _ _ => rfl) HC.out (show B ≤ (w.alloc (.cells ca 46)).heap.size by simp; omega) ((m : Int) + 1)
  have hB3 := (belowF_drewN (n := n3) (HB1.out.mono hB)).trans hB2
  have hK3 := (keepsF_drewN (n := n3) (keepsF_of HB1.out)).trans hK2
  have eb : (((w.alloc (.cells ca 46)).drewN n3).setCell ⟨cbx, j * 2 + 1, none⟩ (.int .i64 ((m : Int) + 1))).heap[w.heap.size]? = some (.cells ca 46) := ((grown_set ((w.alloc (.cells ca 46)).drewN n3) cbx (j * 2 + 1) (.int .i64 ((m : Int) + 1))).block w.heap.size (show w.heap.size < (w.alloc (.cells ca 46)).heap.size by simp) (by intro e; simp at e; omega)).trans (heap_alloc_last w _)
  have hsz : w.heap.size ≤ (((w.alloc (.cells ca 46)).drewN n3).setCell ⟨cbx, j * 2 + 1, none⟩ (.int .i64 ((m : Int) + 1))).heap.size := hK3.1
  generalize (((w.alloc (.cells ca 46)).drewN n3).setCell ⟨cbx, j * 2 + 1, none⟩ (.int .i64 ((m : Int) + 1))) = W2 at hI2 hB2 hB3 hK2 hK3 eb hsz ⊢
  have e5 : W2.cell? ⟨w.heap.size, 5, none⟩ = some (.int .i64 ((m : Int) + 1)) := by unfold World.cell?; simp only [eb]; exact q5
  have e6 : W2.cell? ⟨w.heap.size, 6, none⟩ = some (.int .i64 x.term) := by unfold World.cell?; simp only [eb]; exact q6
  have e7 : W2.cell? ⟨w.heap.size, 6 + 1, none⟩ = some (.int .i64 x.ek) := by unfold World.cell?; simp only [eb]; exact q7
  have e8 : W2.cell? ⟨w.heap.size, 6 + 2, none⟩ = some (.slice C x.body.length cap) := by unfold World.cell?; simp only [eb]; exact q8
  have el : W2.cell? ⟨lbx, 0, none⟩ = some (.slice AE E.length cE) := by unfold World.cell?; simp only [hI2.hl]; rfl
  have HI2 := Lib.hid hI2
  have HB3 := Lib.hid hB3
  have HK3 := Lib.hid hK3
  clear hI2 hB2 hB3 hK2 hK3 eb o0 o1 fr q0 q1 q2 q4 q5 q6 q7 q8
  obtain ⟨b, off, D, d, rfl, hbB, hr, hDy⟩ := (HEN.out.below HB3.out) m y HY.out
  have g0 : W2.cell? ⟨b, off + m * 3, none⟩ = some (.int .i64 y.term) := hr 0 _ rfl
  have g1 : W2.cell? ⟨b, off + m * 3 + 1, none⟩ = some (.int .i64 y.ek) := hr 1 _ rfl
  have g2 : W2.cell? ⟨b, off + m * 3 + 2, none⟩ = some (.slice D y.body.length d) := hr 2 _ rfl
  have HEQ := Lib.hid (show ∀ W', W'.heap = W2.heap → Calls Tryz.prog 34 #[.agg #[.int .i64 x.term, .int .i64 x.ek, .slice C x.body.length cap], .agg #[.int .i64 y.term, .int .i64 y.ek, .slice D y.body.length d]] W' (BoolRet W' false) from fun W' hW' => by
    have h := equalEntries_any x.en y C D cap d W' ((HBY.out.below HB3.out).at' (Nat.le_trans hB hsz) |>.keep (by rw [hW']; exact Nat.le_refl _) (fun b _ => by rw [hW']) |>.top) (hDy.at' (Nat.le_trans hB hsz) |>.keep (by rw [hW']; exact Nat.le_refl _) (fun b _ => by rw [hW']) |>.top)
    rw [HS.out] at h
    exact h)
  clear hr hDy
  go_still_tail 14, (by kernel_rfl)
  change wpList _ _ _ _ _ W2.drew
  go_wp2_with (go_at_call 34; go_loud (refine (HEQ.out W2.drew rfl).mono ?_); rintro e w3 ⟨rfl, hb3⟩)
  go_ret
  exact ⟨by rw [HR.out]; rfl, by rw [HR.out]; exact (HI2.out.next (W' := W2.drew) fun _ _ => rfl).next hb3.block, (HB3.out.trans (below_same (b := W2.drew) rfl rfl rfl rfl)).trans (hb3.mono (show B ≤ W2.heap.size from Nat.le_trans hB hsz)), (show KeepsF w W2.drew from HK3.out).trans (keepsF_of hb3)⟩
end Go.Proofs.YtjhhdklbiibhdaaGreatDoor
