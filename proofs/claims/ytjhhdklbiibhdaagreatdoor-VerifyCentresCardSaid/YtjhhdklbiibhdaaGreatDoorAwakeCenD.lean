/-
  What the function that verify.CheckLog hands to examine answers in this program, at events that it passes by or rejects at once.
-/
import Derived.Test.YtjhhdklbiibhdaaGreatDoorAwakeCenC
namespace Go.Proofs.YtjhhdklbiibhdaaGreatDoor
open Go Go.RowKit

def LRet (w : World) (AE : Option Addr) (nE cE B cbx lbx mbx mb : Nat) (r : Int × LogS) (e : Ending) (w' : World) : Prop :=
  e = .returned (.int .i64 r.1) ∧ CenInv w' AE nE cE B cbx lbx mbx mb r.2 ∧ Below B w w' ∧ KeepsF w w'
theorem belowF_drewN {B n : Nat} {a W : World} (h : Below B a W) : Below B a (W.drewN n) := h.trans ⟨rfl, rfl, rfl, Nat.le_refl _, fun _ _ => rfl⟩
theorem keepsF_drewN {n : Nat} {a W : World} (h : KeepsF a W) : KeepsF a (W.drewN n) := ⟨h.1, h.2⟩
theorem logKind_iff {k : Int} : logKind k = true ↔ k = 7 ∨ k = 10 ∨ k = 11 ∨ k = 12 ∨ k = 13 := by simp [logKind]
theorem cells_of {W : World} {g i : Nat} {cs : List Value} {t : TypeId} {v : Value} (h : W.heap[g]? = some (.cells cs.toArray t)) (hv : cs[i]? = some v) : W.cell? ⟨g, i, none⟩ = some v := by
  unfold World.cell?
  simp only [h]
  simpa using hv
theorem frozen_of {W : World} {g : Nat} {cs : Array Value} {t : TypeId} (h : W.heap[g]? = some (.cells cs t)) (i : Nat) : W.frozen? ⟨g, i, none⟩ = false := by
  unfold World.frozen?
  simp [h]

set_option maxHeartbeats 8000000 in
set_option maxRecDepth 100000 in
theorem judgeL_pass (B cbx lbx mbx mb i : Nat) (E : List EnD) (AE : Option Addr) (cE : Nat) (x : EvD) (C : Option Addr) (cap : Nat) (tl : List Value) (w : World) (s : LogS)
    (hBy : BytesLow w B C x.body) (hEn : EnLow w B AE E) (hI : CenInv w AE E.length cE B cbx lbx mbx mb s) (hB : B ≤ w.heap.size) (hbd : ∀ c ∈ s.cen, 0 ≤ c.last ∧ c.last ≤ 1000) (hk : logKind x.kind = false) :
    Calls Tryz.prog 33 #[.int .i64 i, .agg (evCells x C cap tl).toArray, .pointer (some ⟨cbx, 0, none⟩), .pointer (some ⟨lbx, 0, none⟩), .pointer (some ⟨mbx, 0, none⟩)] w (LRet w AE E.length cE B cbx lbx mbx mb (judgeL E x s)) := by
  have q0 : (evCells x C cap tl).toArray[0]? = some (.int .i64 x.kind) := rfl
  have q1 : (evCells x C cap tl).toArray[1]? = some (.int .i64 x.tick) := rfl
  have q2 : (evCells x C cap tl).toArray[2]? = some (.int .i64 x.who) := rfl
  have q4 : (evCells x C cap tl).toArray[4]? = some (.int .i64 x.epoch) := rfl
  have q5 : (evCells x C cap tl).toArray[5]? = some (.int .i64 x.n) := rfl
  have q6 : (evCells x C cap tl).toArray[6]? = some (.int .i64 x.term) := rfl
  have q7 : (evCells x C cap tl).toArray[7]? = some (.int .i64 x.ek) := rfl
  have q8 : (evCells x C cap tl).toArray[8]? = some (.slice C x.body.length cap) := rfl
  generalize (evCells x C cap tl).toArray = ca at q0 q1 q2 q4 q5 q6 q7 q8 ⊢
  have hb1 : Below w.heap.size w (w.alloc (.cells ca 46)) := (Below.refl _ w).alloc (Nat.le_refl _) _
  have HI1 := Lib.hid (hI.next (W' := w.alloc (.cells ca 46)) hb1.block)
  have HB1 := Lib.hid hb1
  have HEN := Lib.hid hEn
  have HBY := Lib.hid hBy
  have HBD := Lib.hid hbd
  clear hEn hBy hI hb1 hbd
  have HR := Lib.hid (show judgeL E x s = (0, s) by simp only [judgeL, hk]; rfl)
  have k7 : ¬ x.kind = 7 := fun h => by simp [logKind, h] at hk
  have k10 : ¬ x.kind = 10 := fun h => by simp [logKind, h] at hk
  have k11 : ¬ x.kind = 11 := fun h => by simp [logKind, h] at hk
  have k12 : ¬ x.kind = 12 := fun h => by simp [logKind, h] at hk
  have k13 : ¬ x.kind = 13 := fun h => by simp [logKind, h] at hk
  clear hk
  go_enter Tryz.func33, Tryz.ntmps33
  go_wp2
  go_ret
  exact ⟨by rw [HR.out]; rfl, by rw [HR.out]; exact HI1.out, HB1.out.mono hB, keepsF_of HB1.out⟩

set_option maxHeartbeats 8000000 in
set_option maxRecDepth 100000 in
theorem judgeL_low (B cbx lbx mbx mb i : Nat) (E : List EnD) (AE : Option Addr) (cE : Nat) (x : EvD) (C : Option Addr) (cap : Nat) (tl : List Value) (w : World) (s : LogS)
    (hBy : BytesLow w B C x.body) (hEn : EnLow w B AE E) (hI : CenInv w AE E.length cE B cbx lbx mbx mb s) (hB : B ≤ w.heap.size) (hbd : ∀ c ∈ s.cen, 0 ≤ c.last ∧ c.last ≤ 1000) (hk : logKind x.kind = true) (hw : x.who < 0) :
    Calls Tryz.prog 33 #[.int .i64 i, .agg (evCells x C cap tl).toArray, .pointer (some ⟨cbx, 0, none⟩), .pointer (some ⟨lbx, 0, none⟩), .pointer (some ⟨mbx, 0, none⟩)] w (LRet w AE E.length cE B cbx lbx mbx mb (judgeL E x s)) := by
  have q0 : (evCells x C cap tl).toArray[0]? = some (.int .i64 x.kind) := rfl
  have q1 : (evCells x C cap tl).toArray[1]? = some (.int .i64 x.tick) := rfl
  have q2 : (evCells x C cap tl).toArray[2]? = some (.int .i64 x.who) := rfl
  have q4 : (evCells x C cap tl).toArray[4]? = some (.int .i64 x.epoch) := rfl
  have q5 : (evCells x C cap tl).toArray[5]? = some (.int .i64 x.n) := rfl
  have q6 : (evCells x C cap tl).toArray[6]? = some (.int .i64 x.term) := rfl
  have q7 : (evCells x C cap tl).toArray[7]? = some (.int .i64 x.ek) := rfl
  have q8 : (evCells x C cap tl).toArray[8]? = some (.slice C x.body.length cap) := rfl
  generalize (evCells x C cap tl).toArray = ca at q0 q1 q2 q4 q5 q6 q7 q8 ⊢
  have hb1 : Below w.heap.size w (w.alloc (.cells ca 46)) := (Below.refl _ w).alloc (Nat.le_refl _) _
  have HI1 := Lib.hid (hI.next (W' := w.alloc (.cells ca 46)) hb1.block)
  have HB1 := Lib.hid hb1
  have HEN := Lib.hid hEn
  have HBY := Lib.hid hBy
  have HBD := Lib.hid hbd
  clear hEn hBy hI hb1 hbd
  have HR := Lib.hid (show judgeL E x s = (8, s) by simp only [judgeL, hk, if_true, show cenAt s.cen x.who = none by unfold cenAt; rw [if_neg (by omega)]])
  rcases logKind_iff.1 hk with k | k | k | k | k
  all_goals
    rw [k] at q0
    clear hk k
    go_enter Tryz.func33, Tryz.ntmps33
    go_wp2
    go_quiet (fail)
    go_wp2
    go_ret
    exact ⟨by rw [HR.out]; rfl, by rw [HR.out]; exact HI1.out.next fun _ _ => rfl, belowF_drewN (HB1.out.mono hB), keepsF_drewN (keepsF_of HB1.out)⟩

set_option maxHeartbeats 8000000 in
set_option maxRecDepth 100000 in
theorem judgeL_high (B cbx lbx mbx mb i : Nat) (E : List EnD) (AE : Option Addr) (cE : Nat) (x : EvD) (C : Option Addr) (cap : Nat) (tl : List Value) (w : World) (s : LogS)
    (hBy : BytesLow w B C x.body) (hEn : EnLow w B AE E) (hI : CenInv w AE E.length cE B cbx lbx mbx mb s) (hB : B ≤ w.heap.size) (hbd : ∀ c ∈ s.cen, 0 ≤ c.last ∧ c.last ≤ 1000) (hk : logKind x.kind = true) (hw : 9 ≤ x.who) :
    Calls Tryz.prog 33 #[.int .i64 i, .agg (evCells x C cap tl).toArray, .pointer (some ⟨cbx, 0, none⟩), .pointer (some ⟨lbx, 0, none⟩), .pointer (some ⟨mbx, 0, none⟩)] w (LRet w AE E.length cE B cbx lbx mbx mb (judgeL E x s)) := by
  have q0 : (evCells x C cap tl).toArray[0]? = some (.int .i64 x.kind) := rfl
  have q1 : (evCells x C cap tl).toArray[1]? = some (.int .i64 x.tick) := rfl
  have q2 : (evCells x C cap tl).toArray[2]? = some (.int .i64 x.who) := rfl
  have q4 : (evCells x C cap tl).toArray[4]? = some (.int .i64 x.epoch) := rfl
  have q5 : (evCells x C cap tl).toArray[5]? = some (.int .i64 x.n) := rfl
  have q6 : (evCells x C cap tl).toArray[6]? = some (.int .i64 x.term) := rfl
  have q7 : (evCells x C cap tl).toArray[7]? = some (.int .i64 x.ek) := rfl
  have q8 : (evCells x C cap tl).toArray[8]? = some (.slice C x.body.length cap) := rfl
  generalize (evCells x C cap tl).toArray = ca at q0 q1 q2 q4 q5 q6 q7 q8 ⊢
  have hb1 : Below w.heap.size w (w.alloc (.cells ca 46)) := (Below.refl _ w).alloc (Nat.le_refl _) _
  have HI1 := Lib.hid (hI.next (W' := w.alloc (.cells ca 46)) hb1.block)
  have HB1 := Lib.hid hb1
  have HEN := Lib.hid hEn
  have HBY := Lib.hid hBy
  have HBD := Lib.hid hbd
  clear hEn hBy hI hb1 hbd
  have HR := Lib.hid (show judgeL E x s = (8, s) by simp only [judgeL, hk, if_true, show cenAt s.cen x.who = none by unfold cenAt; rw [if_pos (by omega), List.getElem?_eq_none (by have := HI1.out.n9; omega)]])
  have hw0 : decide (x.who < 0) = false := decide_eq_false (by omega)
  have hw1 : ¬ x.who < 0 := by omega
  rcases logKind_iff.1 hk with k | k | k | k | k
  all_goals
    rw [k] at q0
    clear hk k
    go_enter Tryz.func33, Tryz.ntmps33
    go_wp2
    go_quiet (fail)
    go_wp2
    go_ret
    exact ⟨by rw [HR.out]; rfl, by rw [HR.out]; exact HI1.out.next fun _ _ => rfl, belowF_drewN (HB1.out.mono hB), keepsF_drewN (keepsF_of HB1.out)⟩

set_option maxHeartbeats 8000000 in
set_option maxRecDepth 100000 in
theorem judgeL_down (B cbx lbx mbx mb i : Nat) (E : List EnD) (AE : Option Addr) (cE : Nat) (x : EvD) (C : Option Addr) (cap : Nat) (tl : List Value) (w : World) (s : LogS)
    (hBy : BytesLow w B C x.body) (hEn : EnLow w B AE E) (hI : CenInv w AE E.length cE B cbx lbx mbx mb s) (hB : B ≤ w.heap.size) (hbd : ∀ c ∈ s.cen, 0 ≤ c.last ∧ c.last ≤ 1000) (hk : logKind x.kind = true) (j : Nat) (hj : x.who = (j : Int)) (hj9 : j < 9) (c : CenS) (hc : s.cen[j]? = some c) (hd : ¬ c.down = decide (x.kind = 11)) :
    Calls Tryz.prog 33 #[.int .i64 i, .agg (evCells x C cap tl).toArray, .pointer (some ⟨cbx, 0, none⟩), .pointer (some ⟨lbx, 0, none⟩), .pointer (some ⟨mbx, 0, none⟩)] w (LRet w AE E.length cE B cbx lbx mbx mb (judgeL E x s)) := by
  have q0 : (evCells x C cap tl).toArray[0]? = some (.int .i64 x.kind) := rfl
  have q1 : (evCells x C cap tl).toArray[1]? = some (.int .i64 x.tick) := rfl
  have q2 : (evCells x C cap tl).toArray[2]? = some (.int .i64 x.who) := rfl
  have q4 : (evCells x C cap tl).toArray[4]? = some (.int .i64 x.epoch) := rfl
  have q5 : (evCells x C cap tl).toArray[5]? = some (.int .i64 x.n) := rfl
  have q6 : (evCells x C cap tl).toArray[6]? = some (.int .i64 x.term) := rfl
  have q7 : (evCells x C cap tl).toArray[7]? = some (.int .i64 x.ek) := rfl
  have q8 : (evCells x C cap tl).toArray[8]? = some (.slice C x.body.length cap) := rfl
  generalize (evCells x C cap tl).toArray = ca at q0 q1 q2 q4 q5 q6 q7 q8 ⊢
  have hb1 : Below w.heap.size w (w.alloc (.cells ca 46)) := (Below.refl _ w).alloc (Nat.le_refl _) _
  have HI1 := Lib.hid (hI.next (W' := w.alloc (.cells ca 46)) hb1.block)
  have HB1 := Lib.hid hb1
  have HEN := Lib.hid hEn
  have HBY := Lib.hid hBy
  have HBD := Lib.hid hbd
  clear hEn hBy hI hb1 hbd
  have HR := Lib.hid (show judgeL E x s = (8, s) by simp only [judgeL, hk, if_true, show cenAt s.cen x.who = some c by unfold cenAt; rw [if_pos (by omega), show x.who.toNat = j by omega]; exact hc]; rw [if_neg hd])
  have o0 : (w.alloc (.cells ca 46)).cell? ⟨cbx, j * 2, none⟩ = some (.bool c.down) := cells_of HI1.out.hc (cenCells_at _ j c hc).1
  rw [hj] at q2
  have hj0 : decide ((j : Int) < 0) = false := decide_eq_false (by omega)
  have hj8 : decide ((9 : Int) ≤ (j : Int)) = false := decide_eq_false (by omega)
  have hjl : (j : Int) < 9 := by omega
  rcases logKind_iff.1 hk with k | k | k | k | k
  all_goals
    rw [k] at q0 hd
    rw [show c.down = _ from (by simpa using hd)] at o0
    clear hk k hd hj hc
    go_enter Tryz.func33, Tryz.ntmps33
    go_wp2
    go_quiet (fail)
    go_wp2
    go_ret
    exact ⟨by rw [HR.out]; rfl, by rw [HR.out]; exact HI1.out.next fun _ _ => rfl, belowF_drewN (HB1.out.mono hB), keepsF_drewN (keepsF_of HB1.out)⟩
end Go.Proofs.YtjhhdklbiibhdaaGreatDoor
