/-
  What (*callState).change answers and does in this program: for every state and every event.
-/
import Derived.Test.YtjhhdklbiibhdaaGreatDoorAwakeJudgeA
import Derived.Test.YtjhhdklbiibhdaaGreatDoorAwakeMapA
namespace Go.Proofs.YtjhhdklbiibhdaaGreatDoor
open Go Go.RowKit

/-- what the program knows of a call -/
structure CallS where
  opn : Bool
  owned : Bool
  owner : Int
  epoch : Int
def callCells (s : CallS) : Array Value := #[.bool s.opn, .bool s.owned, .int .i64 s.owner, .int .i64 s.epoch]
def change (s : CallS) (x : EvD) : Int × CallS :=
  if x.kind = 3 then (if x.who < 0 then (8, s) else if x.epoch ≤ s.epoch then (2, s) else (0, ⟨s.opn, true, x.who, x.epoch⟩))
  else if x.kind = 6 then (if s.owned = true ∧ x.who = s.owner ∧ x.epoch = s.epoch then (0, ⟨false, s.owned, s.owner, s.epoch⟩) else (8, s))
  else (0, s)
/-- the answer, and what it writes -/
def ChgRet (w : World) (p : Nat) (r : Int × CallS) (e : Ending) (w' : World) : Prop := e = .returned (.int .i64 r.1) ∧ w'.heap[p]? = some (.cells (callCells r.2) 72) ∧ w.grownBy w' (some p)

theorem grownBy_alloc {w : World} {p : Nat} (o : Obj) : w.grownBy (w.alloc o) (some p) := ⟨rfl, rfl, rfl, by simp, fun k hk _ => by
  show (w.heap.push o)[k]? = w.heap[k]?
  rw [Array.getElem?_push]
  simp [Nat.ne_of_lt hk]⟩
theorem grownBy_set {a w : World} {p i : Nat} (h : a.grownBy w (some p)) (v : Value) : a.grownBy (w.setCell ⟨p, i, none⟩ v) (some p) :=
  ⟨h.os, h.tape, h.output, by simpa using h.size, fun k hk hne => (Deep.blk_setCell_other _ _ _ _ (fun e => hne (by rw [e]))).trans (h.block k hk hne)⟩
theorem grownBy_drewN {a w : World} {p n : Nat} (h : a.grownBy w (some p)) : a.grownBy (w.drewN n) (some p) := ⟨h.os, h.tape, h.output, h.size, h.block⟩
theorem grownBy_drew {a w : World} {p : Nat} (h : a.grownBy w (some p)) : a.grownBy w.drew (some p) := ⟨h.os, h.tape, h.output, h.size, h.block⟩

set_option maxHeartbeats 4000000 in
set_option maxRecDepth 100000 in
theorem change_any (p : Nat) (s : CallS) (x : EvD) (cs : List Value) (w : World) (hp : w.heap[p]? = some (.cells (callCells s) 72)) (hE : ∃ B cap tl, cs = evCells x B cap tl) (hl : cs.length = 28) :
    Calls Tryz.prog 32 #[.pointer (some ⟨p, 0, none⟩), .agg cs.toArray] w (ChgRet w p (change s x)) := by
  obtain ⟨B, cap, tl, rfl⟩ := hE
  have q0 : (evCells x B cap tl).toArray[0]? = some (.int .i64 x.kind) := rfl
  have q2 : (evCells x B cap tl).toArray[2]? = some (.int .i64 x.who) := rfl
  have q4 : (evCells x B cap tl).toArray[4]? = some (.int .i64 x.epoch) := rfl
  generalize (evCells x B cap tl).toArray = ca at q0 q2 q4 hl ⊢
  have hlt : p < w.heap.size := (Array.getElem?_eq_some_iff.1 hp).1
  have hp1 : (w.alloc (.cells ca 46)).heap[p]? = some (.cells (callCells s) 72) := ((grownBy_alloc (p := w.heap.size) (.cells ca 46)).block p hlt (fun e => by simp at e; omega)).trans hp
  have c0 : (w.alloc (.cells ca 46)).cell? ⟨p, 0, none⟩ = some (.bool s.opn) := by unfold World.cell?; simp only [hp1]; rfl
  have c1 : (w.alloc (.cells ca 46)).cell? ⟨p, 1, none⟩ = some (.bool s.owned) := by unfold World.cell?; simp only [hp1]; rfl
  have c2 : (w.alloc (.cells ca 46)).cell? ⟨p, 2, none⟩ = some (.int .i64 s.owner) := by unfold World.cell?; simp only [hp1]; rfl
  have c3 : (w.alloc (.cells ca 46)).cell? ⟨p, 3, none⟩ = some (.int .i64 s.epoch) := by unfold World.cell?; simp only [hp1]; rfl
  have f0 : ∀ i, (w.alloc (.cells ca 46)).frozen? ⟨p, i, none⟩ = false := fun i => by unfold World.frozen?; simp [hp1]
  have G0 := Lib.hid (grownBy_alloc (w := w) (p := p) (.cells ca 46))
  have HP1 := Lib.hid hp1
  clear hp hp1 hl
  by_cases h3 : x.kind = 3
  · by_cases hw : x.who < 0
    · have HR := Lib.hid (show change s x = (8, s) by simp [change, h3, hw])
      go_enter Tryz.func32, Tryz.ntmps32
      go_wp2
      go_ret
      exact ⟨by rw [HR.out]; rfl, by rw [HR.out]; exact HP1.out, G0.out⟩
    · by_cases he : x.epoch ≤ s.epoch
      · have HR := Lib.hid (show change s x = (2, s) by simp [change, h3, hw, he])
        go_enter Tryz.func32, Tryz.ntmps32
        go_wp2
        go_quiet (fail)
        go_wp2
        go_ret
        exact ⟨by rw [HR.out]; rfl, by rw [HR.out]; exact HP1.out, grownBy_drewN G0.out⟩
      · have HR := Lib.hid (show change s x = (0, ⟨s.opn, true, x.who, x.epoch⟩) by simp [change, h3, hw, he])
        go_enter Tryz.func32, Tryz.ntmps32
        go_wp2
        go_quiet (fail)
        go_wp2
        go_region
        all_goals go_wp2
        go_ret
        refine ⟨by rw [HR.out]; rfl, ?_, grownBy_set (grownBy_set (grownBy_set (grownBy_drew (grownBy_drewN G0.out)) _) _) _⟩
        rw [HR.out]
        exact setCell_block (setCell_block (setCell_block (W := ((w.alloc (.cells ca 46)).drewN nq).drew) (i := 1) HP1.out (.bool true)) (.int .i64 x.who)) (.int .i64 x.epoch)
  · by_cases h6 : x.kind = 6
    · cases ho : s.owned with
      | false =>
        have HR := Lib.hid (show change s x = (8, s) by simp [change, h6, ho])
        go_enter Tryz.func32, Tryz.ntmps32
        go_wp2
        go_quiet (fail)
        go_wp2
        go_ret
        exact ⟨by rw [HR.out]; rfl, by rw [HR.out]; exact HP1.out, grownBy_drewN G0.out⟩
      | true =>
        by_cases hwo : x.who = s.owner
        · by_cases hep : x.epoch = s.epoch
          · have HR := Lib.hid (show change s x = (0, ⟨false, s.owned, s.owner, s.epoch⟩) by simp [change, h6, ho, hwo, hep])
            go_enter Tryz.func32, Tryz.ntmps32
            go_wp2
            go_quiet (fail)
            go_wp2
            go_ret
            refine ⟨by rw [HR.out]; rfl, ?_, grownBy_set (grownBy_drewN G0.out) _⟩
            rw [HR.out]
            exact setCell_block (W := (w.alloc (.cells ca 46)).drewN nq) (i := 0) HP1.out (.bool false)
          · have HR := Lib.hid (show change s x = (8, s) by simp [change, h6, hep])
            go_enter Tryz.func32, Tryz.ntmps32
            go_wp2
            go_quiet (fail)
            go_wp2
            go_ret
            exact ⟨by rw [HR.out]; rfl, by rw [HR.out]; exact HP1.out, grownBy_drewN G0.out⟩
        · have HR := Lib.hid (show change s x = (8, s) by simp [change, h6, hwo])
          go_enter Tryz.func32, Tryz.ntmps32
          go_wp2
          go_quiet (fail)
          go_wp2
          go_ret
          exact ⟨by rw [HR.out]; rfl, by rw [HR.out]; exact HP1.out, grownBy_drewN G0.out⟩
    · have HR := Lib.hid (show change s x = (0, s) by simp [change, h3, h6])
      go_enter Tryz.func32, Tryz.ntmps32
      go_wp2
      go_ret
      exact ⟨by rw [HR.out]; rfl, by rw [HR.out]; exact HP1.out, G0.out⟩
end Go.Proofs.YtjhhdklbiibhdaaGreatDoor
