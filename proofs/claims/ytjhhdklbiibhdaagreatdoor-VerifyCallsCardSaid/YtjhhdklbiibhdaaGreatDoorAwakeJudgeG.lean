/-
  What verify.CheckCalls answers in this program: for every trace of at most 1000 events.
-/
import Derived.Test.YtjhhdklbiibhdaaGreatDoorAwakeJudgeF
import Derived.Carry
namespace Go.Proofs.YtjhhdklbiibhdaaGreatDoor
open Go Go.RowKit

theorem push3 (h : Array Obj) (a b c : Obj) : (((h.push a).push b).push c)[h.size]? = some a ∧ (((h.push a).push b).push c)[h.size + 1]? = some b ∧ (((h.push a).push b).push c)[h.size + 2]? = some c := by
  refine ⟨?_, ?_, ?_⟩
  · rw [Array.getElem?_push, if_neg (by simp; omega), Array.getElem?_push, if_neg (by simp), Array.getElem?_push, if_pos rfl]
  · rw [Array.getElem?_push, if_neg (by simp), Array.getElem?_push, if_pos (by simp)]
  · rw [Array.getElem?_push, if_pos (by simp)]
/-- the start: two boxes, an empty map -/
theorem calls_start (w : World) (A : Option Addr) (len c : Nat) :
    Below w.heap.size w (((w.alloc (.cells #[.slice A len c] 22)).alloc (.map #[] 0)).alloc (.cells #[.map (some (w.heap.size + 1))] 68)) ∧
    CallsInv (((w.alloc (.cells #[.slice A len c] 22)).alloc (.map #[] 0)).alloc (.cells #[.map (some (w.heap.size + 1))] 68)) A len c w.heap.size (w.heap.size + 2) w.heap.size (w.heap.size + 1) [] [] := by
  obtain ⟨p0, p1, p2⟩ := push3 w.heap (.cells #[.slice A len c] 22) (.map #[] 0) (.cells #[.map (some (w.heap.size + 1))] 68)
  exact ⟨(((Below.refl _ w).alloc (Nat.le_refl _) _).alloc (by simp) _).alloc (by simp; omega) _, rfl, p2, p0, ⟨#[], 0, p1, rfl⟩, fun i p s h => by simp at h, fun i j p h => by simp at h, by omega, by omega, by omega, fun p h => by simp at h⟩

set_option maxHeartbeats 2000000 in
set_option maxRecDepth 100000 in
theorem checkCalls_any (A : Option Addr) (c : Nat) (L : List EvD) (w : World) (hL : RowIn 5 28 (EvC 5) w A L) (hlen : L.length ≤ 1000) :
    Calls Tryz.prog 12 #[.slice A L.length c] w (FltRet w (passC L L.length).2) := by
  have hmm := @run_makeMap Tryz.prog
  have cE : ∀ W : World, Below w.heap.size w W → CallsInv W A L.length c w.heap.size (w.heap.size + 2) w.heap.size (w.heap.size + 1) [] [] →
      Calls Tryz.prog 30 #[.slice A L.length c, .func (.func 31) #[] #[.pointer (some ⟨w.heap.size + 2, 0, none⟩), .pointer (some ⟨w.heap.size, 0, none⟩)]] W fun e w' => ∃ v, e = .returned v ∧ w'.ownsRow W.heap.size 67 2 v (passC L L.length).2.length (fltCells (passC L L.length).2) ∧ Below w.heap.size W w' := fun W hb hI =>
    examine_any A c w.heap.size (w.heap.size + 2) w.heap.size (w.heap.size + 1) L W ((rowLow_of hL).below hb) hlen hb.size hI
  have CE := Lib.hid cE
  clear cE hL
  generalize (passC L L.length).2 = F at CE
  go_enter Tryz.func12, Tryz.ntmps12
  go_wp2_with (go_at_call 30; go_loud (refine (CE.out _ (calls_start w A L.length c).1 (calls_start w A L.length c).2).mono ?_); rintro e w1 ⟨v, rfl, hown, hb1⟩)
  obtain ⟨A', c', rfl, hF⟩ := fltIn_of hown
  have HF := Lib.hid hF
  clear hown hF
  go_wp2
  go_ret
  exact ⟨A', c', rfl, HF.out, (calls_start w A L.length c).1.trans hb1⟩
end Go.Proofs.YtjhhdklbiibhdaaGreatDoor
