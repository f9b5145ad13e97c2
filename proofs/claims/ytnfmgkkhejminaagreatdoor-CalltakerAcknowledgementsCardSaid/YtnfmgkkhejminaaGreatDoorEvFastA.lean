/-
  A part of the proof that the evaluator answers what the model answers, for every program that follows mixed orders; no other condition.
-/
import Derived.Test.YtnfmgkkhejminaaGreatDoorEvFast
import Derived.Test.YtnfmgkkhejminaaGreatDoorEvRun
namespace Go.Ev
set_option linter.unusedSectionVars false
variable [OTab]
variable {P : Program}

/-! ## the temporaries -/
theorem sese1 (i j : Nat) (hi : i < 8) (hj : j < 8) (y : F0) (x : F1) : (sl1 i).v ((se1 j).v y x) = if i = j then y else (sl1 i).v x := by
  obtain ⟨a, b, c, d, e, f, g, h⟩ := x
  match i, hi, j, hj with
  | 0, _, 0, _ => rfl
  | 0, _, 1, _ => rfl
  | 0, _, 2, _ => rfl
  | 0, _, 3, _ => rfl
  | 0, _, 4, _ => rfl
  | 0, _, 5, _ => rfl
  | 0, _, 6, _ => rfl
  | 0, _, 7, _ => rfl
  | 1, _, 0, _ => rfl
  | 1, _, 1, _ => rfl
  | 1, _, 2, _ => rfl
  | 1, _, 3, _ => rfl
  | 1, _, 4, _ => rfl
  | 1, _, 5, _ => rfl
  | 1, _, 6, _ => rfl
  | 1, _, 7, _ => rfl
  | 2, _, 0, _ => rfl
  | 2, _, 1, _ => rfl
  | 2, _, 2, _ => rfl
  | 2, _, 3, _ => rfl
  | 2, _, 4, _ => rfl
  | 2, _, 5, _ => rfl
  | 2, _, 6, _ => rfl
  | 2, _, 7, _ => rfl
  | 3, _, 0, _ => rfl
  | 3, _, 1, _ => rfl
  | 3, _, 2, _ => rfl
  | 3, _, 3, _ => rfl
  | 3, _, 4, _ => rfl
  | 3, _, 5, _ => rfl
  | 3, _, 6, _ => rfl
  | 3, _, 7, _ => rfl
  | 4, _, 0, _ => rfl
  | 4, _, 1, _ => rfl
  | 4, _, 2, _ => rfl
  | 4, _, 3, _ => rfl
  | 4, _, 4, _ => rfl
  | 4, _, 5, _ => rfl
  | 4, _, 6, _ => rfl
  | 4, _, 7, _ => rfl
  | 5, _, 0, _ => rfl
  | 5, _, 1, _ => rfl
  | 5, _, 2, _ => rfl
  | 5, _, 3, _ => rfl
  | 5, _, 4, _ => rfl
  | 5, _, 5, _ => rfl
  | 5, _, 6, _ => rfl
  | 5, _, 7, _ => rfl
  | 6, _, 0, _ => rfl
  | 6, _, 1, _ => rfl
  | 6, _, 2, _ => rfl
  | 6, _, 3, _ => rfl
  | 6, _, 4, _ => rfl
  | 6, _, 5, _ => rfl
  | 6, _, 6, _ => rfl
  | 6, _, 7, _ => rfl
  | 7, _, 0, _ => rfl
  | 7, _, 1, _ => rfl
  | 7, _, 2, _ => rfl
  | 7, _, 3, _ => rfl
  | 7, _, 4, _ => rfl
  | 7, _, 5, _ => rfl
  | 7, _, 6, _ => rfl
  | 7, _, 7, _ => rfl
theorem sese2 (i j : Nat) (hi : i < 8) (hj : j < 8) (y : F1) (x : F2) : (sl2 i).v ((se2 j).v y x) = if i = j then y else (sl2 i).v x := by
  obtain ⟨a, b, c, d, e, f, g, h⟩ := x
  match i, hi, j, hj with
  | 0, _, 0, _ => rfl
  | 0, _, 1, _ => rfl
  | 0, _, 2, _ => rfl
  | 0, _, 3, _ => rfl
  | 0, _, 4, _ => rfl
  | 0, _, 5, _ => rfl
  | 0, _, 6, _ => rfl
  | 0, _, 7, _ => rfl
  | 1, _, 0, _ => rfl
  | 1, _, 1, _ => rfl
  | 1, _, 2, _ => rfl
  | 1, _, 3, _ => rfl
  | 1, _, 4, _ => rfl
  | 1, _, 5, _ => rfl
  | 1, _, 6, _ => rfl
  | 1, _, 7, _ => rfl
  | 2, _, 0, _ => rfl
  | 2, _, 1, _ => rfl
  | 2, _, 2, _ => rfl
  | 2, _, 3, _ => rfl
  | 2, _, 4, _ => rfl
  | 2, _, 5, _ => rfl
  | 2, _, 6, _ => rfl
  | 2, _, 7, _ => rfl
  | 3, _, 0, _ => rfl
  | 3, _, 1, _ => rfl
  | 3, _, 2, _ => rfl
  | 3, _, 3, _ => rfl
  | 3, _, 4, _ => rfl
  | 3, _, 5, _ => rfl
  | 3, _, 6, _ => rfl
  | 3, _, 7, _ => rfl
  | 4, _, 0, _ => rfl
  | 4, _, 1, _ => rfl
  | 4, _, 2, _ => rfl
  | 4, _, 3, _ => rfl
  | 4, _, 4, _ => rfl
  | 4, _, 5, _ => rfl
  | 4, _, 6, _ => rfl
  | 4, _, 7, _ => rfl
  | 5, _, 0, _ => rfl
  | 5, _, 1, _ => rfl
  | 5, _, 2, _ => rfl
  | 5, _, 3, _ => rfl
  | 5, _, 4, _ => rfl
  | 5, _, 5, _ => rfl
  | 5, _, 6, _ => rfl
  | 5, _, 7, _ => rfl
  | 6, _, 0, _ => rfl
  | 6, _, 1, _ => rfl
  | 6, _, 2, _ => rfl
  | 6, _, 3, _ => rfl
  | 6, _, 4, _ => rfl
  | 6, _, 5, _ => rfl
  | 6, _, 6, _ => rfl
  | 6, _, 7, _ => rfl
  | 7, _, 0, _ => rfl
  | 7, _, 1, _ => rfl
  | 7, _, 2, _ => rfl
  | 7, _, 3, _ => rfl
  | 7, _, 4, _ => rfl
  | 7, _, 5, _ => rfl
  | 7, _, 6, _ => rfl
  | 7, _, 7, _ => rfl
theorem sese3 (i j : Nat) (hi : i < 8) (hj : j < 8) (y : F2) (x : F3) : (sl3 i).v ((se3 j).v y x) = if i = j then y else (sl3 i).v x := by
  obtain ⟨a, b, c, d, e, f, g, h⟩ := x
  match i, hi, j, hj with
  | 0, _, 0, _ => rfl
  | 0, _, 1, _ => rfl
  | 0, _, 2, _ => rfl
  | 0, _, 3, _ => rfl
  | 0, _, 4, _ => rfl
  | 0, _, 5, _ => rfl
  | 0, _, 6, _ => rfl
  | 0, _, 7, _ => rfl
  | 1, _, 0, _ => rfl
  | 1, _, 1, _ => rfl
  | 1, _, 2, _ => rfl
  | 1, _, 3, _ => rfl
  | 1, _, 4, _ => rfl
  | 1, _, 5, _ => rfl
  | 1, _, 6, _ => rfl
  | 1, _, 7, _ => rfl
  | 2, _, 0, _ => rfl
  | 2, _, 1, _ => rfl
  | 2, _, 2, _ => rfl
  | 2, _, 3, _ => rfl
  | 2, _, 4, _ => rfl
  | 2, _, 5, _ => rfl
  | 2, _, 6, _ => rfl
  | 2, _, 7, _ => rfl
  | 3, _, 0, _ => rfl
  | 3, _, 1, _ => rfl
  | 3, _, 2, _ => rfl
  | 3, _, 3, _ => rfl
  | 3, _, 4, _ => rfl
  | 3, _, 5, _ => rfl
  | 3, _, 6, _ => rfl
  | 3, _, 7, _ => rfl
  | 4, _, 0, _ => rfl
  | 4, _, 1, _ => rfl
  | 4, _, 2, _ => rfl
  | 4, _, 3, _ => rfl
  | 4, _, 4, _ => rfl
  | 4, _, 5, _ => rfl
  | 4, _, 6, _ => rfl
  | 4, _, 7, _ => rfl
  | 5, _, 0, _ => rfl
  | 5, _, 1, _ => rfl
  | 5, _, 2, _ => rfl
  | 5, _, 3, _ => rfl
  | 5, _, 4, _ => rfl
  | 5, _, 5, _ => rfl
  | 5, _, 6, _ => rfl
  | 5, _, 7, _ => rfl
  | 6, _, 0, _ => rfl
  | 6, _, 1, _ => rfl
  | 6, _, 2, _ => rfl
  | 6, _, 3, _ => rfl
  | 6, _, 4, _ => rfl
  | 6, _, 5, _ => rfl
  | 6, _, 6, _ => rfl
  | 6, _, 7, _ => rfl
  | 7, _, 0, _ => rfl
  | 7, _, 1, _ => rfl
  | 7, _, 2, _ => rfl
  | 7, _, 3, _ => rfl
  | 7, _, 4, _ => rfl
  | 7, _, 5, _ => rfl
  | 7, _, 6, _ => rfl
  | 7, _, 7, _ => rfl
theorem cG00_is (l : Nat) (hl : l < 8) (N : F3) : (cG00 l).v N = (sl1 l).v ((sl2 0).v ((sl3 0).v N)) := by
  match l, hl with
  | 0, _ => rfl
  | 1, _ => rfl
  | 2, _ => rfl
  | 3, _ => rfl
  | 4, _ => rfl
  | 5, _ => rfl
  | 6, _ => rfl
  | 7, _ => rfl
theorem cG01_is (l : Nat) (hl : l < 8) (N : F3) : (cG01 l).v N = (sl1 l).v ((sl2 1).v ((sl3 0).v N)) := by
  match l, hl with
  | 0, _ => rfl
  | 1, _ => rfl
  | 2, _ => rfl
  | 3, _ => rfl
  | 4, _ => rfl
  | 5, _ => rfl
  | 6, _ => rfl
  | 7, _ => rfl
theorem cG02_is (l : Nat) (hl : l < 8) (N : F3) : (cG02 l).v N = (sl1 l).v ((sl2 2).v ((sl3 0).v N)) := by
  match l, hl with
  | 0, _ => rfl
  | 1, _ => rfl
  | 2, _ => rfl
  | 3, _ => rfl
  | 4, _ => rfl
  | 5, _ => rfl
  | 6, _ => rfl
  | 7, _ => rfl
theorem cG03_is (l : Nat) (hl : l < 8) (N : F3) : (cG03 l).v N = (sl1 l).v ((sl2 3).v ((sl3 0).v N)) := by
  match l, hl with
  | 0, _ => rfl
  | 1, _ => rfl
  | 2, _ => rfl
  | 3, _ => rfl
  | 4, _ => rfl
  | 5, _ => rfl
  | 6, _ => rfl
  | 7, _ => rfl
theorem cG04_is (l : Nat) (hl : l < 8) (N : F3) : (cG04 l).v N = (sl1 l).v ((sl2 4).v ((sl3 0).v N)) := by
  match l, hl with
  | 0, _ => rfl
  | 1, _ => rfl
  | 2, _ => rfl
  | 3, _ => rfl
  | 4, _ => rfl
  | 5, _ => rfl
  | 6, _ => rfl
  | 7, _ => rfl
theorem cG05_is (l : Nat) (hl : l < 8) (N : F3) : (cG05 l).v N = (sl1 l).v ((sl2 5).v ((sl3 0).v N)) := by
  match l, hl with
  | 0, _ => rfl
  | 1, _ => rfl
  | 2, _ => rfl
  | 3, _ => rfl
  | 4, _ => rfl
  | 5, _ => rfl
  | 6, _ => rfl
  | 7, _ => rfl
theorem cG06_is (l : Nat) (hl : l < 8) (N : F3) : (cG06 l).v N = (sl1 l).v ((sl2 6).v ((sl3 0).v N)) := by
  match l, hl with
  | 0, _ => rfl
  | 1, _ => rfl
  | 2, _ => rfl
  | 3, _ => rfl
  | 4, _ => rfl
  | 5, _ => rfl
  | 6, _ => rfl
  | 7, _ => rfl
theorem cG07_is (l : Nat) (hl : l < 8) (N : F3) : (cG07 l).v N = (sl1 l).v ((sl2 7).v ((sl3 0).v N)) := by
  match l, hl with
  | 0, _ => rfl
  | 1, _ => rfl
  | 2, _ => rfl
  | 3, _ => rfl
  | 4, _ => rfl
  | 5, _ => rfl
  | 6, _ => rfl
  | 7, _ => rfl
theorem cG0_is (j l : Nat) (hj : j < 8) (hl : l < 8) (N : F3) : (cG0 j l).v N = (sl1 l).v ((sl2 j).v ((sl3 0).v N)) := by
  match j, hj with
  | 0, _ => exact cG00_is l hl N
  | 1, _ => exact cG01_is l hl N
  | 2, _ => exact cG02_is l hl N
  | 3, _ => exact cG03_is l hl N
  | 4, _ => exact cG04_is l hl N
  | 5, _ => exact cG05_is l hl N
  | 6, _ => exact cG06_is l hl N
  | 7, _ => exact cG07_is l hl N
theorem cG10_is (l : Nat) (hl : l < 8) (N : F3) : (cG10 l).v N = (sl1 l).v ((sl2 0).v ((sl3 1).v N)) := by
  match l, hl with
  | 0, _ => rfl
  | 1, _ => rfl
  | 2, _ => rfl
  | 3, _ => rfl
  | 4, _ => rfl
  | 5, _ => rfl
  | 6, _ => rfl
  | 7, _ => rfl
theorem cG11_is (l : Nat) (hl : l < 8) (N : F3) : (cG11 l).v N = (sl1 l).v ((sl2 1).v ((sl3 1).v N)) := by
  match l, hl with
  | 0, _ => rfl
  | 1, _ => rfl
  | 2, _ => rfl
  | 3, _ => rfl
  | 4, _ => rfl
  | 5, _ => rfl
  | 6, _ => rfl
  | 7, _ => rfl
theorem cG12_is (l : Nat) (hl : l < 8) (N : F3) : (cG12 l).v N = (sl1 l).v ((sl2 2).v ((sl3 1).v N)) := by
  match l, hl with
  | 0, _ => rfl
  | 1, _ => rfl
  | 2, _ => rfl
  | 3, _ => rfl
  | 4, _ => rfl
  | 5, _ => rfl
  | 6, _ => rfl
  | 7, _ => rfl
theorem cG13_is (l : Nat) (hl : l < 8) (N : F3) : (cG13 l).v N = (sl1 l).v ((sl2 3).v ((sl3 1).v N)) := by
  match l, hl with
  | 0, _ => rfl
  | 1, _ => rfl
  | 2, _ => rfl
  | 3, _ => rfl
  | 4, _ => rfl
  | 5, _ => rfl
  | 6, _ => rfl
  | 7, _ => rfl
theorem cG14_is (l : Nat) (hl : l < 8) (N : F3) : (cG14 l).v N = (sl1 l).v ((sl2 4).v ((sl3 1).v N)) := by
  match l, hl with
  | 0, _ => rfl
  | 1, _ => rfl
  | 2, _ => rfl
  | 3, _ => rfl
  | 4, _ => rfl
  | 5, _ => rfl
  | 6, _ => rfl
  | 7, _ => rfl
theorem cG15_is (l : Nat) (hl : l < 8) (N : F3) : (cG15 l).v N = (sl1 l).v ((sl2 5).v ((sl3 1).v N)) := by
  match l, hl with
  | 0, _ => rfl
  | 1, _ => rfl
  | 2, _ => rfl
  | 3, _ => rfl
  | 4, _ => rfl
  | 5, _ => rfl
  | 6, _ => rfl
  | 7, _ => rfl
theorem cG16_is (l : Nat) (hl : l < 8) (N : F3) : (cG16 l).v N = (sl1 l).v ((sl2 6).v ((sl3 1).v N)) := by
  match l, hl with
  | 0, _ => rfl
  | 1, _ => rfl
  | 2, _ => rfl
  | 3, _ => rfl
  | 4, _ => rfl
  | 5, _ => rfl
  | 6, _ => rfl
  | 7, _ => rfl
theorem cG17_is (l : Nat) (hl : l < 8) (N : F3) : (cG17 l).v N = (sl1 l).v ((sl2 7).v ((sl3 1).v N)) := by
  match l, hl with
  | 0, _ => rfl
  | 1, _ => rfl
  | 2, _ => rfl
  | 3, _ => rfl
  | 4, _ => rfl
  | 5, _ => rfl
  | 6, _ => rfl
  | 7, _ => rfl
theorem cG1_is (j l : Nat) (hj : j < 8) (hl : l < 8) (N : F3) : (cG1 j l).v N = (sl1 l).v ((sl2 j).v ((sl3 1).v N)) := by
  match j, hj with
  | 0, _ => exact cG10_is l hl N
  | 1, _ => exact cG11_is l hl N
  | 2, _ => exact cG12_is l hl N
  | 3, _ => exact cG13_is l hl N
  | 4, _ => exact cG14_is l hl N
  | 5, _ => exact cG15_is l hl N
  | 6, _ => exact cG16_is l hl N
  | 7, _ => exact cG17_is l hl N
theorem cG20_is (l : Nat) (hl : l < 8) (N : F3) : (cG20 l).v N = (sl1 l).v ((sl2 0).v ((sl3 2).v N)) := by
  match l, hl with
  | 0, _ => rfl
  | 1, _ => rfl
  | 2, _ => rfl
  | 3, _ => rfl
  | 4, _ => rfl
  | 5, _ => rfl
  | 6, _ => rfl
  | 7, _ => rfl
theorem cG21_is (l : Nat) (hl : l < 8) (N : F3) : (cG21 l).v N = (sl1 l).v ((sl2 1).v ((sl3 2).v N)) := by
  match l, hl with
  | 0, _ => rfl
  | 1, _ => rfl
  | 2, _ => rfl
  | 3, _ => rfl
  | 4, _ => rfl
  | 5, _ => rfl
  | 6, _ => rfl
  | 7, _ => rfl
theorem cG22_is (l : Nat) (hl : l < 8) (N : F3) : (cG22 l).v N = (sl1 l).v ((sl2 2).v ((sl3 2).v N)) := by
  match l, hl with
  | 0, _ => rfl
  | 1, _ => rfl
  | 2, _ => rfl
  | 3, _ => rfl
  | 4, _ => rfl
  | 5, _ => rfl
  | 6, _ => rfl
  | 7, _ => rfl
theorem cG23_is (l : Nat) (hl : l < 8) (N : F3) : (cG23 l).v N = (sl1 l).v ((sl2 3).v ((sl3 2).v N)) := by
  match l, hl with
  | 0, _ => rfl
  | 1, _ => rfl
  | 2, _ => rfl
  | 3, _ => rfl
  | 4, _ => rfl
  | 5, _ => rfl
  | 6, _ => rfl
  | 7, _ => rfl
theorem cG24_is (l : Nat) (hl : l < 8) (N : F3) : (cG24 l).v N = (sl1 l).v ((sl2 4).v ((sl3 2).v N)) := by
  match l, hl with
  | 0, _ => rfl
  | 1, _ => rfl
  | 2, _ => rfl
  | 3, _ => rfl
  | 4, _ => rfl
  | 5, _ => rfl
  | 6, _ => rfl
  | 7, _ => rfl
theorem cG25_is (l : Nat) (hl : l < 8) (N : F3) : (cG25 l).v N = (sl1 l).v ((sl2 5).v ((sl3 2).v N)) := by
  match l, hl with
  | 0, _ => rfl
  | 1, _ => rfl
  | 2, _ => rfl
  | 3, _ => rfl
  | 4, _ => rfl
  | 5, _ => rfl
  | 6, _ => rfl
  | 7, _ => rfl
theorem cG26_is (l : Nat) (hl : l < 8) (N : F3) : (cG26 l).v N = (sl1 l).v ((sl2 6).v ((sl3 2).v N)) := by
  match l, hl with
  | 0, _ => rfl
  | 1, _ => rfl
  | 2, _ => rfl
  | 3, _ => rfl
  | 4, _ => rfl
  | 5, _ => rfl
  | 6, _ => rfl
  | 7, _ => rfl
theorem cG27_is (l : Nat) (hl : l < 8) (N : F3) : (cG27 l).v N = (sl1 l).v ((sl2 7).v ((sl3 2).v N)) := by
  match l, hl with
  | 0, _ => rfl
  | 1, _ => rfl
  | 2, _ => rfl
  | 3, _ => rfl
  | 4, _ => rfl
  | 5, _ => rfl
  | 6, _ => rfl
  | 7, _ => rfl
theorem cG2_is (j l : Nat) (hj : j < 8) (hl : l < 8) (N : F3) : (cG2 j l).v N = (sl1 l).v ((sl2 j).v ((sl3 2).v N)) := by
  match j, hj with
  | 0, _ => exact cG20_is l hl N
  | 1, _ => exact cG21_is l hl N
  | 2, _ => exact cG22_is l hl N
  | 3, _ => exact cG23_is l hl N
  | 4, _ => exact cG24_is l hl N
  | 5, _ => exact cG25_is l hl N
  | 6, _ => exact cG26_is l hl N
  | 7, _ => exact cG27_is l hl N
theorem cG30_is (l : Nat) (hl : l < 8) (N : F3) : (cG30 l).v N = (sl1 l).v ((sl2 0).v ((sl3 3).v N)) := by
  match l, hl with
  | 0, _ => rfl
  | 1, _ => rfl
  | 2, _ => rfl
  | 3, _ => rfl
  | 4, _ => rfl
  | 5, _ => rfl
  | 6, _ => rfl
  | 7, _ => rfl
theorem cG31_is (l : Nat) (hl : l < 8) (N : F3) : (cG31 l).v N = (sl1 l).v ((sl2 1).v ((sl3 3).v N)) := by
  match l, hl with
  | 0, _ => rfl
  | 1, _ => rfl
  | 2, _ => rfl
  | 3, _ => rfl
  | 4, _ => rfl
  | 5, _ => rfl
  | 6, _ => rfl
  | 7, _ => rfl
theorem cG32_is (l : Nat) (hl : l < 8) (N : F3) : (cG32 l).v N = (sl1 l).v ((sl2 2).v ((sl3 3).v N)) := by
  match l, hl with
  | 0, _ => rfl
  | 1, _ => rfl
  | 2, _ => rfl
  | 3, _ => rfl
  | 4, _ => rfl
  | 5, _ => rfl
  | 6, _ => rfl
  | 7, _ => rfl
theorem cG33_is (l : Nat) (hl : l < 8) (N : F3) : (cG33 l).v N = (sl1 l).v ((sl2 3).v ((sl3 3).v N)) := by
  match l, hl with
  | 0, _ => rfl
  | 1, _ => rfl
  | 2, _ => rfl
  | 3, _ => rfl
  | 4, _ => rfl
  | 5, _ => rfl
  | 6, _ => rfl
  | 7, _ => rfl
theorem cG34_is (l : Nat) (hl : l < 8) (N : F3) : (cG34 l).v N = (sl1 l).v ((sl2 4).v ((sl3 3).v N)) := by
  match l, hl with
  | 0, _ => rfl
  | 1, _ => rfl
  | 2, _ => rfl
  | 3, _ => rfl
  | 4, _ => rfl
  | 5, _ => rfl
  | 6, _ => rfl
  | 7, _ => rfl
theorem cG35_is (l : Nat) (hl : l < 8) (N : F3) : (cG35 l).v N = (sl1 l).v ((sl2 5).v ((sl3 3).v N)) := by
  match l, hl with
  | 0, _ => rfl
  | 1, _ => rfl
  | 2, _ => rfl
  | 3, _ => rfl
  | 4, _ => rfl
  | 5, _ => rfl
  | 6, _ => rfl
  | 7, _ => rfl
theorem cG36_is (l : Nat) (hl : l < 8) (N : F3) : (cG36 l).v N = (sl1 l).v ((sl2 6).v ((sl3 3).v N)) := by
  match l, hl with
  | 0, _ => rfl
  | 1, _ => rfl
  | 2, _ => rfl
  | 3, _ => rfl
  | 4, _ => rfl
  | 5, _ => rfl
  | 6, _ => rfl
  | 7, _ => rfl
theorem cG37_is (l : Nat) (hl : l < 8) (N : F3) : (cG37 l).v N = (sl1 l).v ((sl2 7).v ((sl3 3).v N)) := by
  match l, hl with
  | 0, _ => rfl
  | 1, _ => rfl
  | 2, _ => rfl
  | 3, _ => rfl
  | 4, _ => rfl
  | 5, _ => rfl
  | 6, _ => rfl
  | 7, _ => rfl
theorem cG3_is (j l : Nat) (hj : j < 8) (hl : l < 8) (N : F3) : (cG3 j l).v N = (sl1 l).v ((sl2 j).v ((sl3 3).v N)) := by
  match j, hj with
  | 0, _ => exact cG30_is l hl N
  | 1, _ => exact cG31_is l hl N
  | 2, _ => exact cG32_is l hl N
  | 3, _ => exact cG33_is l hl N
  | 4, _ => exact cG34_is l hl N
  | 5, _ => exact cG35_is l hl N
  | 6, _ => exact cG36_is l hl N
  | 7, _ => exact cG37_is l hl N
theorem cG40_is (l : Nat) (hl : l < 8) (N : F3) : (cG40 l).v N = (sl1 l).v ((sl2 0).v ((sl3 4).v N)) := by
  match l, hl with
  | 0, _ => rfl
  | 1, _ => rfl
  | 2, _ => rfl
  | 3, _ => rfl
  | 4, _ => rfl
  | 5, _ => rfl
  | 6, _ => rfl
  | 7, _ => rfl
theorem cG41_is (l : Nat) (hl : l < 8) (N : F3) : (cG41 l).v N = (sl1 l).v ((sl2 1).v ((sl3 4).v N)) := by
  match l, hl with
  | 0, _ => rfl
  | 1, _ => rfl
  | 2, _ => rfl
  | 3, _ => rfl
  | 4, _ => rfl
  | 5, _ => rfl
  | 6, _ => rfl
  | 7, _ => rfl
theorem cG42_is (l : Nat) (hl : l < 8) (N : F3) : (cG42 l).v N = (sl1 l).v ((sl2 2).v ((sl3 4).v N)) := by
  match l, hl with
  | 0, _ => rfl
  | 1, _ => rfl
  | 2, _ => rfl
  | 3, _ => rfl
  | 4, _ => rfl
  | 5, _ => rfl
  | 6, _ => rfl
  | 7, _ => rfl
theorem cG43_is (l : Nat) (hl : l < 8) (N : F3) : (cG43 l).v N = (sl1 l).v ((sl2 3).v ((sl3 4).v N)) := by
  match l, hl with
  | 0, _ => rfl
  | 1, _ => rfl
  | 2, _ => rfl
  | 3, _ => rfl
  | 4, _ => rfl
  | 5, _ => rfl
  | 6, _ => rfl
  | 7, _ => rfl
theorem cG44_is (l : Nat) (hl : l < 8) (N : F3) : (cG44 l).v N = (sl1 l).v ((sl2 4).v ((sl3 4).v N)) := by
  match l, hl with
  | 0, _ => rfl
  | 1, _ => rfl
  | 2, _ => rfl
  | 3, _ => rfl
  | 4, _ => rfl
  | 5, _ => rfl
  | 6, _ => rfl
  | 7, _ => rfl
theorem cG45_is (l : Nat) (hl : l < 8) (N : F3) : (cG45 l).v N = (sl1 l).v ((sl2 5).v ((sl3 4).v N)) := by
  match l, hl with
  | 0, _ => rfl
  | 1, _ => rfl
  | 2, _ => rfl
  | 3, _ => rfl
  | 4, _ => rfl
  | 5, _ => rfl
  | 6, _ => rfl
  | 7, _ => rfl
theorem cG46_is (l : Nat) (hl : l < 8) (N : F3) : (cG46 l).v N = (sl1 l).v ((sl2 6).v ((sl3 4).v N)) := by
  match l, hl with
  | 0, _ => rfl
  | 1, _ => rfl
  | 2, _ => rfl
  | 3, _ => rfl
  | 4, _ => rfl
  | 5, _ => rfl
  | 6, _ => rfl
  | 7, _ => rfl
theorem cG47_is (l : Nat) (hl : l < 8) (N : F3) : (cG47 l).v N = (sl1 l).v ((sl2 7).v ((sl3 4).v N)) := by
  match l, hl with
  | 0, _ => rfl
  | 1, _ => rfl
  | 2, _ => rfl
  | 3, _ => rfl
  | 4, _ => rfl
  | 5, _ => rfl
  | 6, _ => rfl
  | 7, _ => rfl
theorem cG4_is (j l : Nat) (hj : j < 8) (hl : l < 8) (N : F3) : (cG4 j l).v N = (sl1 l).v ((sl2 j).v ((sl3 4).v N)) := by
  match j, hj with
  | 0, _ => exact cG40_is l hl N
  | 1, _ => exact cG41_is l hl N
  | 2, _ => exact cG42_is l hl N
  | 3, _ => exact cG43_is l hl N
  | 4, _ => exact cG44_is l hl N
  | 5, _ => exact cG45_is l hl N
  | 6, _ => exact cG46_is l hl N
  | 7, _ => exact cG47_is l hl N
theorem cG50_is (l : Nat) (hl : l < 8) (N : F3) : (cG50 l).v N = (sl1 l).v ((sl2 0).v ((sl3 5).v N)) := by
  match l, hl with
  | 0, _ => rfl
  | 1, _ => rfl
  | 2, _ => rfl
  | 3, _ => rfl
  | 4, _ => rfl
  | 5, _ => rfl
  | 6, _ => rfl
  | 7, _ => rfl
theorem cG51_is (l : Nat) (hl : l < 8) (N : F3) : (cG51 l).v N = (sl1 l).v ((sl2 1).v ((sl3 5).v N)) := by
  match l, hl with
  | 0, _ => rfl
  | 1, _ => rfl
  | 2, _ => rfl
  | 3, _ => rfl
  | 4, _ => rfl
  | 5, _ => rfl
  | 6, _ => rfl
  | 7, _ => rfl
theorem cG52_is (l : Nat) (hl : l < 8) (N : F3) : (cG52 l).v N = (sl1 l).v ((sl2 2).v ((sl3 5).v N)) := by
  match l, hl with
  | 0, _ => rfl
  | 1, _ => rfl
  | 2, _ => rfl
  | 3, _ => rfl
  | 4, _ => rfl
  | 5, _ => rfl
  | 6, _ => rfl
  | 7, _ => rfl
theorem cG53_is (l : Nat) (hl : l < 8) (N : F3) : (cG53 l).v N = (sl1 l).v ((sl2 3).v ((sl3 5).v N)) := by
  match l, hl with
  | 0, _ => rfl
  | 1, _ => rfl
  | 2, _ => rfl
  | 3, _ => rfl
  | 4, _ => rfl
  | 5, _ => rfl
  | 6, _ => rfl
  | 7, _ => rfl
theorem cG54_is (l : Nat) (hl : l < 8) (N : F3) : (cG54 l).v N = (sl1 l).v ((sl2 4).v ((sl3 5).v N)) := by
  match l, hl with
  | 0, _ => rfl
  | 1, _ => rfl
  | 2, _ => rfl
  | 3, _ => rfl
  | 4, _ => rfl
  | 5, _ => rfl
  | 6, _ => rfl
  | 7, _ => rfl
theorem cG55_is (l : Nat) (hl : l < 8) (N : F3) : (cG55 l).v N = (sl1 l).v ((sl2 5).v ((sl3 5).v N)) := by
  match l, hl with
  | 0, _ => rfl
  | 1, _ => rfl
  | 2, _ => rfl
  | 3, _ => rfl
  | 4, _ => rfl
  | 5, _ => rfl
  | 6, _ => rfl
  | 7, _ => rfl
theorem cG56_is (l : Nat) (hl : l < 8) (N : F3) : (cG56 l).v N = (sl1 l).v ((sl2 6).v ((sl3 5).v N)) := by
  match l, hl with
  | 0, _ => rfl
  | 1, _ => rfl
  | 2, _ => rfl
  | 3, _ => rfl
  | 4, _ => rfl
  | 5, _ => rfl
  | 6, _ => rfl
  | 7, _ => rfl
theorem cG57_is (l : Nat) (hl : l < 8) (N : F3) : (cG57 l).v N = (sl1 l).v ((sl2 7).v ((sl3 5).v N)) := by
  match l, hl with
  | 0, _ => rfl
  | 1, _ => rfl
  | 2, _ => rfl
  | 3, _ => rfl
  | 4, _ => rfl
  | 5, _ => rfl
  | 6, _ => rfl
  | 7, _ => rfl
theorem cG5_is (j l : Nat) (hj : j < 8) (hl : l < 8) (N : F3) : (cG5 j l).v N = (sl1 l).v ((sl2 j).v ((sl3 5).v N)) := by
  match j, hj with
  | 0, _ => exact cG50_is l hl N
  | 1, _ => exact cG51_is l hl N
  | 2, _ => exact cG52_is l hl N
  | 3, _ => exact cG53_is l hl N
  | 4, _ => exact cG54_is l hl N
  | 5, _ => exact cG55_is l hl N
  | 6, _ => exact cG56_is l hl N
  | 7, _ => exact cG57_is l hl N
theorem cG60_is (l : Nat) (hl : l < 8) (N : F3) : (cG60 l).v N = (sl1 l).v ((sl2 0).v ((sl3 6).v N)) := by
  match l, hl with
  | 0, _ => rfl
  | 1, _ => rfl
  | 2, _ => rfl
  | 3, _ => rfl
  | 4, _ => rfl
  | 5, _ => rfl
  | 6, _ => rfl
  | 7, _ => rfl
theorem cG61_is (l : Nat) (hl : l < 8) (N : F3) : (cG61 l).v N = (sl1 l).v ((sl2 1).v ((sl3 6).v N)) := by
  match l, hl with
  | 0, _ => rfl
  | 1, _ => rfl
  | 2, _ => rfl
  | 3, _ => rfl
  | 4, _ => rfl
  | 5, _ => rfl
  | 6, _ => rfl
  | 7, _ => rfl
theorem cG62_is (l : Nat) (hl : l < 8) (N : F3) : (cG62 l).v N = (sl1 l).v ((sl2 2).v ((sl3 6).v N)) := by
  match l, hl with
  | 0, _ => rfl
  | 1, _ => rfl
  | 2, _ => rfl
  | 3, _ => rfl
  | 4, _ => rfl
  | 5, _ => rfl
  | 6, _ => rfl
  | 7, _ => rfl
theorem cG63_is (l : Nat) (hl : l < 8) (N : F3) : (cG63 l).v N = (sl1 l).v ((sl2 3).v ((sl3 6).v N)) := by
  match l, hl with
  | 0, _ => rfl
  | 1, _ => rfl
  | 2, _ => rfl
  | 3, _ => rfl
  | 4, _ => rfl
  | 5, _ => rfl
  | 6, _ => rfl
  | 7, _ => rfl
theorem cG64_is (l : Nat) (hl : l < 8) (N : F3) : (cG64 l).v N = (sl1 l).v ((sl2 4).v ((sl3 6).v N)) := by
  match l, hl with
  | 0, _ => rfl
  | 1, _ => rfl
  | 2, _ => rfl
  | 3, _ => rfl
  | 4, _ => rfl
  | 5, _ => rfl
  | 6, _ => rfl
  | 7, _ => rfl
theorem cG65_is (l : Nat) (hl : l < 8) (N : F3) : (cG65 l).v N = (sl1 l).v ((sl2 5).v ((sl3 6).v N)) := by
  match l, hl with
  | 0, _ => rfl
  | 1, _ => rfl
  | 2, _ => rfl
  | 3, _ => rfl
  | 4, _ => rfl
  | 5, _ => rfl
  | 6, _ => rfl
  | 7, _ => rfl
theorem cG66_is (l : Nat) (hl : l < 8) (N : F3) : (cG66 l).v N = (sl1 l).v ((sl2 6).v ((sl3 6).v N)) := by
  match l, hl with
  | 0, _ => rfl
  | 1, _ => rfl
  | 2, _ => rfl
  | 3, _ => rfl
  | 4, _ => rfl
  | 5, _ => rfl
  | 6, _ => rfl
  | 7, _ => rfl
theorem cG67_is (l : Nat) (hl : l < 8) (N : F3) : (cG67 l).v N = (sl1 l).v ((sl2 7).v ((sl3 6).v N)) := by
  match l, hl with
  | 0, _ => rfl
  | 1, _ => rfl
  | 2, _ => rfl
  | 3, _ => rfl
  | 4, _ => rfl
  | 5, _ => rfl
  | 6, _ => rfl
  | 7, _ => rfl
theorem cG6_is (j l : Nat) (hj : j < 8) (hl : l < 8) (N : F3) : (cG6 j l).v N = (sl1 l).v ((sl2 j).v ((sl3 6).v N)) := by
  match j, hj with
  | 0, _ => exact cG60_is l hl N
  | 1, _ => exact cG61_is l hl N
  | 2, _ => exact cG62_is l hl N
  | 3, _ => exact cG63_is l hl N
  | 4, _ => exact cG64_is l hl N
  | 5, _ => exact cG65_is l hl N
  | 6, _ => exact cG66_is l hl N
  | 7, _ => exact cG67_is l hl N
theorem cG70_is (l : Nat) (hl : l < 8) (N : F3) : (cG70 l).v N = (sl1 l).v ((sl2 0).v ((sl3 7).v N)) := by
  match l, hl with
  | 0, _ => rfl
  | 1, _ => rfl
  | 2, _ => rfl
  | 3, _ => rfl
  | 4, _ => rfl
  | 5, _ => rfl
  | 6, _ => rfl
  | 7, _ => rfl
theorem cG71_is (l : Nat) (hl : l < 8) (N : F3) : (cG71 l).v N = (sl1 l).v ((sl2 1).v ((sl3 7).v N)) := by
  match l, hl with
  | 0, _ => rfl
  | 1, _ => rfl
  | 2, _ => rfl
  | 3, _ => rfl
  | 4, _ => rfl
  | 5, _ => rfl
  | 6, _ => rfl
  | 7, _ => rfl
theorem cG72_is (l : Nat) (hl : l < 8) (N : F3) : (cG72 l).v N = (sl1 l).v ((sl2 2).v ((sl3 7).v N)) := by
  match l, hl with
  | 0, _ => rfl
  | 1, _ => rfl
  | 2, _ => rfl
  | 3, _ => rfl
  | 4, _ => rfl
  | 5, _ => rfl
  | 6, _ => rfl
  | 7, _ => rfl
theorem cG73_is (l : Nat) (hl : l < 8) (N : F3) : (cG73 l).v N = (sl1 l).v ((sl2 3).v ((sl3 7).v N)) := by
  match l, hl with
  | 0, _ => rfl
  | 1, _ => rfl
  | 2, _ => rfl
  | 3, _ => rfl
  | 4, _ => rfl
  | 5, _ => rfl
  | 6, _ => rfl
  | 7, _ => rfl
theorem cG74_is (l : Nat) (hl : l < 8) (N : F3) : (cG74 l).v N = (sl1 l).v ((sl2 4).v ((sl3 7).v N)) := by
  match l, hl with
  | 0, _ => rfl
  | 1, _ => rfl
  | 2, _ => rfl
  | 3, _ => rfl
  | 4, _ => rfl
  | 5, _ => rfl
  | 6, _ => rfl
  | 7, _ => rfl
theorem cG75_is (l : Nat) (hl : l < 8) (N : F3) : (cG75 l).v N = (sl1 l).v ((sl2 5).v ((sl3 7).v N)) := by
  match l, hl with
  | 0, _ => rfl
  | 1, _ => rfl
  | 2, _ => rfl
  | 3, _ => rfl
  | 4, _ => rfl
  | 5, _ => rfl
  | 6, _ => rfl
  | 7, _ => rfl
theorem cG76_is (l : Nat) (hl : l < 8) (N : F3) : (cG76 l).v N = (sl1 l).v ((sl2 6).v ((sl3 7).v N)) := by
  match l, hl with
  | 0, _ => rfl
  | 1, _ => rfl
  | 2, _ => rfl
  | 3, _ => rfl
  | 4, _ => rfl
  | 5, _ => rfl
  | 6, _ => rfl
  | 7, _ => rfl
theorem cG77_is (l : Nat) (hl : l < 8) (N : F3) : (cG77 l).v N = (sl1 l).v ((sl2 7).v ((sl3 7).v N)) := by
  match l, hl with
  | 0, _ => rfl
  | 1, _ => rfl
  | 2, _ => rfl
  | 3, _ => rfl
  | 4, _ => rfl
  | 5, _ => rfl
  | 6, _ => rfl
  | 7, _ => rfl
theorem cG7_is (j l : Nat) (hj : j < 8) (hl : l < 8) (N : F3) : (cG7 j l).v N = (sl1 l).v ((sl2 j).v ((sl3 7).v N)) := by
  match j, hj with
  | 0, _ => exact cG70_is l hl N
  | 1, _ => exact cG71_is l hl N
  | 2, _ => exact cG72_is l hl N
  | 3, _ => exact cG73_is l hl N
  | 4, _ => exact cG74_is l hl N
  | 5, _ => exact cG75_is l hl N
  | 6, _ => exact cG76_is l hl N
  | 7, _ => exact cG77_is l hl N
theorem cG_is (i j l : Nat) (hi : i < 8) (hj : j < 8) (hl : l < 8) (N : F3) : (cG i j l).v N = (sl1 l).v ((sl2 j).v ((sl3 i).v N)) := by
  match i, hi with
  | 0, _ => exact cG0_is j l hj hl N
  | 1, _ => exact cG1_is j l hj hl N
  | 2, _ => exact cG2_is j l hj hl N
  | 3, _ => exact cG3_is j l hj hl N
  | 4, _ => exact cG4_is j l hj hl N
  | 5, _ => exact cG5_is j l hj hl N
  | 6, _ => exact cG6_is j l hj hl N
  | 7, _ => exact cG7_is j l hj hl N
theorem cP00_is (l : Nat) (hl : l < 8) (N : F3) (b : F0) : (cP00 l).v N b = (se3 0).v ((se2 0).v ((se1 l).v b ((sl2 0).v ((sl3 0).v N))) ((sl3 0).v N)) N := by
  match l, hl with
  | 0, _ => rfl
  | 1, _ => rfl
  | 2, _ => rfl
  | 3, _ => rfl
  | 4, _ => rfl
  | 5, _ => rfl
  | 6, _ => rfl
  | 7, _ => rfl
theorem cP01_is (l : Nat) (hl : l < 8) (N : F3) (b : F0) : (cP01 l).v N b = (se3 0).v ((se2 1).v ((se1 l).v b ((sl2 1).v ((sl3 0).v N))) ((sl3 0).v N)) N := by
  match l, hl with
  | 0, _ => rfl
  | 1, _ => rfl
  | 2, _ => rfl
  | 3, _ => rfl
  | 4, _ => rfl
  | 5, _ => rfl
  | 6, _ => rfl
  | 7, _ => rfl
theorem cP02_is (l : Nat) (hl : l < 8) (N : F3) (b : F0) : (cP02 l).v N b = (se3 0).v ((se2 2).v ((se1 l).v b ((sl2 2).v ((sl3 0).v N))) ((sl3 0).v N)) N := by
  match l, hl with
  | 0, _ => rfl
  | 1, _ => rfl
  | 2, _ => rfl
  | 3, _ => rfl
  | 4, _ => rfl
  | 5, _ => rfl
  | 6, _ => rfl
  | 7, _ => rfl
theorem cP03_is (l : Nat) (hl : l < 8) (N : F3) (b : F0) : (cP03 l).v N b = (se3 0).v ((se2 3).v ((se1 l).v b ((sl2 3).v ((sl3 0).v N))) ((sl3 0).v N)) N := by
  match l, hl with
  | 0, _ => rfl
  | 1, _ => rfl
  | 2, _ => rfl
  | 3, _ => rfl
  | 4, _ => rfl
  | 5, _ => rfl
  | 6, _ => rfl
  | 7, _ => rfl
theorem cP04_is (l : Nat) (hl : l < 8) (N : F3) (b : F0) : (cP04 l).v N b = (se3 0).v ((se2 4).v ((se1 l).v b ((sl2 4).v ((sl3 0).v N))) ((sl3 0).v N)) N := by
  match l, hl with
  | 0, _ => rfl
  | 1, _ => rfl
  | 2, _ => rfl
  | 3, _ => rfl
  | 4, _ => rfl
  | 5, _ => rfl
  | 6, _ => rfl
  | 7, _ => rfl
theorem cP05_is (l : Nat) (hl : l < 8) (N : F3) (b : F0) : (cP05 l).v N b = (se3 0).v ((se2 5).v ((se1 l).v b ((sl2 5).v ((sl3 0).v N))) ((sl3 0).v N)) N := by
  match l, hl with
  | 0, _ => rfl
  | 1, _ => rfl
  | 2, _ => rfl
  | 3, _ => rfl
  | 4, _ => rfl
  | 5, _ => rfl
  | 6, _ => rfl
  | 7, _ => rfl
theorem cP06_is (l : Nat) (hl : l < 8) (N : F3) (b : F0) : (cP06 l).v N b = (se3 0).v ((se2 6).v ((se1 l).v b ((sl2 6).v ((sl3 0).v N))) ((sl3 0).v N)) N := by
  match l, hl with
  | 0, _ => rfl
  | 1, _ => rfl
  | 2, _ => rfl
  | 3, _ => rfl
  | 4, _ => rfl
  | 5, _ => rfl
  | 6, _ => rfl
  | 7, _ => rfl
theorem cP07_is (l : Nat) (hl : l < 8) (N : F3) (b : F0) : (cP07 l).v N b = (se3 0).v ((se2 7).v ((se1 l).v b ((sl2 7).v ((sl3 0).v N))) ((sl3 0).v N)) N := by
  match l, hl with
  | 0, _ => rfl
  | 1, _ => rfl
  | 2, _ => rfl
  | 3, _ => rfl
  | 4, _ => rfl
  | 5, _ => rfl
  | 6, _ => rfl
  | 7, _ => rfl
theorem cP0_is (j l : Nat) (hj : j < 8) (hl : l < 8) (N : F3) (b : F0) : (cP0 j l).v N b = (se3 0).v ((se2 j).v ((se1 l).v b ((sl2 j).v ((sl3 0).v N))) ((sl3 0).v N)) N := by
  match j, hj with
  | 0, _ => exact cP00_is l hl N b
  | 1, _ => exact cP01_is l hl N b
  | 2, _ => exact cP02_is l hl N b
  | 3, _ => exact cP03_is l hl N b
  | 4, _ => exact cP04_is l hl N b
  | 5, _ => exact cP05_is l hl N b
  | 6, _ => exact cP06_is l hl N b
  | 7, _ => exact cP07_is l hl N b
theorem cP10_is (l : Nat) (hl : l < 8) (N : F3) (b : F0) : (cP10 l).v N b = (se3 1).v ((se2 0).v ((se1 l).v b ((sl2 0).v ((sl3 1).v N))) ((sl3 1).v N)) N := by
  match l, hl with
  | 0, _ => rfl
  | 1, _ => rfl
  | 2, _ => rfl
  | 3, _ => rfl
  | 4, _ => rfl
  | 5, _ => rfl
  | 6, _ => rfl
  | 7, _ => rfl
theorem cP11_is (l : Nat) (hl : l < 8) (N : F3) (b : F0) : (cP11 l).v N b = (se3 1).v ((se2 1).v ((se1 l).v b ((sl2 1).v ((sl3 1).v N))) ((sl3 1).v N)) N := by
  match l, hl with
  | 0, _ => rfl
  | 1, _ => rfl
  | 2, _ => rfl
  | 3, _ => rfl
  | 4, _ => rfl
  | 5, _ => rfl
  | 6, _ => rfl
  | 7, _ => rfl
theorem cP12_is (l : Nat) (hl : l < 8) (N : F3) (b : F0) : (cP12 l).v N b = (se3 1).v ((se2 2).v ((se1 l).v b ((sl2 2).v ((sl3 1).v N))) ((sl3 1).v N)) N := by
  match l, hl with
  | 0, _ => rfl
  | 1, _ => rfl
  | 2, _ => rfl
  | 3, _ => rfl
  | 4, _ => rfl
  | 5, _ => rfl
  | 6, _ => rfl
  | 7, _ => rfl
theorem cP13_is (l : Nat) (hl : l < 8) (N : F3) (b : F0) : (cP13 l).v N b = (se3 1).v ((se2 3).v ((se1 l).v b ((sl2 3).v ((sl3 1).v N))) ((sl3 1).v N)) N := by
  match l, hl with
  | 0, _ => rfl
  | 1, _ => rfl
  | 2, _ => rfl
  | 3, _ => rfl
  | 4, _ => rfl
  | 5, _ => rfl
  | 6, _ => rfl
  | 7, _ => rfl
theorem cP14_is (l : Nat) (hl : l < 8) (N : F3) (b : F0) : (cP14 l).v N b = (se3 1).v ((se2 4).v ((se1 l).v b ((sl2 4).v ((sl3 1).v N))) ((sl3 1).v N)) N := by
  match l, hl with
  | 0, _ => rfl
  | 1, _ => rfl
  | 2, _ => rfl
  | 3, _ => rfl
  | 4, _ => rfl
  | 5, _ => rfl
  | 6, _ => rfl
  | 7, _ => rfl
theorem cP15_is (l : Nat) (hl : l < 8) (N : F3) (b : F0) : (cP15 l).v N b = (se3 1).v ((se2 5).v ((se1 l).v b ((sl2 5).v ((sl3 1).v N))) ((sl3 1).v N)) N := by
  match l, hl with
  | 0, _ => rfl
  | 1, _ => rfl
  | 2, _ => rfl
  | 3, _ => rfl
  | 4, _ => rfl
  | 5, _ => rfl
  | 6, _ => rfl
  | 7, _ => rfl
theorem cP16_is (l : Nat) (hl : l < 8) (N : F3) (b : F0) : (cP16 l).v N b = (se3 1).v ((se2 6).v ((se1 l).v b ((sl2 6).v ((sl3 1).v N))) ((sl3 1).v N)) N := by
  match l, hl with
  | 0, _ => rfl
  | 1, _ => rfl
  | 2, _ => rfl
  | 3, _ => rfl
  | 4, _ => rfl
  | 5, _ => rfl
  | 6, _ => rfl
  | 7, _ => rfl
theorem cP17_is (l : Nat) (hl : l < 8) (N : F3) (b : F0) : (cP17 l).v N b = (se3 1).v ((se2 7).v ((se1 l).v b ((sl2 7).v ((sl3 1).v N))) ((sl3 1).v N)) N := by
  match l, hl with
  | 0, _ => rfl
  | 1, _ => rfl
  | 2, _ => rfl
  | 3, _ => rfl
  | 4, _ => rfl
  | 5, _ => rfl
  | 6, _ => rfl
  | 7, _ => rfl
theorem cP1_is (j l : Nat) (hj : j < 8) (hl : l < 8) (N : F3) (b : F0) : (cP1 j l).v N b = (se3 1).v ((se2 j).v ((se1 l).v b ((sl2 j).v ((sl3 1).v N))) ((sl3 1).v N)) N := by
  match j, hj with
  | 0, _ => exact cP10_is l hl N b
  | 1, _ => exact cP11_is l hl N b
  | 2, _ => exact cP12_is l hl N b
  | 3, _ => exact cP13_is l hl N b
  | 4, _ => exact cP14_is l hl N b
  | 5, _ => exact cP15_is l hl N b
  | 6, _ => exact cP16_is l hl N b
  | 7, _ => exact cP17_is l hl N b
theorem cP20_is (l : Nat) (hl : l < 8) (N : F3) (b : F0) : (cP20 l).v N b = (se3 2).v ((se2 0).v ((se1 l).v b ((sl2 0).v ((sl3 2).v N))) ((sl3 2).v N)) N := by
  match l, hl with
  | 0, _ => rfl
  | 1, _ => rfl
  | 2, _ => rfl
  | 3, _ => rfl
  | 4, _ => rfl
  | 5, _ => rfl
  | 6, _ => rfl
  | 7, _ => rfl
theorem cP21_is (l : Nat) (hl : l < 8) (N : F3) (b : F0) : (cP21 l).v N b = (se3 2).v ((se2 1).v ((se1 l).v b ((sl2 1).v ((sl3 2).v N))) ((sl3 2).v N)) N := by
  match l, hl with
  | 0, _ => rfl
  | 1, _ => rfl
  | 2, _ => rfl
  | 3, _ => rfl
  | 4, _ => rfl
  | 5, _ => rfl
  | 6, _ => rfl
  | 7, _ => rfl
theorem cP22_is (l : Nat) (hl : l < 8) (N : F3) (b : F0) : (cP22 l).v N b = (se3 2).v ((se2 2).v ((se1 l).v b ((sl2 2).v ((sl3 2).v N))) ((sl3 2).v N)) N := by
  match l, hl with
  | 0, _ => rfl
  | 1, _ => rfl
  | 2, _ => rfl
  | 3, _ => rfl
  | 4, _ => rfl
  | 5, _ => rfl
  | 6, _ => rfl
  | 7, _ => rfl
theorem cP23_is (l : Nat) (hl : l < 8) (N : F3) (b : F0) : (cP23 l).v N b = (se3 2).v ((se2 3).v ((se1 l).v b ((sl2 3).v ((sl3 2).v N))) ((sl3 2).v N)) N := by
  match l, hl with
  | 0, _ => rfl
  | 1, _ => rfl
  | 2, _ => rfl
  | 3, _ => rfl
  | 4, _ => rfl
  | 5, _ => rfl
  | 6, _ => rfl
  | 7, _ => rfl
theorem cP24_is (l : Nat) (hl : l < 8) (N : F3) (b : F0) : (cP24 l).v N b = (se3 2).v ((se2 4).v ((se1 l).v b ((sl2 4).v ((sl3 2).v N))) ((sl3 2).v N)) N := by
  match l, hl with
  | 0, _ => rfl
  | 1, _ => rfl
  | 2, _ => rfl
  | 3, _ => rfl
  | 4, _ => rfl
  | 5, _ => rfl
  | 6, _ => rfl
  | 7, _ => rfl
theorem cP25_is (l : Nat) (hl : l < 8) (N : F3) (b : F0) : (cP25 l).v N b = (se3 2).v ((se2 5).v ((se1 l).v b ((sl2 5).v ((sl3 2).v N))) ((sl3 2).v N)) N := by
  match l, hl with
  | 0, _ => rfl
  | 1, _ => rfl
  | 2, _ => rfl
  | 3, _ => rfl
  | 4, _ => rfl
  | 5, _ => rfl
  | 6, _ => rfl
  | 7, _ => rfl
theorem cP26_is (l : Nat) (hl : l < 8) (N : F3) (b : F0) : (cP26 l).v N b = (se3 2).v ((se2 6).v ((se1 l).v b ((sl2 6).v ((sl3 2).v N))) ((sl3 2).v N)) N := by
  match l, hl with
  | 0, _ => rfl
  | 1, _ => rfl
  | 2, _ => rfl
  | 3, _ => rfl
  | 4, _ => rfl
  | 5, _ => rfl
  | 6, _ => rfl
  | 7, _ => rfl
theorem cP27_is (l : Nat) (hl : l < 8) (N : F3) (b : F0) : (cP27 l).v N b = (se3 2).v ((se2 7).v ((se1 l).v b ((sl2 7).v ((sl3 2).v N))) ((sl3 2).v N)) N := by
  match l, hl with
  | 0, _ => rfl
  | 1, _ => rfl
  | 2, _ => rfl
  | 3, _ => rfl
  | 4, _ => rfl
  | 5, _ => rfl
  | 6, _ => rfl
  | 7, _ => rfl
theorem cP2_is (j l : Nat) (hj : j < 8) (hl : l < 8) (N : F3) (b : F0) : (cP2 j l).v N b = (se3 2).v ((se2 j).v ((se1 l).v b ((sl2 j).v ((sl3 2).v N))) ((sl3 2).v N)) N := by
  match j, hj with
  | 0, _ => exact cP20_is l hl N b
  | 1, _ => exact cP21_is l hl N b
  | 2, _ => exact cP22_is l hl N b
  | 3, _ => exact cP23_is l hl N b
  | 4, _ => exact cP24_is l hl N b
  | 5, _ => exact cP25_is l hl N b
  | 6, _ => exact cP26_is l hl N b
  | 7, _ => exact cP27_is l hl N b
theorem cP30_is (l : Nat) (hl : l < 8) (N : F3) (b : F0) : (cP30 l).v N b = (se3 3).v ((se2 0).v ((se1 l).v b ((sl2 0).v ((sl3 3).v N))) ((sl3 3).v N)) N := by
  match l, hl with
  | 0, _ => rfl
  | 1, _ => rfl
  | 2, _ => rfl
  | 3, _ => rfl
  | 4, _ => rfl
  | 5, _ => rfl
  | 6, _ => rfl
  | 7, _ => rfl
theorem cP31_is (l : Nat) (hl : l < 8) (N : F3) (b : F0) : (cP31 l).v N b = (se3 3).v ((se2 1).v ((se1 l).v b ((sl2 1).v ((sl3 3).v N))) ((sl3 3).v N)) N := by
  match l, hl with
  | 0, _ => rfl
  | 1, _ => rfl
  | 2, _ => rfl
  | 3, _ => rfl
  | 4, _ => rfl
  | 5, _ => rfl
  | 6, _ => rfl
  | 7, _ => rfl
theorem cP32_is (l : Nat) (hl : l < 8) (N : F3) (b : F0) : (cP32 l).v N b = (se3 3).v ((se2 2).v ((se1 l).v b ((sl2 2).v ((sl3 3).v N))) ((sl3 3).v N)) N := by
  match l, hl with
  | 0, _ => rfl
  | 1, _ => rfl
  | 2, _ => rfl
  | 3, _ => rfl
  | 4, _ => rfl
  | 5, _ => rfl
  | 6, _ => rfl
  | 7, _ => rfl
theorem cP33_is (l : Nat) (hl : l < 8) (N : F3) (b : F0) : (cP33 l).v N b = (se3 3).v ((se2 3).v ((se1 l).v b ((sl2 3).v ((sl3 3).v N))) ((sl3 3).v N)) N := by
  match l, hl with
  | 0, _ => rfl
  | 1, _ => rfl
  | 2, _ => rfl
  | 3, _ => rfl
  | 4, _ => rfl
  | 5, _ => rfl
  | 6, _ => rfl
  | 7, _ => rfl
theorem cP34_is (l : Nat) (hl : l < 8) (N : F3) (b : F0) : (cP34 l).v N b = (se3 3).v ((se2 4).v ((se1 l).v b ((sl2 4).v ((sl3 3).v N))) ((sl3 3).v N)) N := by
  match l, hl with
  | 0, _ => rfl
  | 1, _ => rfl
  | 2, _ => rfl
  | 3, _ => rfl
  | 4, _ => rfl
  | 5, _ => rfl
  | 6, _ => rfl
  | 7, _ => rfl
theorem cP35_is (l : Nat) (hl : l < 8) (N : F3) (b : F0) : (cP35 l).v N b = (se3 3).v ((se2 5).v ((se1 l).v b ((sl2 5).v ((sl3 3).v N))) ((sl3 3).v N)) N := by
  match l, hl with
  | 0, _ => rfl
  | 1, _ => rfl
  | 2, _ => rfl
  | 3, _ => rfl
  | 4, _ => rfl
  | 5, _ => rfl
  | 6, _ => rfl
  | 7, _ => rfl
theorem cP36_is (l : Nat) (hl : l < 8) (N : F3) (b : F0) : (cP36 l).v N b = (se3 3).v ((se2 6).v ((se1 l).v b ((sl2 6).v ((sl3 3).v N))) ((sl3 3).v N)) N := by
  match l, hl with
  | 0, _ => rfl
  | 1, _ => rfl
  | 2, _ => rfl
  | 3, _ => rfl
  | 4, _ => rfl
  | 5, _ => rfl
  | 6, _ => rfl
  | 7, _ => rfl
theorem cP37_is (l : Nat) (hl : l < 8) (N : F3) (b : F0) : (cP37 l).v N b = (se3 3).v ((se2 7).v ((se1 l).v b ((sl2 7).v ((sl3 3).v N))) ((sl3 3).v N)) N := by
  match l, hl with
  | 0, _ => rfl
  | 1, _ => rfl
  | 2, _ => rfl
  | 3, _ => rfl
  | 4, _ => rfl
  | 5, _ => rfl
  | 6, _ => rfl
  | 7, _ => rfl
theorem cP3_is (j l : Nat) (hj : j < 8) (hl : l < 8) (N : F3) (b : F0) : (cP3 j l).v N b = (se3 3).v ((se2 j).v ((se1 l).v b ((sl2 j).v ((sl3 3).v N))) ((sl3 3).v N)) N := by
  match j, hj with
  | 0, _ => exact cP30_is l hl N b
  | 1, _ => exact cP31_is l hl N b
  | 2, _ => exact cP32_is l hl N b
  | 3, _ => exact cP33_is l hl N b
  | 4, _ => exact cP34_is l hl N b
  | 5, _ => exact cP35_is l hl N b
  | 6, _ => exact cP36_is l hl N b
  | 7, _ => exact cP37_is l hl N b
theorem cP40_is (l : Nat) (hl : l < 8) (N : F3) (b : F0) : (cP40 l).v N b = (se3 4).v ((se2 0).v ((se1 l).v b ((sl2 0).v ((sl3 4).v N))) ((sl3 4).v N)) N := by
  match l, hl with
  | 0, _ => rfl
  | 1, _ => rfl
  | 2, _ => rfl
  | 3, _ => rfl
  | 4, _ => rfl
  | 5, _ => rfl
  | 6, _ => rfl
  | 7, _ => rfl
theorem cP41_is (l : Nat) (hl : l < 8) (N : F3) (b : F0) : (cP41 l).v N b = (se3 4).v ((se2 1).v ((se1 l).v b ((sl2 1).v ((sl3 4).v N))) ((sl3 4).v N)) N := by
  match l, hl with
  | 0, _ => rfl
  | 1, _ => rfl
  | 2, _ => rfl
  | 3, _ => rfl
  | 4, _ => rfl
  | 5, _ => rfl
  | 6, _ => rfl
  | 7, _ => rfl
theorem cP42_is (l : Nat) (hl : l < 8) (N : F3) (b : F0) : (cP42 l).v N b = (se3 4).v ((se2 2).v ((se1 l).v b ((sl2 2).v ((sl3 4).v N))) ((sl3 4).v N)) N := by
  match l, hl with
  | 0, _ => rfl
  | 1, _ => rfl
  | 2, _ => rfl
  | 3, _ => rfl
  | 4, _ => rfl
  | 5, _ => rfl
  | 6, _ => rfl
  | 7, _ => rfl
theorem cP43_is (l : Nat) (hl : l < 8) (N : F3) (b : F0) : (cP43 l).v N b = (se3 4).v ((se2 3).v ((se1 l).v b ((sl2 3).v ((sl3 4).v N))) ((sl3 4).v N)) N := by
  match l, hl with
  | 0, _ => rfl
  | 1, _ => rfl
  | 2, _ => rfl
  | 3, _ => rfl
  | 4, _ => rfl
  | 5, _ => rfl
  | 6, _ => rfl
  | 7, _ => rfl
theorem cP44_is (l : Nat) (hl : l < 8) (N : F3) (b : F0) : (cP44 l).v N b = (se3 4).v ((se2 4).v ((se1 l).v b ((sl2 4).v ((sl3 4).v N))) ((sl3 4).v N)) N := by
  match l, hl with
  | 0, _ => rfl
  | 1, _ => rfl
  | 2, _ => rfl
  | 3, _ => rfl
  | 4, _ => rfl
  | 5, _ => rfl
  | 6, _ => rfl
  | 7, _ => rfl
theorem cP45_is (l : Nat) (hl : l < 8) (N : F3) (b : F0) : (cP45 l).v N b = (se3 4).v ((se2 5).v ((se1 l).v b ((sl2 5).v ((sl3 4).v N))) ((sl3 4).v N)) N := by
  match l, hl with
  | 0, _ => rfl
  | 1, _ => rfl
  | 2, _ => rfl
  | 3, _ => rfl
  | 4, _ => rfl
  | 5, _ => rfl
  | 6, _ => rfl
  | 7, _ => rfl
theorem cP46_is (l : Nat) (hl : l < 8) (N : F3) (b : F0) : (cP46 l).v N b = (se3 4).v ((se2 6).v ((se1 l).v b ((sl2 6).v ((sl3 4).v N))) ((sl3 4).v N)) N := by
  match l, hl with
  | 0, _ => rfl
  | 1, _ => rfl
  | 2, _ => rfl
  | 3, _ => rfl
  | 4, _ => rfl
  | 5, _ => rfl
  | 6, _ => rfl
  | 7, _ => rfl
theorem cP47_is (l : Nat) (hl : l < 8) (N : F3) (b : F0) : (cP47 l).v N b = (se3 4).v ((se2 7).v ((se1 l).v b ((sl2 7).v ((sl3 4).v N))) ((sl3 4).v N)) N := by
  match l, hl with
  | 0, _ => rfl
  | 1, _ => rfl
  | 2, _ => rfl
  | 3, _ => rfl
  | 4, _ => rfl
  | 5, _ => rfl
  | 6, _ => rfl
  | 7, _ => rfl
theorem cP4_is (j l : Nat) (hj : j < 8) (hl : l < 8) (N : F3) (b : F0) : (cP4 j l).v N b = (se3 4).v ((se2 j).v ((se1 l).v b ((sl2 j).v ((sl3 4).v N))) ((sl3 4).v N)) N := by
  match j, hj with
  | 0, _ => exact cP40_is l hl N b
  | 1, _ => exact cP41_is l hl N b
  | 2, _ => exact cP42_is l hl N b
  | 3, _ => exact cP43_is l hl N b
  | 4, _ => exact cP44_is l hl N b
  | 5, _ => exact cP45_is l hl N b
  | 6, _ => exact cP46_is l hl N b
  | 7, _ => exact cP47_is l hl N b
theorem cP50_is (l : Nat) (hl : l < 8) (N : F3) (b : F0) : (cP50 l).v N b = (se3 5).v ((se2 0).v ((se1 l).v b ((sl2 0).v ((sl3 5).v N))) ((sl3 5).v N)) N := by
  match l, hl with
  | 0, _ => rfl
  | 1, _ => rfl
  | 2, _ => rfl
  | 3, _ => rfl
  | 4, _ => rfl
  | 5, _ => rfl
  | 6, _ => rfl
  | 7, _ => rfl
theorem cP51_is (l : Nat) (hl : l < 8) (N : F3) (b : F0) : (cP51 l).v N b = (se3 5).v ((se2 1).v ((se1 l).v b ((sl2 1).v ((sl3 5).v N))) ((sl3 5).v N)) N := by
  match l, hl with
  | 0, _ => rfl
  | 1, _ => rfl
  | 2, _ => rfl
  | 3, _ => rfl
  | 4, _ => rfl
  | 5, _ => rfl
  | 6, _ => rfl
  | 7, _ => rfl
theorem cP52_is (l : Nat) (hl : l < 8) (N : F3) (b : F0) : (cP52 l).v N b = (se3 5).v ((se2 2).v ((se1 l).v b ((sl2 2).v ((sl3 5).v N))) ((sl3 5).v N)) N := by
  match l, hl with
  | 0, _ => rfl
  | 1, _ => rfl
  | 2, _ => rfl
  | 3, _ => rfl
  | 4, _ => rfl
  | 5, _ => rfl
  | 6, _ => rfl
  | 7, _ => rfl
theorem cP53_is (l : Nat) (hl : l < 8) (N : F3) (b : F0) : (cP53 l).v N b = (se3 5).v ((se2 3).v ((se1 l).v b ((sl2 3).v ((sl3 5).v N))) ((sl3 5).v N)) N := by
  match l, hl with
  | 0, _ => rfl
  | 1, _ => rfl
  | 2, _ => rfl
  | 3, _ => rfl
  | 4, _ => rfl
  | 5, _ => rfl
  | 6, _ => rfl
  | 7, _ => rfl
theorem cP54_is (l : Nat) (hl : l < 8) (N : F3) (b : F0) : (cP54 l).v N b = (se3 5).v ((se2 4).v ((se1 l).v b ((sl2 4).v ((sl3 5).v N))) ((sl3 5).v N)) N := by
  match l, hl with
  | 0, _ => rfl
  | 1, _ => rfl
  | 2, _ => rfl
  | 3, _ => rfl
  | 4, _ => rfl
  | 5, _ => rfl
  | 6, _ => rfl
  | 7, _ => rfl
theorem cP55_is (l : Nat) (hl : l < 8) (N : F3) (b : F0) : (cP55 l).v N b = (se3 5).v ((se2 5).v ((se1 l).v b ((sl2 5).v ((sl3 5).v N))) ((sl3 5).v N)) N := by
  match l, hl with
  | 0, _ => rfl
  | 1, _ => rfl
  | 2, _ => rfl
  | 3, _ => rfl
  | 4, _ => rfl
  | 5, _ => rfl
  | 6, _ => rfl
  | 7, _ => rfl
theorem cP56_is (l : Nat) (hl : l < 8) (N : F3) (b : F0) : (cP56 l).v N b = (se3 5).v ((se2 6).v ((se1 l).v b ((sl2 6).v ((sl3 5).v N))) ((sl3 5).v N)) N := by
  match l, hl with
  | 0, _ => rfl
  | 1, _ => rfl
  | 2, _ => rfl
  | 3, _ => rfl
  | 4, _ => rfl
  | 5, _ => rfl
  | 6, _ => rfl
  | 7, _ => rfl
theorem cP57_is (l : Nat) (hl : l < 8) (N : F3) (b : F0) : (cP57 l).v N b = (se3 5).v ((se2 7).v ((se1 l).v b ((sl2 7).v ((sl3 5).v N))) ((sl3 5).v N)) N := by
  match l, hl with
  | 0, _ => rfl
  | 1, _ => rfl
  | 2, _ => rfl
  | 3, _ => rfl
  | 4, _ => rfl
  | 5, _ => rfl
  | 6, _ => rfl
  | 7, _ => rfl
theorem cP5_is (j l : Nat) (hj : j < 8) (hl : l < 8) (N : F3) (b : F0) : (cP5 j l).v N b = (se3 5).v ((se2 j).v ((se1 l).v b ((sl2 j).v ((sl3 5).v N))) ((sl3 5).v N)) N := by
  match j, hj with
  | 0, _ => exact cP50_is l hl N b
  | 1, _ => exact cP51_is l hl N b
  | 2, _ => exact cP52_is l hl N b
  | 3, _ => exact cP53_is l hl N b
  | 4, _ => exact cP54_is l hl N b
  | 5, _ => exact cP55_is l hl N b
  | 6, _ => exact cP56_is l hl N b
  | 7, _ => exact cP57_is l hl N b
theorem cP60_is (l : Nat) (hl : l < 8) (N : F3) (b : F0) : (cP60 l).v N b = (se3 6).v ((se2 0).v ((se1 l).v b ((sl2 0).v ((sl3 6).v N))) ((sl3 6).v N)) N := by
  match l, hl with
  | 0, _ => rfl
  | 1, _ => rfl
  | 2, _ => rfl
  | 3, _ => rfl
  | 4, _ => rfl
  | 5, _ => rfl
  | 6, _ => rfl
  | 7, _ => rfl
theorem cP61_is (l : Nat) (hl : l < 8) (N : F3) (b : F0) : (cP61 l).v N b = (se3 6).v ((se2 1).v ((se1 l).v b ((sl2 1).v ((sl3 6).v N))) ((sl3 6).v N)) N := by
  match l, hl with
  | 0, _ => rfl
  | 1, _ => rfl
  | 2, _ => rfl
  | 3, _ => rfl
  | 4, _ => rfl
  | 5, _ => rfl
  | 6, _ => rfl
  | 7, _ => rfl
theorem cP62_is (l : Nat) (hl : l < 8) (N : F3) (b : F0) : (cP62 l).v N b = (se3 6).v ((se2 2).v ((se1 l).v b ((sl2 2).v ((sl3 6).v N))) ((sl3 6).v N)) N := by
  match l, hl with
  | 0, _ => rfl
  | 1, _ => rfl
  | 2, _ => rfl
  | 3, _ => rfl
  | 4, _ => rfl
  | 5, _ => rfl
  | 6, _ => rfl
  | 7, _ => rfl
theorem cP63_is (l : Nat) (hl : l < 8) (N : F3) (b : F0) : (cP63 l).v N b = (se3 6).v ((se2 3).v ((se1 l).v b ((sl2 3).v ((sl3 6).v N))) ((sl3 6).v N)) N := by
  match l, hl with
  | 0, _ => rfl
  | 1, _ => rfl
  | 2, _ => rfl
  | 3, _ => rfl
  | 4, _ => rfl
  | 5, _ => rfl
  | 6, _ => rfl
  | 7, _ => rfl
theorem cP64_is (l : Nat) (hl : l < 8) (N : F3) (b : F0) : (cP64 l).v N b = (se3 6).v ((se2 4).v ((se1 l).v b ((sl2 4).v ((sl3 6).v N))) ((sl3 6).v N)) N := by
  match l, hl with
  | 0, _ => rfl
  | 1, _ => rfl
  | 2, _ => rfl
  | 3, _ => rfl
  | 4, _ => rfl
  | 5, _ => rfl
  | 6, _ => rfl
  | 7, _ => rfl
theorem cP65_is (l : Nat) (hl : l < 8) (N : F3) (b : F0) : (cP65 l).v N b = (se3 6).v ((se2 5).v ((se1 l).v b ((sl2 5).v ((sl3 6).v N))) ((sl3 6).v N)) N := by
  match l, hl with
  | 0, _ => rfl
  | 1, _ => rfl
  | 2, _ => rfl
  | 3, _ => rfl
  | 4, _ => rfl
  | 5, _ => rfl
  | 6, _ => rfl
  | 7, _ => rfl
theorem cP66_is (l : Nat) (hl : l < 8) (N : F3) (b : F0) : (cP66 l).v N b = (se3 6).v ((se2 6).v ((se1 l).v b ((sl2 6).v ((sl3 6).v N))) ((sl3 6).v N)) N := by
  match l, hl with
  | 0, _ => rfl
  | 1, _ => rfl
  | 2, _ => rfl
  | 3, _ => rfl
  | 4, _ => rfl
  | 5, _ => rfl
  | 6, _ => rfl
  | 7, _ => rfl
theorem cP67_is (l : Nat) (hl : l < 8) (N : F3) (b : F0) : (cP67 l).v N b = (se3 6).v ((se2 7).v ((se1 l).v b ((sl2 7).v ((sl3 6).v N))) ((sl3 6).v N)) N := by
  match l, hl with
  | 0, _ => rfl
  | 1, _ => rfl
  | 2, _ => rfl
  | 3, _ => rfl
  | 4, _ => rfl
  | 5, _ => rfl
  | 6, _ => rfl
  | 7, _ => rfl
theorem cP6_is (j l : Nat) (hj : j < 8) (hl : l < 8) (N : F3) (b : F0) : (cP6 j l).v N b = (se3 6).v ((se2 j).v ((se1 l).v b ((sl2 j).v ((sl3 6).v N))) ((sl3 6).v N)) N := by
  match j, hj with
  | 0, _ => exact cP60_is l hl N b
  | 1, _ => exact cP61_is l hl N b
  | 2, _ => exact cP62_is l hl N b
  | 3, _ => exact cP63_is l hl N b
  | 4, _ => exact cP64_is l hl N b
  | 5, _ => exact cP65_is l hl N b
  | 6, _ => exact cP66_is l hl N b
  | 7, _ => exact cP67_is l hl N b
theorem cP70_is (l : Nat) (hl : l < 8) (N : F3) (b : F0) : (cP70 l).v N b = (se3 7).v ((se2 0).v ((se1 l).v b ((sl2 0).v ((sl3 7).v N))) ((sl3 7).v N)) N := by
  match l, hl with
  | 0, _ => rfl
  | 1, _ => rfl
  | 2, _ => rfl
  | 3, _ => rfl
  | 4, _ => rfl
  | 5, _ => rfl
  | 6, _ => rfl
  | 7, _ => rfl
theorem cP71_is (l : Nat) (hl : l < 8) (N : F3) (b : F0) : (cP71 l).v N b = (se3 7).v ((se2 1).v ((se1 l).v b ((sl2 1).v ((sl3 7).v N))) ((sl3 7).v N)) N := by
  match l, hl with
  | 0, _ => rfl
  | 1, _ => rfl
  | 2, _ => rfl
  | 3, _ => rfl
  | 4, _ => rfl
  | 5, _ => rfl
  | 6, _ => rfl
  | 7, _ => rfl
theorem cP72_is (l : Nat) (hl : l < 8) (N : F3) (b : F0) : (cP72 l).v N b = (se3 7).v ((se2 2).v ((se1 l).v b ((sl2 2).v ((sl3 7).v N))) ((sl3 7).v N)) N := by
  match l, hl with
  | 0, _ => rfl
  | 1, _ => rfl
  | 2, _ => rfl
  | 3, _ => rfl
  | 4, _ => rfl
  | 5, _ => rfl
  | 6, _ => rfl
  | 7, _ => rfl
theorem cP73_is (l : Nat) (hl : l < 8) (N : F3) (b : F0) : (cP73 l).v N b = (se3 7).v ((se2 3).v ((se1 l).v b ((sl2 3).v ((sl3 7).v N))) ((sl3 7).v N)) N := by
  match l, hl with
  | 0, _ => rfl
  | 1, _ => rfl
  | 2, _ => rfl
  | 3, _ => rfl
  | 4, _ => rfl
  | 5, _ => rfl
  | 6, _ => rfl
  | 7, _ => rfl
theorem cP74_is (l : Nat) (hl : l < 8) (N : F3) (b : F0) : (cP74 l).v N b = (se3 7).v ((se2 4).v ((se1 l).v b ((sl2 4).v ((sl3 7).v N))) ((sl3 7).v N)) N := by
  match l, hl with
  | 0, _ => rfl
  | 1, _ => rfl
  | 2, _ => rfl
  | 3, _ => rfl
  | 4, _ => rfl
  | 5, _ => rfl
  | 6, _ => rfl
  | 7, _ => rfl
theorem cP75_is (l : Nat) (hl : l < 8) (N : F3) (b : F0) : (cP75 l).v N b = (se3 7).v ((se2 5).v ((se1 l).v b ((sl2 5).v ((sl3 7).v N))) ((sl3 7).v N)) N := by
  match l, hl with
  | 0, _ => rfl
  | 1, _ => rfl
  | 2, _ => rfl
  | 3, _ => rfl
  | 4, _ => rfl
  | 5, _ => rfl
  | 6, _ => rfl
  | 7, _ => rfl
theorem cP76_is (l : Nat) (hl : l < 8) (N : F3) (b : F0) : (cP76 l).v N b = (se3 7).v ((se2 6).v ((se1 l).v b ((sl2 6).v ((sl3 7).v N))) ((sl3 7).v N)) N := by
  match l, hl with
  | 0, _ => rfl
  | 1, _ => rfl
  | 2, _ => rfl
  | 3, _ => rfl
  | 4, _ => rfl
  | 5, _ => rfl
  | 6, _ => rfl
  | 7, _ => rfl
theorem cP77_is (l : Nat) (hl : l < 8) (N : F3) (b : F0) : (cP77 l).v N b = (se3 7).v ((se2 7).v ((se1 l).v b ((sl2 7).v ((sl3 7).v N))) ((sl3 7).v N)) N := by
  match l, hl with
  | 0, _ => rfl
  | 1, _ => rfl
  | 2, _ => rfl
  | 3, _ => rfl
  | 4, _ => rfl
  | 5, _ => rfl
  | 6, _ => rfl
  | 7, _ => rfl
theorem cP7_is (j l : Nat) (hj : j < 8) (hl : l < 8) (N : F3) (b : F0) : (cP7 j l).v N b = (se3 7).v ((se2 j).v ((se1 l).v b ((sl2 j).v ((sl3 7).v N))) ((sl3 7).v N)) N := by
  match j, hj with
  | 0, _ => exact cP70_is l hl N b
  | 1, _ => exact cP71_is l hl N b
  | 2, _ => exact cP72_is l hl N b
  | 3, _ => exact cP73_is l hl N b
  | 4, _ => exact cP74_is l hl N b
  | 5, _ => exact cP75_is l hl N b
  | 6, _ => exact cP76_is l hl N b
  | 7, _ => exact cP77_is l hl N b
theorem cP_is (i j l : Nat) (hi : i < 8) (hj : j < 8) (hl : l < 8) (N : F3) (b : F0) : (cP i j l).v N b = (se3 i).v ((se2 j).v ((se1 l).v b ((sl2 j).v ((sl3 i).v N))) ((sl3 i).v N)) N := by
  match i, hi with
  | 0, _ => exact cP0_is j l hj hl N b
  | 1, _ => exact cP1_is j l hj hl N b
  | 2, _ => exact cP2_is j l hj hl N b
  | 3, _ => exact cP3_is j l hj hl N b
  | 4, _ => exact cP4_is j l hj hl N b
  | 5, _ => exact cP5_is j l hj hl N b
  | 6, _ => exact cP6_is j l hj hl N b
  | 7, _ => exact cP7_is j l hj hl N b
theorem cGet_lt {k : Nat} (h : k < 512) (N : F3) : (cGet k).v N = (sl1 (k % 8)).v ((sl2 (k / 8 % 8)).v ((sl3 (k / 64)).v N)) := by
  unfold cGet
  have e : Nat.blt k 512 = true := Nat.ble_eq_true_of_le h
  rw [e]
  exact cG_is _ _ _ (show k / 64 < 8 by omega) (show k / 8 % 8 < 8 by omega) (show k % 8 < 8 by omega) N
theorem cGet_ge {k : Nat} (h : ¬ k < 512) (N : F3) : (cGet k).v N = w0 := by
  unfold cGet
  have e : Nat.blt k 512 = false := by
    cases e : Nat.blt k 512 with
    | false => rfl
    | true => exact absurd (Nat.le_of_ble_eq_true e) h
  rw [e]
  rfl
theorem cGet_cPut {k : Nat} (hk : k < 512) (j : Nat) (N : F3) (b : F0) : (cGet j).v ((cPut k).v N b) = if j = k then b else (cGet j).v N := by
  by_cases hj : j < 512
  · rw [cGet_lt hj, cGet_lt hj]
    rw [show (cPut k).v N b = _ from cP_is (k / 64) (k / 8 % 8) (k % 8) (by omega) (by omega) (by omega) N b]
    rw [sese3 _ _ (by omega) (by omega)]
    by_cases h1 : j / 64 = k / 64
    · rw [if_pos h1, sese2 _ _ (by omega) (by omega)]
      by_cases h2 : j / 8 % 8 = k / 8 % 8
      · rw [if_pos h2, sese1 _ _ (by omega) (by omega)]
        by_cases h3 : j % 8 = k % 8
        · rw [if_pos h3, if_pos (by omega)]
        · rw [if_neg h3, if_neg (by omega), h1, h2]
      · rw [if_neg h2, if_neg (by omega), h1]
    · rw [if_neg h1, if_neg (by omega)]
  · rw [cGet_ge hj, cGet_ge hj, if_neg (by omega)]
def EnvR (N : F3) (A : T Value) : Prop := ∀ k, ((cGet k).v N).v = tg A k
theorem EnvR.put {N : F3} {A : T Value} (h : EnvR N A) {k : Nat} (hk : k < 512) (v : Value) : EnvR ((cPut k).v N ⟨v⟩) (A.put (some v) k) := fun j => by
  rw [cGet_cPut hk]
  unfold tg
  rw [get_put]
  by_cases e : j = k
  · rw [if_pos e, if_pos e]; rfl
  · rw [if_neg e, if_neg e]; exact h j
def dstOk (d : Option Tmp) : Prop := ∀ k, d = some k → k < 512
theorem EnvR.dst {N : F3} {A : T Value} (h : EnvR N A) {d : Option Tmp} (hd : dstOk d) (v : Value) : EnvR ((cDst d).v N ⟨v⟩) (putA A d v) := by
  cases d with
  | none => exact h
  | some k => exact h.put (hd k rfl) v
theorem sel_w (k : Nat) : (cGet k).v w3 = w0 := by
  by_cases h : k < 512
  · rw [cGet_lt h]
    have e3 : ∀ i, (sl3 i).v w3 = w2 := fun i => by unfold sl3; split <;> rfl
    have e2 : ∀ i, (sl2 i).v w2 = w1 := fun i => by unfold sl2; split <;> rfl
    have e1 : ∀ i, (sl1 i).v w1 = w0 := fun i => by unfold sl1; split <;> rfl
    rw [e3, e2, e1]
  · exact cGet_ge h _
theorem envR_empty : EnvR w3 .lf := fun k => by rw [sel_w]; rfl

/-! ## operands -/
section
variable {N : F3} {A : T Value}
theorem cVal_eq (h : EnvR N A) (x : Operand) : (cVal x).v N = ev A x := by
  cases x with
  | tmp t => exact h t
  | _ => rfl
theorem cF0_eq (h : EnvR N A) (x : Operand) : (cF0 x).v N = ⟨ev A x⟩ := by
  cases x with
  | tmp t =>
    show (cGet t).v N = ⟨tg A t⟩
    rw [← h t]
  | _ => rfl
theorem cVals_eq (h : EnvR N A) : ∀ l : List Operand, (cVals l).v N = l.map (ev A)
  | [] => rfl
  | x :: r => by
    show (cVal x).v N :: (cVals r).v N = _
    rw [cVal_eq h, cVals_eq h r]
    rfl
theorem cParts_eq (h : EnvR N A) : ∀ l : List (Nat × Operand), (cParts l).v N = l.map fun p => (p.1, ev A p.2)
  | [] => rfl
  | p :: r => by
    show (p.1, (cVal p.2).v N) :: (cParts r).v N = _
    rw [cVal_eq h, cParts_eq h r]
    rfl
theorem cOpt_eq (h : EnvR N A) (x : Option Operand) : (cOpt x).v N = x.map (ev A) := by
  cases x with
  | none => rfl
  | some x => show some ((cVal x).v N) = _; rw [cVal_eq h]; rfl

/-! ## what an operation gives -/
theorem callPureV_eq (c : Call) : callPureV P c.callee c.argTypes.toList (c.args.toList.map (ev A)) = callPure P c A := by
  unfold callPureV callPure
  split <;> split <;> simp_all
theorem cPure_eq (h : EnvR N A) (o : Op) : (cPure P o).v N = evPure o P A := by
  cases o with
  | move x => show some ((cVal x).v N) = _; rw [cVal_eq h]; rfl
  | assign x => show some ((cVal x).v N) = _; rw [cVal_eq h]; rfl
  | pick c a b => show ob (asB ((cVal c).v N)) (fun t => bsel t (some ((cVal b).v N)) (some ((cVal a).v N))) = _; rw [cVal_eq h, cVal_eq h, cVal_eq h]; rfl
  | build t ps => show buildV P t ((cParts ps.toList).v N) = _; rw [cParts_eq h]; rfl
  | nilCheck x => show nilChk P ((cVal x).v N) = _; rw [cVal_eq h]; rfl
  | binOp op t x y q => show binA (isConst x || isConst y) P op t ((cVal x).v N) ((cVal y).v N) = _; rw [cVal_eq h, cVal_eq h]; rfl
  | makeInterface t x => show mkIface P t ((cVal x).v N) = _; rw [cVal_eq h]; rfl
  | unOp op t x => show unV op ((cVal x).v N) = _; rw [cVal_eq h]; rfl
  | convert s d x => show convPure P s d ((cVal x).v N) = _; rw [cVal_eq h]; rfl
  | makeFunc fn f c => show makeFuncV fn ((cVals f.toList).v N) ((cVals c.toList).v N) = _; rw [cVals_eq h, cVals_eq h]; rfl
  | slice t x lo hi mx => show sliceS P t ((cVal x).v N) ((cOpt lo).v N) ((cOpt hi).v N) ((cOpt mx).v N) = _; rw [cVal_eq h, cOpt_eq h, cOpt_eq h, cOpt_eq h]; rfl
  | fieldAddr t x f => show fieldAddrV P t f ((cVal x).v N) = _; rw [cVal_eq h]; rfl
  | field t x f => show fieldV P t f ((cVal x).v N) = _; rw [cVal_eq h]; rfl
  | indexAddr t x i => show indexAddrV P t ((cVal x).v N) ((cVal i).v N) = _; rw [cVal_eq h, cVal_eq h]; rfl
  | index t x i => show indexV P t ((cVal x).v N) ((cVal i).v N) = _; rw [cVal_eq h, cVal_eq h]; rfl
  | extract t i => show extractV i ((cVal t).v N) = _; rw [cVal_eq h]; rfl
  | call c => show callPureV P c.callee c.argTypes.toList ((cVals c.args.toList).v N) = _; rw [cVals_eq h, callPureV_eq]; rfl
  | _ => rfl
theorem cNew_eq (h : EnvR N A) (o : Op) : (cNew P o).v N = evNew o P A := by
  cases o with
  | box t x => show boxV ((cVal x).v N) = _; rw [cVal_eq h]; rfl
  | buildSlice t len ps => show buildSliceV P t len ((cParts ps.toList).v N) = _; rw [cParts_eq h]; rfl
  | makeMap t r =>
    show makeMapO P t ((cOpt r).v N) = makeMapV P A t r
    rw [cOpt_eq h]
    cases r <;> rfl
  | makeSlice t l c => show makeSliceV P t ((cVal l).v N) ((cVal c).v N) = _; rw [cVal_eq h, cVal_eq h]; rfl
  | _ => rfl
theorem cRead_eq (h : EnvR N A) (o : Op) (st : St) : (cRead P o).v N st = evRead o P A st := by
  cases o with
  | load t a => show ob (asP ((cVal a).v N)) (loadV P st t) = _; rw [cVal_eq h]; rfl
  | convert s d x => show toStr P st s d ((cVal x).v N) = _; rw [cVal_eq h]; rfl
  | slice t x lo hi mx => show sliceV P st t ((cVal x).v N) ((cOpt lo).v N) ((cOpt hi).v N) ((cOpt mx).v N) = _; rw [cVal_eq h, cOpt_eq h, cOpt_eq h, cOpt_eq h]; rfl
  | lookup t x k ok => show lookupV P st t ((cVal x).v N) ((cVal k).v N) ok = _; rw [cVal_eq h, cVal_eq h]; rfl
  | entry it => show entryV st ((cVal it).v N) = _; rw [cVal_eq h]; rfl
  | call c => show lenMap P st c.argTypes.toList ((cVals c.args.toList).v N) = _; rw [cVals_eq h]; rfl
  | _ => rfl
theorem cCall_eq (h : EnvR N A) (c : Call) (E : Env) (st : St) : (cCall P c).v E N st = callGen P c E A st := by
  obtain ⟨ce, args, ts⟩ := c
  have hs := cVals_eq h args.toList
  cases ce with
  | value f => show E.call ((cVal f).v N) ((cVals args.toList).v N) st = _; rw [hs, cVal_eq h]; rfl
  | invoke r m => show E.call (.func (.method m) #[] #[]) ((cVal r).v N :: (cVals args.toList).v N) st = _; rw [hs, cVal_eq h]; rfl
  | builtin b =>
    cases b with
    | append => show appendV P st ts.toList ((cVals args.toList).v N) = _; rw [hs]; rfl
    | copy => show copyV P st ts.toList ((cVals args.toList).v N) = _; rw [hs]; rfl
    | delete => show delV P st ts.toList ((cVals args.toList).v N) = _; rw [hs]; rfl
    | _ => rfl
theorem cGen_eq (h : EnvR N A) (o : Op) (E : Env) (st : St) : (cGen P o).v E N st = evGen o P E A st := by
  cases o with
  | insert t m k x => show retU (updV P st t ((cVal m).v N) ((cVal k).v N) ((cVal x).v N)) = _; rw [cVal_eq h, cVal_eq h, cVal_eq h]; rfl
  | mapUpdate t m k x => show retU (updV P st t ((cVal m).v N) ((cVal k).v N) ((cVal x).v N)) = _; rw [cVal_eq h, cVal_eq h, cVal_eq h]; rfl
  | store t a x => show ob (asP ((cVal a).v N)) (storeAtV P t st ((cVal x).v N)) = _; rw [cVal_eq h, cVal_eq h]; rfl
  | convert s d x => show toBytes P st s d ((cVal x).v N) = _; rw [cVal_eq h]; rfl
  | range t x => show rangeV P st t ((cVal x).v N) = _; rw [cVal_eq h]; rfl
  | next it s => show nextV st ((cVal it).v N) s = _; rw [cVal_eq h]; rfl
  | call c => exact cCall_eq h c E st
  | _ => rfl
end
end Go.Ev
