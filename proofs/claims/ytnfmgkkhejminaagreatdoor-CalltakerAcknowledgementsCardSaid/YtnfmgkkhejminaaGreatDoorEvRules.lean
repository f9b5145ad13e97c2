/-
  A part of the proof that the evaluator answers what the model answers, for every program that follows mixed orders; no other condition.
-/
import Derived.Test.YtnfmgkkhejminaaGreatDoorEvCall
namespace Go.Ev
/-! ## what the rules of unknown numbers ask -/
theorem kind_self (k : IntKind) : kindEq k k = true := by simp [kindEq]
theorem h_add (k : IntKind) (a b : Int) : scalB .add (.int k a) (.int k b) = some (.int k (k.wrap (a + b))) := by
  show gd (kindEq k k) (some (Value.int k (wrapF k (Int.add a b)))) = _
  rw [kind_self, wrapF_eq]
  rfl
theorem h_add_comm (k : IntKind) (a b : Int) : scalB .add (.int k a) (.int k b) = some (.int k (k.wrap (b + a))) := by rw [h_add, Int.add_comm]
theorem h_add_zero (a : Int) (h : (Lit.int .i64 a).wf = true) : scalB .add (.int .i64 a) (.int .i64 0) = some (.int .i64 a) := by
  rw [h_add]
  have e : IntKind.i64.wrap (a + 0) = a := by
    simp [Lit.wf, IntKind.min, IntKind.max, IntKind.signed, IntKind.bits] at h
    simp [IntKind.wrap, IntKind.bits, IntKind.signed]
    omega
  rw [e]
theorem h_neq_self (k : IntKind) (a : Int) : scalB .neq (.int k a) (.int k a) = some (.bool false) := by
  show gd (kindEq k k) (some (Value.bool !(eqI a a))) = _
  rw [kind_self, eqI_eq]
  simp [gd]
theorem h_lss (k : IntKind) (a b : Int) (q : Bool) (h : decide (a < b) = q) : scalB .lss (.int k a) (.int k b) = some (.bool q) := by
  show gd (kindEq k k) (some (Value.bool (ltI a b))) = _
  rw [kind_self, ltI_eq, h]
  rfl
theorem h_geq (k : IntKind) (a b : Int) (q : Bool) (h : (!decide (a < b)) = q) : scalB .geq (.int k a) (.int k b) = some (.bool q) := by
  show gd (kindEq k k) (some (Value.bool !(ltI a b))) = _
  rw [kind_self, ltI_eq, h]
  rfl
theorem h_gtr (k : IntKind) (a b : Int) (q : Bool) (h : decide (b < a) = q) : scalB .gtr (.int k a) (.int k b) = some (.bool q) := by
  show gd (kindEq k k) (some (Value.bool (ltI b a))) = _
  rw [kind_self, ltI_eq, h]
  rfl
theorem h_eqi (a : Int) : Value.bool true = .bool (eqI a a) := by rw [eqI_eq]; simp
theorem h_max (k : IntKind) (a b c : Int) (h : (if a < b then b else a) = c) : max2 (.int k a) (.int k b) = some (.int k c) := by
  show some (Value.int k (if ltI a b = true then b else a)) = _
  rw [ltI_eq, ← h]
  simp
theorem h_max_comm (k : IntKind) (a b : Int) : max2 (.int k a) (.int k b) = some (.int k (if b < a then a else b)) :=
  h_max k a b _ (by split <;> split <;> omega)

end Go.Ev
