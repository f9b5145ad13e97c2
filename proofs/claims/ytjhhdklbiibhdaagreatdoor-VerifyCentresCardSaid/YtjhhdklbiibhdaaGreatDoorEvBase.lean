/-
  A part of the proof that the evaluator answers what the model answers, for every program that follows mixed orders; no other condition.
-/
import Derived.Test.YtjhhdklbiibhdaaGreatDoorEvDefs
namespace Go.Ev
theorem ob_some {α β : Type} {x : Option α} {k : α → Option β} {r : β} (h : ob x k = some r) : ∃ a, x = some a ∧ k a = some r := by
  cases x with
  | none => cases h
  | some a => exact ⟨a, rfl, h⟩
theorem gd_some {β : Type} {b : Bool} {k : Option β} {r : β} (h : gd b k = some r) : b = true ∧ k = some r := by
  cases b with
  | false => cases h
  | true => exact ⟨rfl, h⟩
@[simp] theorem bsel_true {β : Type} (f t : β) : bsel true f t = t := rfl
@[simp] theorem bsel_false {β : Type} (f t : β) : bsel false f t = f := rfl

/-! the trie -/
theorem get_lf {α : Type} (k : Nat) : (T.lf : T α).get k = none := rfl
theorem get_nd0 {α : Type} (l r : T α) (v : Option α) : (T.nd l v r).get 0 = v := rfl
theorem get_ndS {α : Type} (l r : T α) (v : Option α) (k : Nat) : (T.nd l v r).get (k + 1) = if k % 2 = 0 then l.get (k / 2) else r.get (k / 2) := by
  show getK l.get r.get k = _
  unfold getK
  show Nat.rec (motive := fun _ => Option α) (l.get (k / 2)) (fun _ _ => r.get (k / 2)) (k % 2) = _
  rcases Nat.mod_two_eq_zero_or_one k with h | h <;> rw [h] <;> rfl
theorem putF_nd0 {α : Type} (x : Option α) (f : Nat) (l r : T α) (v : Option α) : T.putF x (f + 1) 0 (.nd l v r) = .nd l x r := rfl
theorem putF_lf0 {α : Type} (x : Option α) (f : Nat) : T.putF x (f + 1) 0 (.lf : T α) = .nd .lf x .lf := rfl
theorem putL_eq {α : Type} (ih : Nat → T α → T α) (l : T α) (v : Option α) (r : T α) (k : Nat) :
    putL ih l v r k = if k % 2 = 0 then .nd (ih (k / 2) l) v r else .nd l v (ih (k / 2) r) := by
  unfold putL
  show Nat.rec (motive := fun _ => T α) (T.nd (ih (k / 2) l) v r) (fun _ _ => T.nd l v (ih (k / 2) r)) (k % 2) = _
  rcases Nat.mod_two_eq_zero_or_one k with h | h <;> rw [h] <;> rfl
theorem putF_ndS {α : Type} (x : Option α) (f k : Nat) (l r : T α) (v : Option α) :
    T.putF x (f + 1) (k + 1) (.nd l v r) = if k % 2 = 0 then .nd (T.putF x f (k / 2) l) v r else .nd l v (T.putF x f (k / 2) r) := putL_eq _ _ _ _ _
theorem putF_lfS {α : Type} (x : Option α) (f k : Nat) :
    T.putF x (f + 1) (k + 1) (.lf : T α) = if k % 2 = 0 then .nd (T.putF x f (k / 2) .lf) none .lf else .nd .lf none (T.putF x f (k / 2) .lf) := putL_eq _ _ _ _ _

theorem get_putF {α : Type} (x : Option α) : ∀ (f k : Nat) (t : T α) (j : Nat), k < f → (T.putF x f k t).get j = if j = k then x else t.get j := by
  intro f
  induction f with
  | zero => intro k t j h; omega
  | succ f ih =>
    intro k t j hk
    cases k with
    | zero =>
      cases t with
      | lf => rw [putF_lf0]; cases j with
        | zero => simp [get_nd0]
        | succ j => rw [get_ndS]; simp [get_lf]
      | nd l v r => rw [putF_nd0]; cases j with
        | zero => simp [get_nd0]
        | succ j => rw [get_ndS, get_ndS]; simp
    | succ k =>
      have hk2 : k / 2 < f := by omega
      cases t with
      | lf =>
        rw [putF_lfS]
        split <;> rename_i hp <;> cases j with
        | zero => simp [get_nd0, get_lf]
        | succ j =>
          rw [get_ndS]
          simp only [ih _ _ _ hk2, get_lf]
          split <;> split <;> first | rfl | (split <;> first | rfl | (exfalso; omega)) | (simp; omega) | (exfalso; omega) | simp_all
      | nd l v r =>
        rw [putF_ndS]
        split <;> rename_i hp <;> cases j with
        | zero => simp [get_nd0]
        | succ j =>
          rw [get_ndS, get_ndS]
          simp only [ih _ _ _ hk2]
          split <;> split <;> first | rfl | (split <;> first | rfl | (exfalso; omega)) | (simp; omega) | (exfalso; omega) | simp_all
theorem get_put {α : Type} (x : Option α) (k : Nat) (t : T α) (j : Nat) : (t.put x k).get j = if j = k then x else t.get j :=
  get_putF x (Nat.succ k) k t j (Nat.lt_succ_self k)
end Go.Ev
