/-
  A part of the proof that the evaluator answers what the model answers, for every program that follows mixed orders; no other condition.
-/
import Derived.Test.YtnfmgkkhejminaaGreatDoorStEvBin
import Derived.Laws.Tables
import Derived.Great.BuildSlice
namespace Go.Ev
set_option linter.unusedSectionVars false
variable [OTab] [OVal]
variable {P : Program}

theorem asI_some {v : Value} {n : Int} (h : asI v = some n) : ∃ k, v = .int k n := by
  cases v with
  | int k q => cases h; exact ⟨k, rfl⟩
  | _ => cases h
theorem asB_some {v : Value} {b : Bool} (h : asB v = some b) : v = .bool b := by
  cases v with
  | bool q => cases h; rfl
  | _ => cases h
theorem asA_some {v : Value} {l : List Value} (h : asA v = some l) : v = .agg ⟨l⟩ := by
  cases v with
  | agg a => obtain ⟨a⟩ := a; simp [asA] at h; subst h; rfl
  | _ => cases h
theorem asT_some {v : Value} {l : List Value} (h : asT v = some l) : v = .tuple ⟨l⟩ := by
  cases v with
  | tuple a => obtain ⟨a⟩ := a; simp [asT] at h; subst h; rfl
  | _ => cases h
theorem cellsL_eq (v : Value) : cellsL v = v.cells.toList := by cases v <;> rfl

theorem eqGuard_other {op : BinOp} {t : TypeId} {x y : Operand} {a b : Value} (h1 : ¬ (a = .nilIface ∧ b = .nilIface)) (h2 : ¬ ((∃ u, a = .agg u) ∧ ∃ u, b = .agg u)) (w : World) :
    (eqGuard op t x y a b).run P w = .ok () w := by
  have key : (match a, b with
      | .nilIface, .nilIface => (do if (x matches .const _) || (y matches .const _) then return
                                    if ← Op.eqGuardIn Op.maxDepth t a b then unsupported (.noEntry "binop/eql: two nil values of an interface type with methods, neither of them the literal nil") : Sem Unit)
      | .agg _, .agg _ => (do if !(← program).eqGuardType (← program).depth t then return
                              if ← Op.eqGuardIn Op.maxDepth t a b then unsupported (.noEntry "binop/eql: two nil values of an interface type with methods, in a part of a struct or an array") : Sem Unit)
      | _, _ => (pure () : Sem Unit)).run P w = .ok () w := by
    split
    · exact absurd ⟨rfl, rfl⟩ h1
    · exact absurd ⟨⟨_, rfl⟩, ⟨_, rfl⟩⟩ h2
    · simp
  cases op <;> first | exact key | simp [eqGuard]

theorem intBin_sound {op : BinOp} {k : IntKind} {a b : Int} {v : Value} {t : TypeId} (h : intBin op k a b = some v) (w : World) :
    (binOp op t (.int k a) (.int k b)).run P w = .ok v w ∧ ∀ m, conc m v = some v := by
  have hi : ∀ n, ∀ m, conc m (.int k n) = some (.int k n) := fun n m => conc_int m k n
  have hb : ∀ n, ∀ m, conc m (.bool n) = some (.bool n) := fun n m => conc_bool m n
  cases op <;> simp only [intBin] at h <;> first | contradiction | skip
  case add => cases h; exact ⟨by rw [wrapF_eq]; simp [binOp, Op.intArith], hi _⟩
  case sub => cases h; exact ⟨by rw [wrapF_eq]; simp [binOp, Op.intArith]; rfl, hi _⟩
  case mul => cases h; exact ⟨by rw [wrapF_eq]; simp [binOp, Op.intArith], hi _⟩
  case quo =>
    split at h
    · cases h
    · rename_i hz
      cases h
      rw [eqI_eq] at hz
      have hb' : b ≠ 0 := by simpa using hz
      exact ⟨by simp [binOp, Op.intDiv, hb', wrapF_eq], hi _⟩
  case rem =>
    split at h
    · cases h
    · rename_i hz
      cases h
      rw [eqI_eq] at hz
      have hb' : b ≠ 0 := by simpa using hz
      exact ⟨by simp [binOp, Op.intDiv, hb'], hi _⟩
  case and => cases h; exact ⟨by simp [binOp, Op.intBits], hi _⟩
  case or => cases h; exact ⟨by simp [binOp, Op.intBits], hi _⟩
  case xor => cases h; exact ⟨by simp [binOp, Op.intBits], hi _⟩
  case andNot => cases h; exact ⟨by simp [binOp, Op.intBits], hi _⟩
  case eql => cases h; exact ⟨by simp [binOp, Op.intCmp, eqI_eq], hb _⟩
  case neq => cases h; exact ⟨by simp [binOp, Op.intCmp, eqI_eq, bne], hb _⟩
  case lss => cases h; exact ⟨by simp [binOp, Op.intCmp, ltI_eq], hb _⟩
  case leq => cases h; exact ⟨by simp [binOp, Op.intCmp, ltI_eq, ← decide_not, Int.not_lt], hb _⟩
  case gtr => cases h; exact ⟨by simp [binOp, Op.intCmp, ltI_eq], hb _⟩
  case geq => cases h; exact ⟨by simp [binOp, Op.intCmp, ltI_eq, ← decide_not, Int.not_lt], hb _⟩

theorem shiftBin_sound {op : BinOp} {k k' : IntKind} {a b : Int} {v : Value} {t : TypeId} (ho : op = .shl ∨ op = .shr) (h : shiftBin op k a b = some v) (w : World) :
    (binOp op t (.int k a) (.int k' b)).run P w = .ok v w ∧ ∀ m, conc m v = some v := by
  unfold shiftBin at h
  split at h
  · cases h
  · rename_i hb
    rw [ltI_eq] at hb
    have hb' : ¬ b < 0 := by simpa using hb
    rcases ho with rfl | rfl <;> cases h <;> exact ⟨by simp [binOp, Op.shift, hb'], fun m => conc_int m _ _⟩

theorem strBin_sound {op : BinOp} {a b : ByteArray} {v : Value} {t : TypeId} (h : strBin op a b = some v) (w : World) :
    (binOp op t (.string a) (.string b)).run P w = .ok v w ∧ ∀ m, conc m v = some v := by
  have hd : ∀ x : ByteArray, x.toList = x.data.toList := ByteArray.toList_eq
  cases op <;> simp only [strBin] at h <;> first | contradiction | skip
  case add =>
    split at h
    · rename_i hs
      cases h
      refine ⟨?_, fun m => conc_string m _⟩
      have hmax : IntKind.i64.max = 9223372036854775807 := by decide
      have : ¬ (((a.size + b.size : Nat) : Int) > IntKind.i64.max) := by rw [hmax]; omega
      simp only [binOp, Op.stringOp]
      rw [if_neg this]
      have e : a ++ b = ⟨⟨a.data.toList ++ b.data.toList⟩⟩ := by
        have h1 : (a ++ b).data = a.data ++ b.data := ByteArray.data_append
        have h2 : a.data ++ b.data = ⟨a.data.toList ++ b.data.toList⟩ := by
          apply Array.ext'
          simp
        have : a ++ b = ⟨(a ++ b).data⟩ := rfl
        rw [this, h1, h2]
      rw [e]; simp
    · cases h
  all_goals (cases h; exact ⟨by simp [binOp, Op.stringOp, hd], fun m => conc_bool m _⟩)

theorem conc_func_shape {m : Map} {fn : Fn} {a c : Array Value} {v : Value} (h : conc m (.func fn a c) = some v) : ∃ fn' a' c', v = .func fn' a' c' := by
  obtain ⟨a⟩ := a
  obtain ⟨c⟩ := c
  cases fn with
  | func f => simp only [conc] at h; split at h <;> cases h; exact ⟨_, _, _, rfl⟩
  | method f => simp only [conc] at h; split at h <;> cases h; exact ⟨_, _, _, rfl⟩
  | yield l =>
    match a, c, h with
    | [], [], h => simp only [conc, Option.map_eq_some_iff] at h; obtain ⟨z, _, rfl⟩ := h; exact ⟨_, _, _, rfl⟩
    | _ :: _, _, h => simp [conc] at h
    | [], _ :: _, h => simp [conc] at h
  | _ => simp [conc] at h
theorem conc_ptr_shape {m : Map} {a : Option Addr} {v : Value} (h : conc m (.pointer a) = some v) : ∃ a', v = .pointer a' := by
  cases a with
  | none => exact ⟨none, by simpa [conc] using h.symm⟩
  | some a => obtain ⟨_, _, _, rfl⟩ := conc_pointer h; exact ⟨_, rfl⟩

theorem scalB_sound {op : BinOp} {t : TypeId} {x y cv : Value} (h : scalB op x y = some cv) :
    (∀ w, (binOp op t x y).run P w = .ok cv w) ∧ ¬ (x = .nilIface ∧ y = .nilIface) ∧ ¬ ((∃ u, x = .agg u) ∧ ∃ u, y = .agg u) := by
  unfold scalB at h
  split at h
  · refine ⟨fun w => ?_, by simp, by simp⟩
    unfold binII at h
    split at h
    · exact (shiftBin_sound (.inl rfl) h w).1
    · exact (shiftBin_sound (.inr rfl) h w).1
    · obtain ⟨hk, h'⟩ := gd_some h
      have hk' : _ = _ := of_decide_eq_true hk
      subst hk'
      exact (intBin_sound h' w).1
  · exact ⟨fun w => (strBin_sound h w).1, by simp, by simp⟩
  · cases h

theorem sound_binOp {m : Map} {ρ : Operand → Value} {o : Oper} {op : BinOp} {t t2 : TypeId} {x y : Operand} {u z v : Value} (ho : o.op = .binOp op t x y t2)
    (hx : conc m u = some (ρ x)) (hy : conc m z = some (ρ y)) (h : binV P op t u z = some v) : PureDoes P m ρ o v := by
  have key : ∀ cv, conc m v = some cv → (∀ w, (eqGuard op t x y (ρ x) (ρ y)).run P w = .ok () w) → (∀ w, (binOp op t (ρ x) (ρ y)).run P w = .ok cv w) → PureDoes P m ρ o v := fun cv h1 h2 h3 =>
    ⟨cv, h1, fun w => by simp [execOp, ho, h2, h3]⟩
  have eqo : ∀ d, d ≤ 20 → eqOnly P d op t u z = some v → (∀ w, (eqGuard op t x y (ρ x) (ρ y)).run P w = .ok () w) →
      (∀ w, (binOp .eql t (ρ x) (ρ y)).run P w = ((Op.equal t (ρ x) (ρ y)).run P w).andThen fun r w' => .ok (.bool r) w') →
      (∀ w, (binOp .neq t (ρ x) (ρ y)).run P w = ((Op.equal t (ρ x) (ρ y)).run P w).andThen fun r w' => .ok (.bool !r) w') → PureDoes P m ρ o v := by
    intro d hd h hg he hn
    unfold eqOnly at h
    split at h
    · obtain ⟨b, hb, h⟩ := ob_some h
      cases h
      have hrun := fun w => eqV_sound (m := m) d t _ _ _ _ b hb hx hy Op.maxDepth w (by unfold Op.maxDepth; omega)
      exact key (.bool b) (conc_bool m b) hg (fun w => by rw [he]; unfold Op.equal; rw [hrun]; rfl)
    · obtain ⟨b, hb, h⟩ := ob_some h
      cases h
      have hrun := fun w => eqV_sound (m := m) d t _ _ _ _ b hb hx hy Op.maxDepth w (by unfold Op.maxDepth; omega)
      exact key (.bool !b) (conc_bool m _) hg (fun w => by rw [hn]; unfold Op.equal; rw [hrun]; rfl)
    · cases h
  have fin : ∀ a c : Value, ρ x = a → ρ y = c → eqOnly P 1 op t u z = some v → ¬ (a = .nilIface ∧ c = .nilIface) → ¬ ((∃ u, a = .agg u) ∧ ∃ u, c = .agg u) →
      (∀ w, (binOp .eql t a c).run P w = ((Op.equal t a c).run P w).andThen fun r w' => .ok (.bool r) w') → (∀ w, (binOp .neq t a c).run P w = ((Op.equal t a c).run P w).andThen fun r w' => .ok (.bool !r) w') → PureDoes P m ρ o v := by
    intro a c ea ec h g1 g2 g3 g4
    exact eqo 1 (by omega) h (fun w => by rw [ea, ec]; exact eqGuard_other g1 g2 w) (by rw [ea, ec]; exact g3) (by rw [ea, ec]; exact g4)
  have hsym : symV (.bin op) u z = some v → PureDoes P m ρ o v := by
    intro h
    obtain ⟨p1, p2, p3, hh⟩ := symV_holds h
    have hh : scalB op (con OVal.val u) (con OVal.val z) = some (con OVal.val v) := hh
    rw [conc_plain m p1] at hx
    rw [conc_plain m p2] at hy
    have e1 := (Option.some.inj hx).symm
    have e2 := (Option.some.inj hy).symm
    obtain ⟨g1, g2, g3⟩ := scalB_sound (P := P) (t := t) hh
    exact key _ (conc_plain m p3) (fun w => by rw [e1, e2]; exact eqGuard_other g2 g3 w) (fun w => by rw [e1, e2]; exact g1 w)
  have hrest : binRest P op t u z = some v → PureDoes P m ρ o v := by
    intro h
    unfold binRest at h
    split at h
    · rw [conc_string] at hx hy
      have e1 := (Option.some.inj hx).symm
      have e2 := (Option.some.inj hy).symm
      refine key v ((strBin_sound (P := P) (t := t) h default).2 m) (fun w => ?_) (fun w => ?_)
      · rw [e1, e2]; exact eqGuard_other (by simp) (by simp) w
      · rw [e1, e2]; exact (strBin_sound h w).1
    · exact hsym h
    · obtain ⟨hg, h⟩ := gd_some h
      obtain ⟨xs', hx', e1⟩ := conc_agg hx
      obtain ⟨ys', hy', e2⟩ := conc_agg hy
      refine eqo 20 (by omega) h (fun w => by rw [e1, e2]; exact run_eqGuard_agg w op t x y _ _ (by simpa using hg)) (fun w => ?_) (fun w => ?_)
      · rw [e1, e2]; simp [binOp]
      · rw [e1, e2]; simp [binOp]
    · obtain ⟨_, ex⟩ := conc_ptr_shape hx
      obtain ⟨_, ey⟩ := conc_ptr_shape hy
      exact fin _ _ ex ey h (by simp) (by simp) (fun w => by simp [binOp]) (fun w => by simp [binOp])
    · rw [conc_bool] at hx hy
      exact fin _ _ (Option.some.inj hx).symm (Option.some.inj hy).symm h (by simp) (by simp) (fun w => by simp [binOp]) (fun w => by simp [binOp])
    · obtain ⟨_, _, _, ex⟩ := conc_slice_shape hx
      obtain ⟨_, _, _, ey⟩ := conc_slice_shape hy
      exact fin _ _ ex ey h (by simp) (by simp) (fun w => by simp [binOp]) (fun w => by simp [binOp])
    · obtain ⟨_, ex⟩ := conc_map_shape hx
      obtain ⟨_, ey⟩ := conc_map_shape hy
      exact fin _ _ ex ey h (by simp) (by simp) (fun w => by simp [binOp]) (fun w => by simp [binOp])
    · have ex : ρ x = .nilFunc := by simpa [conc] using hx.symm
      have ey : ρ y = .nilFunc := by simpa [conc] using hy.symm
      exact fin _ _ ex ey h (by simp) (by simp) (fun w => by simp [binOp]) (fun w => by simp [binOp])
    · have ex : ρ x = .nilFunc := by simpa [conc] using hx.symm
      obtain ⟨_, _, _, ey⟩ := conc_func_shape hy
      exact fin _ _ ex ey h (by simp) (by simp) (fun w => by simp [binOp]) (fun w => by simp [binOp])
    · have ey : ρ y = .nilFunc := by simpa [conc] using hy.symm
      obtain ⟨_, _, _, ex⟩ := conc_func_shape hx
      exact fin _ _ ex ey h (by simp) (by simp) (fun w => by simp [binOp]) (fun w => by simp [binOp])
    · cases h
  cases u with
  | int k a =>
    have h : binY k a op z = some v := h
    cases z with
    | int k' b =>
      have h : binII op k a k' b = some v := h
      rw [conc_int] at hx hy
      have e1 := (Option.some.inj hx).symm
      have e2 := (Option.some.inj hy).symm
      have hg : ∀ w, (eqGuard op t x y (ρ x) (ρ y)).run P w = .ok () w := fun w => by rw [e1, e2]; exact eqGuard_other (by simp) (by simp) w
      unfold binII at h
      split at h
      · exact key v ((shiftBin_sound (P := P) (t := t) (k' := k') (.inl rfl) h default).2 m) hg (fun w => by rw [e1, e2]; exact (shiftBin_sound (.inl rfl) h w).1)
      · exact key v ((shiftBin_sound (P := P) (t := t) (k' := k') (.inr rfl) h default).2 m) hg (fun w => by rw [e1, e2]; exact (shiftBin_sound (.inr rfl) h w).1)
      · obtain ⟨hk, h'⟩ := gd_some h
        have hk' : k = k' := by simpa [kindEq] using hk
        subst hk'
        exact key v ((intBin_sound (P := P) (t := t) h' default).2 m) hg (fun w => by rw [e1, e2]; exact (intBin_sound h' w).1)
    | float q i => exact hsym h
    | _ => cases h
  | float q i => exact hsym h
  | _ => exact hrest h
theorem run_equal_nn {t : TypeId} {ms : Array (String × TypeId)} (hu : P.underlying t = some (.interface ms)) (w : World) : (Op.equal t .nilIface .nilIface).run P w = .ok true w := by
  show (Op.equalIn (9999 + 1) t .nilIface .nilIface).run P w = _
  unfold Op.equalIn
  simp [Sem.run_bind, run_underlying hu]
theorem run_equal_ni {t t' : TypeId} {u : Value} {ms : Array (String × TypeId)} (hu : P.underlying t = some (.interface ms)) (w : World) : (Op.equal t .nilIface (.iface t' u)).run P w = .ok false w := by
  show (Op.equalIn (9999 + 1) t .nilIface (.iface t' u)).run P w = _
  unfold Op.equalIn
  simp [Sem.run_bind, run_underlying hu]
theorem run_equal_in {t t' : TypeId} {u : Value} {ms : Array (String × TypeId)} (hu : P.underlying t = some (.interface ms)) (w : World) : (Op.equal t (.iface t' u) .nilIface).run P w = .ok false w := by
  show (Op.equalIn (9999 + 1) t (.iface t' u) .nilIface).run P w = _
  unfold Op.equalIn
  simp [Sem.run_bind, run_underlying hu]
theorem eqGuard_const {op : BinOp} {t : TypeId} {x y : Operand} (hc : (isConst x || isConst y) = true) (w : World) : (eqGuard op t x y .nilIface .nilIface).run P w = .ok () w := by
  cases x <;> cases y <;> first
    | exact absurd (show false = true from hc) (by simp)
    | (cases op <;> simp [eqGuard])
theorem sound_nilCmp {m : Map} {ρ : Operand → Value} {o : Oper} {op : BinOp} {t t2 : TypeId} {x y : Operand} {u z v : Value} (ho : o.op = .binOp op t x y t2)
    (hc : (isConst x || isConst y) = true) (hx : conc m u = some (ρ x)) (hy : conc m z = some (ρ y)) (h : nilCmp P op t u z = some v) : PureDoes P m ρ o v := by
  obtain ⟨hi, h⟩ := gd_some h
  obtain ⟨ms, hu⟩ : ∃ ms, P.underlying t = some (.interface ms) := by
    unfold ifaceT at hi
    split at hi
    · rename_i ms hu; exact ⟨ms, hu⟩
    · cases hi
  have fin : ∀ b : Bool, nilEq op b = some v → (∀ w, (Op.equal t (ρ x) (ρ y)).run P w = .ok b w) → (∀ w, (eqGuard op t x y (ρ x) (ρ y)).run P w = .ok () w) →
      (∀ w, (binOp .eql t (ρ x) (ρ y)).run P w = ((Op.equal t (ρ x) (ρ y)).run P w).andThen fun r w' => .ok (.bool r) w') → (∀ w, (binOp .neq t (ρ x) (ρ y)).run P w = ((Op.equal t (ρ x) (ρ y)).run P w).andThen fun r w' => .ok (.bool !r) w') → PureDoes P m ρ o v := by
    intro b hb h1 h2 h3 h4
    unfold nilEq at hb
    split at hb
    · cases hb
      exact ⟨.bool b, conc_bool m b, fun w => by simp [execOp, ho, h2, h3, h1]⟩
    · cases hb
      exact ⟨.bool !b, conc_bool m _, fun w => by simp [execOp, ho, h2, h4, h1]⟩
    · cases hb
  split at h
  · have ex : ρ x = .nilIface := by simpa [conc] using hx.symm
    have ey : ρ y = .nilIface := by simpa [conc] using hy.symm
    refine fin true h (fun w => ?_) (fun w => ?_) (fun w => ?_) (fun w => ?_)
    · rw [ex, ey]; exact run_equal_nn hu w
    · rw [ex, ey]
      exact eqGuard_const hc w
    · rw [ex, ey]; simp [binOp]
    · rw [ex, ey]; simp [binOp]
  · rename_i t' v' _
    have ex : ρ x = .nilIface := by simpa [conc] using hx.symm
    obtain ⟨cv, _, ey⟩ : ∃ cv, conc m v' = some cv ∧ .iface t' cv = ρ y := by simpa [conc] using hy
    refine fin false h (fun w => ?_) (fun w => ?_) (fun w => ?_) (fun w => ?_)
    · rw [ex, ← ey]; exact run_equal_ni hu w
    · rw [ex, ← ey]; exact eqGuard_other (by simp) (by simp) w
    · rw [ex, ← ey]; simp [binOp]
    · rw [ex, ← ey]; simp [binOp]
  · rename_i t' v' _
    have ey : ρ y = .nilIface := by simpa [conc] using hy.symm
    obtain ⟨cv, _, ex⟩ : ∃ cv, conc m v' = some cv ∧ .iface t' cv = ρ x := by simpa [conc] using hx
    refine fin false h (fun w => ?_) (fun w => ?_) (fun w => ?_) (fun w => ?_)
    · rw [← ex, ey]; exact run_equal_in hu w
    · rw [← ex, ey]; exact eqGuard_other (by simp) (by simp) w
    · rw [← ex, ey]; simp [binOp]
    · rw [← ex, ey]; simp [binOp]
  · cases h
theorem sound_binA {m : Map} {ρ : Operand → Value} {o : Oper} {op : BinOp} {t t2 : TypeId} {x y : Operand} {u z v : Value} (ho : o.op = .binOp op t x y t2)
    (hx : conc m u = some (ρ x)) (hy : conc m z = some (ρ y)) (h : binA (isConst x || isConst y) P op t u z = some v) : PureDoes P m ρ o v := by
  unfold binA at h
  cases hc : (isConst x || isConst y) with
  | false => rw [hc] at h; exact sound_binOp ho hx hy h
  | true =>
    rw [hc] at h
    have h' : alt (binV P op t u z) (nilCmp P op t u z) = some v := h
    cases hb : binV P op t u z with
    | none => rw [hb] at h'; exact sound_nilCmp ho hc hx hy h'
    | some v' => rw [hb] at h'; cases h'; exact sound_binOp ho hx hy hb
theorem sound_mkIface {m : Map} {ρ : Operand → Value} {o : Oper} {t : TypeId} {x : Operand} {u v : Value} (ho : o.op = .makeInterface t x) (hx : conc m u = some (ρ x)) (h : mkIface P t u = some v) : PureDoes P m ρ o v := by
  unfold mkIface at h
  split at h
  · cases h
  · rename_i d hn hu
    cases h
    refine ⟨.iface t (ρ x), by simp [conc, hx], fun w => ?_⟩
    have hr : (Instr.makeInterface t (ρ x)).run P w = .ok (.iface t (ρ x)) w := by
      unfold Instr.makeInterface
      rw [Sem.run_bind, run_underlying hu]
      cases d <;> first | rfl | (exact absurd rfl (hn _)) 
    simp [execOp, ho, hr]
  · cases h
end Go.Ev

namespace Go.Ev
set_option linter.unusedSectionVars false
variable [OTab] [OVal]
variable {P : Program}

theorem conc_plainC {m : Map} {v : Value} (h : plainC v = true) : conc m v = some v := by
  unfold plainC at h
  split at h <;> first | (simp [conc]; done) | cases h
theorem concL_plain {m : Map} : ∀ {l : List Value}, l.all plainC = true → concL m l = some l
  | [], _ => by simp
  | v :: l, h => by
    simp only [List.all_cons, Bool.and_eq_true] at h
    exact concL_cons' (conc_plainC h.1) (concL_plain h.2)
theorem conc_plainZ {m : Map} {v : Value} (h : plainZ v = true) : conc m v = some v := by
  cases v with
  | agg a => obtain ⟨l⟩ := a; exact conc_agg' (concL_plain h)
  | _ => exact conc_plainC h
theorem zeroP_some {t : TypeId} {z : Value} (h : zeroP P t = some z) : (∃ i, P.info? t = some i ∧ i.zero = some z) ∧ ∀ m, conc m z = some z := by
  unfold zeroP zeroOf at h
  split at h
  · rename_i z' hz
    split at h
    · rename_i hp
      cases h
      refine ⟨?_, fun m => conc_plainZ hp⟩
      cases hi : P.info? t with
      | none => rw [hi] at hz; cases hz
      | some i => rw [hi] at hz; exact ⟨i, rfl, hz⟩
    · cases h
  · cases h
theorem run_zeroP {t : TypeId} {z : Value} (h : zeroP P t = some z) (w : World) : (zeroValue t).run P w = .ok z w := by
  obtain ⟨⟨i, hi, hz⟩, _⟩ := zeroP_some h
  simp [zeroValue, typeInfo, hi, hz]

theorem conc_cells {m : Map} {v cv : Value} (h : conc m v = some cv) : concL m (cellsL v) = some cv.cells.toList := by
  have one : ∀ u : Value, conc m v = some u → cellsL v = [v] → u.cells = #[u] → concL m (cellsL v) = some u.cells.toList := fun u hu h1 h2 => by
    rw [h1, h2]; exact concL_cons' hu (concL_nil m)
  cases v with
  | agg a => obtain ⟨l, hl, rfl⟩ := conc_agg h; exact hl
  | bool b => rw [conc_bool] at h; cases h; exact one _ (conc_bool m b) rfl rfl
  | int k n => rw [conc_int] at h; cases h; exact one _ (conc_int m k n) rfl rfl
  | string s => rw [conc_string] at h; cases h; exact one _ (conc_string m s) rfl rfl
  | pointer p => obtain ⟨a, rfl⟩ := conc_ptr_shape h; exact one _ h rfl rfl
  | slice a l c => obtain ⟨_, _, _, rfl⟩ := conc_slice_shape h; exact one _ h rfl rfl
  | map r => obtain ⟨_, rfl⟩ := conc_map_shape h; exact one _ h rfl rfl
  | func f a c => obtain ⟨_, _, _, rfl⟩ := conc_func_shape h; exact one _ h rfl rfl
  | nilFunc => have : cv = .nilFunc := by simpa [conc] using h.symm
               subst this; exact one _ h rfl rfl
  | nilIface => have : cv = .nilIface := by simpa [conc] using h.symm
                subst this; exact one _ h rfl rfl
  | iface t v =>
    have h' := h
    simp only [conc, Option.map_eq_some_iff] at h'
    obtain ⟨x, hx, rfl⟩ := h'
    exact one _ h rfl rfl
  | tuple a => obtain ⟨l, hl, rfl⟩ := conc_tuple h; exact one _ h rfl rfl
  | float k b =>
    have e : cv = OVal.val b := by rw [conc_float] at h; exact (Option.some.inj h).symm
    rcases OVal.shape b with ⟨k', n, e'⟩ | ⟨s, e'⟩ | ⟨a', l', c', e'⟩ <;> rw [e'] at e <;> subst e <;> exact one _ h rfl rfl
  | complex k a b => simp [conc] at h
  | chan r => simp [conc] at h

/-- parts, on both sides -/
def PartsRel (m : Map) : List (Nat × Value) → List (Nat × Value) → Prop
  | [], [] => True
  | p :: ps, q :: qs => (q.1 = p.1 ∧ conc m p.2 = some q.2) ∧ PartsRel m ps qs
  | _, _ => False

theorem foldl_set (off : Nat) : ∀ (l : List Value) (k : Nat) (arr : Array Value), off + k + l.length ≤ arr.size →
    (l.zipIdx k).foldl (fun (cs : Array Value) (p : Value × Nat) => cs.setIfInBounds (off + p.2) p.1) arr = ⟨arr.toList.take (off + k) ++ l ++ arr.toList.drop (off + k + l.length)⟩
  | [], k, arr, _ => by
    simp only [List.zipIdx_nil, List.foldl_nil, List.append_nil, List.length_nil, Nat.add_zero, List.take_append_drop]
  | v :: l, k, arr, h => by
    simp only [List.length_cons] at h
    simp only [List.zipIdx_cons, List.foldl_cons]
    rw [foldl_set off l (k + 1) _ (by simp; omega)]
    apply congrArg Array.mk
    have hk : off + k < arr.toList.length := by simp; omega
    rw [Array.toList_setIfInBounds]
    have e1 : (arr.toList.set (off + k) v).take (off + (k + 1)) = arr.toList.take (off + k) ++ [v] := by
      rw [show off + (k + 1) = off + k + 1 from by omega, List.take_succ_eq_append_getElem (by simpa using hk)]
      rw [List.take_set, List.set_eq_of_length_le (by simp; omega)]
      simp
    have e2 : (arr.toList.set (off + k) v).drop (off + (k + 1) + l.length) = arr.toList.drop (off + k + (v :: l).length) := by
      rw [List.drop_set_of_lt (by omega)]
      congr 1
      simp
      omega
    rw [e1, e2]
    simp

theorem fill_sound {m : Map} {place place' : Nat → Option (Nat × Nat)} (hp : ∀ i p, place i = some p → place' i = some p) : ∀ (ps qs : List (Nat × Value)) (cells cells' l : List Value), PartsRel m ps qs → concL m cells = some cells' →
    buildL place cells ps = some l → ∃ l', concL m l = some l' ∧ Instr.fill place' ⟨cells'⟩ qs = some ⟨l'⟩
  | [], _ :: _, _, _, _, hr, _, _ => hr.elim
  | _ :: _, [], _, _, _, hr, _, _ => hr.elim
  | [], [], cells, cells', l, hr, hc, h => by
    simp only [buildL] at h
    cases h
    exact ⟨cells', hc, rfl⟩
  | (i, v) :: ps, (j, u) :: qs, cells, cells', l, hr, hc, h => by
      obtain ⟨⟨hij, hu⟩, ht⟩ := hr
      simp only at hij hu
      subst hij
      simp only [buildL] at h
      obtain ⟨p, hpl, h⟩ := ob_some h
      split at h
      · cases h
      · rename_i hs
        simp only [Bool.or_eq_true, decide_eq_true_eq, not_or, Nat.not_lt] at hs
        have hcs := conc_cells hu
        have hlen := concL_len hcs
        have hlenc := concL_len hc
        have hsz : u.cells.size = p.2 := by
          have : u.cells.toList.length = u.cells.size := by simp
          have := hs.1
          simp only [ne_eq, Decidable.not_not] at this
          omega
        have hset : concL m (setL cells p.1 (cellsL v)) = some (cells'.take p.1 ++ u.cells.toList ++ cells'.drop (p.1 + u.cells.toList.length)) := by
          unfold setL
          rw [hlen]
          exact concL_append (concL_append (concL_take _ hc) hcs) (concL_drop _ hc)
        obtain ⟨l', hl', hf⟩ := fill_sound hp ps qs _ _ l ht hset h
        refine ⟨l', hl', ?_⟩
        obtain ⟨p1, p2⟩ := p
        simp only at hsz hs hf
        simp only [Instr.fill, hp _ _ hpl]
        have hno : ¬ ((decide (u.cells.size ≠ p2) || decide (p1 + u.cells.size > (Array.mk cells').size)) = true) := by
          simp only [Bool.or_eq_true, decide_eq_true_eq, not_or]
          refine ⟨by simp [hsz], ?_⟩
          have : (Array.mk cells').size = cells'.length := rfl
          have := hs.2
          have : u.cells.toList.length = u.cells.size := by simp
          omega
        rw [if_neg hno]
        have hz := foldl_set p1 u.cells.toList 0 ⟨cells'⟩ (by
          have : (Array.mk cells').size = cells'.length := rfl
          have := hs.2
          have : u.cells.toList.length = u.cells.size := by simp
          omega)
        have hz' : (Array.foldl (fun (cs : Array Value) (x : Value × Nat) => cs.setIfInBounds (p1 + x.2) x.1) ⟨cells'⟩ u.cells.zipIdx) = ⟨cells'.take p1 ++ u.cells.toList ++ cells'.drop (p1 + u.cells.toList.length)⟩ := by
          rw [← Array.foldl_toList, Array.toList_zipIdx]
          simpa using hz
        have hz'' : (Array.foldl (fun (cs : Array Value) (x : Value × Nat) => match x with | (c, j) => cs.setIfInBounds (p1 + j) c) ⟨cells'⟩ u.cells.zipIdx) = ⟨cells'.take p1 ++ u.cells.toList ++ cells'.drop (p1 + u.cells.toList.length)⟩ := hz'
        rw [hz'']
        exact hf

theorem parts_rel {m : Map} {A : T Value} {ρ : Operand → Value} : ∀ (ps : List (Nat × Operand)), (∀ p ∈ ps, conc m (ev A p.2) = some (ρ p.2)) →
    PartsRel m (ps.map fun p => (p.1, ev A p.2)) (ps.map fun p => (p.1, ρ p.2))
  | [], _ => trivial
  | p :: ps, h => ⟨⟨rfl, h p (by simp)⟩, parts_rel ps fun q hq => h q (by simp [hq])⟩

theorem mapM_sz : ∀ (fs : List Field), fs.all (fun f => (sz P f.type).isSome) = true → ∃ pl : List (Nat × Nat), fs.mapM (fun f => (P.info? f.type).map fun i => (f.offset, i.size)) = some pl ∧
    ∀ i : Nat, pl[i]? = (fs[i]?).bind fun f => (sz P f.type).map fun n => (f.offset, n)
  | [], _ => ⟨[], by simp, fun i => by simp⟩
  | f :: fs, h => by
    simp only [List.all_cons, Bool.and_eq_true] at h
    obtain ⟨pl, h1, h2⟩ := mapM_sz fs h.2
    cases hi : P.info? f.type with
    | none => have := h.1; simp [sz, hi] at this
    | some i =>
      refine ⟨(f.offset, i.size) :: pl, by simp [hi, h1], fun j => ?_⟩
      cases j with
      | zero => simp [sz, hi]
      | succ j => simpa using h2 j

theorem sound_build {m : Map} {ρ : Operand → Value} {o : Oper} {t : TypeId} {A : T Value} {ps : Array (Nat × Operand)} {v : Value} (ho : o.op = .build t ps)
    (hps : ∀ p ∈ ps.toList, conc m (ev A p.2) = some (ρ p.2)) (h : buildV P t (evParts A ps) = some v) : PureDoes P m ρ o v := by
  unfold buildV at h
  obtain ⟨hf, h⟩ := gd_some h
  obtain ⟨z, hz, h⟩ := ob_some h
  obtain ⟨l, hl, h⟩ := ob_some h
  cases h
  obtain ⟨⟨i, hi, hz0⟩, hzc⟩ := zeroP_some hz
  have hzm := conc_cells (hzc m)
  have hpr := parts_rel (ρ := ρ) ps.toList hps
  have hbuilt : ∃ l', concL m l = some l' ∧ P.built t (ps.toList.map fun p => (p.1, ρ p.2)) = some ⟨l'⟩ := by
    unfold fieldsSized at hf
    split at hf
    · rename_i fs hu
      obtain ⟨pl, hpl, hget⟩ := mapM_sz (P := P) fs.toList hf
      obtain ⟨l', h1, h2⟩ := fill_sound (place' := fun j => pl.toArray[j]?) (fun j p hp => by
        unfold placeOf at hp
        rw [hu] at hp
        obtain ⟨f, hf1, hp⟩ := ob_some hp
        obtain ⟨n, hn, hp⟩ := ob_some hp
        cases hp
        have : fs.toList[j]? = some f := by simpa using hf1
        simp [hget, this, hn]) _ _ _ _ l hpr hzm hl
      refine ⟨l', h1, ?_⟩
      unfold Program.built
      simp only [hi, hu, hz0, hpl]
      exact h2
    · rename_i n e hu
      cases hie : P.info? e with
      | none => simp [sz, hie] at hf
      | some ie =>
        obtain ⟨l', h1, h2⟩ := fill_sound (place' := fun j => some (j * ie.size, ie.size)) (fun j p hp => by
          unfold placeOf at hp
          rw [hu] at hp
          simp only [sz, hie] at hp
          obtain ⟨n, hn, hp⟩ := ob_some hp
          cases hn
          exact hp) _ _ _ _ l hpr hzm hl
        refine ⟨l', h1, ?_⟩
        unfold Program.built
        simp only [hi, hu, hz0, hie]
        exact h2
    · cases hf
  obtain ⟨l', h1, h2⟩ := hbuilt
  refine ⟨.agg ⟨l'⟩, conc_agg' h1, fun w => ?_⟩
  have := run_build (P := P) w t (ps.map fun (i, x) => (i, ρ x)) ⟨l'⟩ (by simpa using h2)
  simp [execOp, ho, this]
end Go.Ev

namespace Go.Ev
set_option linter.unusedSectionVars false
variable [OTab] [OVal]
variable {P : Program} {m : Map} {ρ : Operand → Value} {o : Oper} {v : Value}

theorem sound_move {x : Operand} {u : Value} (ho : o.op = .move x ∨ o.op = .assign x) (hx : conc m u = some (ρ x)) (h : some u = some v) : PureDoes P m ρ o v := by
  cases h
  exact ⟨ρ x, hx, fun w => by rcases ho with ho | ho <;> simp [execOp, ho]⟩

theorem sound_pick {A : T Value} {c a b : Operand} {u : Value} (ho : o.op = .pick c a b) (hc : conc m u = some (ρ c)) (ha : conc m (ev A a) = some (ρ a)) (hb : conc m (ev A b) = some (ρ b))
    (h : ob (asB u) (pickV A a b) = some v) : PureDoes P m ρ o v := by
  obtain ⟨t, ht, h⟩ := ob_some h
  have := asB_some ht
  subst this
  rw [conc_bool] at hc
  have e := (Option.some.inj hc).symm
  cases t with
  | false => cases h; exact ⟨ρ b, hb, fun w => by simp [execOp, ho, e, asBool]⟩
  | true => cases h; exact ⟨ρ a, ha, fun w => by simp [execOp, ho, e, asBool]⟩

theorem sound_unOp {op : UnOp} {t : TypeId} {x : Operand} {u : Value} (ho : o.op = .unOp op t x) (hx : conc m u = some (ρ x)) (h : unV op u = some v) : PureDoes P m ρ o v := by
  unfold unV at h
  split at h
  · rw [conc_bool] at hx
    have e := (Option.some.inj hx).symm
    cases h
    exact ⟨_, conc_bool m _, fun w => by simp [execOp, ho, e, Op.unary]⟩
  · rw [conc_int] at hx
    have e := (Option.some.inj hx).symm
    cases h
    refine ⟨_, conc_int m _ _, fun w => ?_⟩
    rw [wrapF_eq]
    have hz : ∀ n : Int, Int.sub 0 n = -n := fun n => Int.zero_sub n
    simp [execOp, ho, e, Op.unary, Op.intArith, hz]
  · rw [conc_int] at hx
    have e := (Option.some.inj hx).symm
    cases h
    exact ⟨_, conc_int m _ _, fun w => by simp [execOp, ho, e, Op.unary, Op.intBits]⟩
  · cases h

theorem methF_some {t : TypeId} {n : String} {f : FuncId} (h : methF P t n = some f) :
    ∃ i m e, P.info? t = some i ∧ i.methods.find? (·.name == n) = some m ∧ m.func = some (f, true) ∧ m.path = #[] ∧ i.desc = .pointer e := by
  unfold methF at h
  split at h
  · cases h
  · rename_i i hi
    split at h
    · cases h
    · rename_i m hm
      split at h
      · rename_i g e h1 h2 h3
        cases h
        exact ⟨i, m, e, hi, hm, h1, by apply Array.ext'; simpa using h2, h3⟩
      · cases h
theorem nilAhead_of {t : TypeId} {n : String} {f : FuncId} {w : World} (h : methF P t n = some f) (z : Value) : (nilAhead (P.types.size + Made.depth) t z n).run P w = .ok (some false) w := by
  obtain ⟨i, m, e, h1, h2, h3, h4, h5⟩ := methF_some h
  have hd : P.types.size + Made.depth = (P.types.size + 99) + 1 := rfl
  rw [hd, nilAhead.eq_2]
  simp [typeInfo, h1, h2, h3, h4, followBlind]
theorem method_of {t : TypeId} {n : String} {f : FuncId} {w : World} (h : methF P t n = some f) (z : Value) : (method (P.types.size + Made.depth) t z n).run P w = .ok (f, z) w := by
  obtain ⟨i, m, e, h1, h2, h3, h4, h5⟩ := methF_some h
  have hd : P.types.size + Made.depth = (P.types.size + 99) + 1 := rfl
  rw [hd]
  have hu : P.underlying t = some (.pointer e) := by
    unfold Program.underlying
    rw [h1]
    obtain ⟨d, _, _, _⟩ := i
    simp only at h5
    subst h5
    rfl
  rw [method.eq_2]
  simp [typeInfo, h1, h2, h3, h4, follow, receiverAt, run_underlying hu, Place.get]
theorem sound_nilCheck {x : Operand} {u : Value} (ho : o.op = .nilCheck x) (hx : conc m u = some (ρ x)) (h : nilChk P u = some v) : PureDoes P m ρ o v := by
  have fin : u = v → (∀ w, (execOp ρ o).run P w = .ok (.value (ρ x)) w) → PureDoes P m ρ o v := fun e hr => ⟨ρ x, e ▸ hx, hr⟩
  cases u with
  | bool b => cases h; rw [conc_bool] at hx; have e := (Option.some.inj hx).symm; exact fin rfl (fun w => by simp [execOp, ho, e])
  | int k n => cases h; rw [conc_int] at hx; have e := (Option.some.inj hx).symm; exact fin rfl (fun w => by simp [execOp, ho, e])
  | string s => cases h; rw [conc_string] at hx; have e := (Option.some.inj hx).symm; exact fin rfl (fun w => by simp [execOp, ho, e])
  | pointer p =>
    have h : (ob p fun _ => some (Value.pointer p)) = some v := h
    obtain ⟨a, rfl, h⟩ := ob_some h
    cases h
    obtain ⟨_, _, _, e⟩ := conc_pointer hx
    exact fin rfl (fun w => by simp [execOp, ho, e])
  | slice a l c => cases h; obtain ⟨_, _, _, e⟩ := conc_slice_shape hx; exact fin rfl (fun w => by simp [execOp, ho, e])
  | map r => cases h; obtain ⟨_, e⟩ := conc_map_shape hx; exact fin rfl (fun w => by simp [execOp, ho, e])
  | func f a c =>
    have h : nilChkF P f a (.func f a c) = some v := h
    obtain ⟨a⟩ := a
    obtain ⟨c⟩ := c
    cases f with
    | func f =>
      cases h
      have hx' := hx
      simp only [conc] at hx'
      split at hx'
      · have e := (Option.some.inj hx').symm
        exact fin rfl (fun w => by simp [execOp, ho, e])
      · cases hx'
    | yield l =>
      cases h
      have hx' := hx
      match a, c, hx' with
      | [], [], hx' =>
        simp only [conc, Option.map_eq_some_iff] at hx'
        obtain ⟨z, _, e⟩ := hx'
        exact fin rfl (fun w => by simp [execOp, ho, ← e])
      | _ :: _, _, hx' => simp [conc] at hx'
      | [], _ :: _, hx' => simp [conc] at hx'
    | method n =>
      have h : nilChkM P n a (.func (.method n) ⟨a⟩ ⟨c⟩) = some v := h
      unfold nilChkM at h
      split at h
      · rename_i t z rest
        obtain ⟨g, hg, h⟩ := ob_some h
        cases h
        have hx' := hx
        simp only [conc] at hx'
        split at hx'
        · rename_i ca cc e1 e2
          have e := (Option.some.inj hx').symm
          obtain ⟨c0, cr, f1, f2, rfl⟩ := concL_cons e1
          simp only [conc, Option.map_eq_some_iff] at f1
          obtain ⟨z', hz', rfl⟩ := f1
          refine fin rfl (fun w => ?_)
          have := nilAhead_of hg (w := w) z'
          simp [execOp, ho, e, this]
        · cases hx'
      · cases h
    | _ => cases h
  | nilFunc => cases h
  | nilIface => cases h
  | iface t z =>
    cases h
    have hx' := hx
    simp only [conc, Option.map_eq_some_iff] at hx'
    obtain ⟨z, _, e⟩ := hx'
    exact fin rfl (fun w => by simp [execOp, ho, ← e])
  | agg a => cases h; obtain ⟨_, _, e⟩ := conc_agg hx; exact fin rfl (fun w => by simp [execOp, ho, e])
  | tuple a => cases h; obtain ⟨_, _, e⟩ := conc_tuple hx; exact fin rfl (fun w => by simp [execOp, ho, e])
  | float k b =>
    cases h
    have e : ρ x = OVal.val b := by rw [conc_float] at hx; exact (Option.some.inj hx).symm
    rcases OVal.shape b with ⟨k', n, e'⟩ | ⟨s, e'⟩ | ⟨a', l', c', e'⟩ <;> rw [e'] at e <;> exact fin rfl (fun w => by simp [execOp, ho, e])
  | complex k a b => simp [conc] at hx
  | chan r => simp [conc] at hx

theorem sound_makeFunc {fn : Fn} {first cap : Array Operand} {A : T Value} (ho : o.op = .makeFunc fn first cap) (h1 : ∀ x ∈ first.toList, conc m (ev A x) = some (ρ x)) (h2 : ∀ x ∈ cap.toList, conc m (ev A x) = some (ρ x))
    (h : makeFuncV fn (first.toList.map (ev A)) (cap.toList.map (ev A)) = some v) : PureDoes P m ρ o v := by
  unfold makeFuncV at h
  split at h
  · rename_i f
    cases h
    refine ⟨.func (.func f) ⟨first.toList.map ρ⟩ ⟨cap.toList.map ρ⟩, ?_, fun w => ?_⟩
    · simp only [conc, concL_map (ev A) ρ _ h1, concL_map (ev A) ρ _ h2]
    · have e1 : first.map ρ = ⟨first.toList.map ρ⟩ := by apply Array.ext'; simp
      have e2 : cap.map ρ = ⟨cap.toList.map ρ⟩ := by apply Array.ext'; simp
      simp [execOp, ho, Instr.makeFunc, e1, e2]
  · rename_i f
    cases h
    refine ⟨.func (.method f) ⟨first.toList.map ρ⟩ ⟨cap.toList.map ρ⟩, ?_, fun w => ?_⟩
    · simp only [conc, concL_map (ev A) ρ _ h1, concL_map (ev A) ρ _ h2]
    · have e1 : first.map ρ = ⟨first.toList.map ρ⟩ := by apply Array.ext'; simp
      have e2 : cap.map ρ = ⟨cap.toList.map ρ⟩ := by apply Array.ext'; simp
      simp [execOp, ho, Instr.makeFunc, e1, e2]
  · cases h

theorem sound_fieldAddr {t f : Nat} {x : Operand} {u : Value} (ho : o.op = .fieldAddr t x f) (hx : conc m u = some (ρ x)) (h : fieldAddrV P t f u = some v) : PureDoes P m ρ o v := by
  unfold fieldAddrV at h
  obtain ⟨off, h1, h⟩ := ob_some h
  obtain ⟨a, h2, h⟩ := ob_some h
  cases h
  have := asP_some h2
  subst this
  obtain ⟨y, hy, hs, hc⟩ := conc_pointer hx
  obtain ⟨b, o', s⟩ := a
  simp only at hs
  subst hs
  refine ⟨.pointer (some ⟨y.blk, y.sh + (o' + off), none⟩), by rw [add_eq]; exact conc_pointer' hy, fun w => ?_⟩
  unfold offOf fieldOf at h1
  cases hu : P.underlying t with
  | none => rw [hu] at h1; cases h1
  | some d =>
    rw [hu] at h1
    cases d with
    | struct fs =>
      simp only at h1
      cases hf : fs[f]? with
      | none => rw [hf] at h1; cases h1
      | some fd =>
        rw [hf] at h1
        simp only at h1
        cases hz : sz P fd.type with
        | none => rw [hz] at h1; cases h1
        | some n =>
          rw [hz] at h1
          simp only at h1
          split at h1
          · cases h1
          · rename_i hn
            cases h1
            simp [execOp, ho, Instr.fieldAt, run_underlying hu, hf, hc, Instr.sureAddr, fieldPlace, run_sz hz, hn, add_eq, Nat.add_assoc]
    | _ => cases h1

theorem sound_field {t f : Nat} {x : Operand} {u : Value} (ho : o.op = .field t x f) (hx : conc m u = some (ρ x)) (h : fieldV P t f u = some v) : PureDoes P m ρ o v := by
  unfold fieldV at h
  obtain ⟨fd, h1, h⟩ := ob_some h
  obtain ⟨l, h2, h⟩ := ob_some h
  have := asA_some h2
  subst this
  obtain ⟨l', hl', e⟩ := conc_agg hx
  obtain ⟨c, hc, _⟩ := part_sound (P := P) hl' h default
  refine ⟨c, hc, fun w => ?_⟩
  obtain ⟨c', hc', hr⟩ := part_sound (P := P) hl' h w
  rw [hc] at hc'
  cases hc'
  unfold fieldOf at h1
  cases hu : P.underlying t with
  | none => rw [hu] at h1; cases h1
  | some d =>
    rw [hu] at h1
    cases d with
    | struct fs => simp only at h1; simp [execOp, ho, Instr.field, run_underlying hu, h1, e, asAgg, hr]
    | _ => cases h1

theorem inB_some {i : Int} {len k : Nat} (h : inB i len = some k) : i = k ∧ k < len := by
  cases i with
  | ofNat n =>
    have h : bsel (Nat.blt n len) none (some n) = some k := h
    cases hb : Nat.blt n len with
    | false => rw [hb] at h; cases h
    | true => rw [hb] at h; cases h; simp [Nat.blt] at hb; exact ⟨rfl, by omega⟩
  | negSucc n => cases h

theorem sound_indexAddr {t : TypeId} {x i : Operand} {u z : Value} (ho : o.op = .indexAddr t x i) (hx : conc m u = some (ρ x)) (hi : conc m z = some (ρ i)) (h : indexAddrV P t u z = some v) : PureDoes P m ρ o v := by
  unfold indexAddrV at h
  obtain ⟨n, hn, h2⟩ := ob_some h
  clear h
  obtain ⟨k, rfl⟩ := asI_some hn
  rw [conc_int] at hi
  have ei := (Option.some.inj hi).symm
  cases u with
  | pointer p =>
    have h3 : ob p (idxP P t n) = some v := h2
    clear h2
    obtain ⟨a, rfl, h4⟩ := ob_some h3
    clear h3
    unfold idxP at h4
    obtain ⟨q, hq, h5⟩ := ob_some h4
    obtain ⟨j, hj, h6⟩ := ob_some h5
    clear h4 h5
    cases h6
    obtain ⟨rfl, hlt⟩ := inB_some hj
    obtain ⟨y, hy, hs, hc⟩ := conc_pointer hx
    obtain ⟨b, o', s⟩ := a
    simp only at hs
    subst hs
    refine ⟨.pointer (some ⟨y.blk, y.sh + (o' + j * q.2), none⟩), by rw [add_eq]; exact conc_pointer' hy, fun w => ?_⟩
    unfold arrOf at hq
    cases hu : P.underlying t with
    | none => rw [hu] at hq; cases hq
    | some d =>
      rw [hu] at hq
      cases d with
      | array len e =>
        simp only [Option.map_eq_some_iff] at hq
        obtain ⟨sz', hsz, rfl⟩ := hq
        simp only at hlt
        have hlt' := hlt
        simp [execOp, ho, Instr.indexAt, ei, hc, asIntOf, run_underlying hu, Instr.sureAddr, hlt', run_sz hsz, add_eq, Nat.add_assoc]
        try (intro hge; omega)
      | _ => cases hq
  | slice p len code =>
    have h3 : ob p (idxS P t n len) = some v := h2
    clear h2
    obtain ⟨a, rfl, h4⟩ := ob_some h3
    clear h3
    unfold idxS at h4
    obtain ⟨q, hq, h5⟩ := ob_some h4
    obtain ⟨j, hj, h6⟩ := ob_some h5
    clear h4 h5
    cases h6
    obtain ⟨rfl, hlt⟩ := inB_some hj
    obtain ⟨b, o', s⟩ := a
    cases s with
    | some s =>
      cases len with
      | zero => omega
      | succ len => simp [conc] at hx
    | none =>
      simp only [conc, Option.map_eq_some_iff] at hx
      obtain ⟨y, hy, hc⟩ := hx
      refine ⟨.pointer (some ⟨y.blk, y.sh + (o' + j * q), none⟩), by rw [add_eq]; exact conc_pointer' hy, fun w => ?_⟩
      unfold sliceSz at hq
      cases hu : P.underlying t with
      | none => rw [hu] at hq; cases hq
      | some d =>
        rw [hu] at hq
        cases d with
        | slice e =>
          simp only at hq
          have hlt' := hlt
          simp [execOp, ho, Instr.indexAt, ei, ← hc, asIntOf, run_underlying hu, hlt', run_sz hq, add_eq, Nat.add_assoc]
          try (intro hge; omega)
        | _ => cases hq
  | _ => cases h2

theorem sound_index {t : TypeId} {x i : Operand} {u z : Value} (ho : o.op = .index t x i) (hx : conc m u = some (ρ x)) (hi : conc m z = some (ρ i)) (h : indexV P t u z = some v) : PureDoes P m ρ o v := by
  unfold indexV at h
  obtain ⟨n, hn, h2⟩ := ob_some h
  clear h
  obtain ⟨k, rfl⟩ := asI_some hn
  rw [conc_int] at hi
  have ei := (Option.some.inj hi).symm
  split at h2
  · rename_i len e cs hu
    obtain ⟨j, hj, h3⟩ := ob_some h2
    obtain ⟨q, hq, h⟩ := ob_some h3
    clear h2 h3
    obtain ⟨rfl, hlt⟩ := inB_some hj
    obtain ⟨l', hl', ec⟩ := conc_agg hx
    obtain ⟨c, hc, _⟩ := part_sound (P := P) hl' h default
    refine ⟨c, hc, fun w => ?_⟩
    obtain ⟨c', hc', hr⟩ := part_sound (P := P) hl' h w
    rw [hc] at hc'
    cases hc'
    have hlt' := hlt
    simp [execOp, ho, Instr.index, ei, ec, asIntOf, run_underlying hu, hlt', run_sz hq, hr]
    try (intro hge; omega)
  · rename_i s hu
    obtain ⟨j, hj, h3⟩ := ob_some h2
    obtain ⟨b, hb, h4⟩ := ob_some h3
    clear h2 h3
    cases h4
    obtain ⟨rfl, hlt⟩ := inB_some hj
    rw [conc_string] at hx
    have ex := (Option.some.inj hx).symm
    refine ⟨_, conc_int m _ _, fun w => ?_⟩
    have hg : s[j]? = some b := by
      have hlt2 : j < s.data.toList.length := by simpa using hlt
      rw [List.getElem?_eq_getElem hlt2] at hb
      have hb' := Option.some.inj hb
      rw [getElem?_pos s j hlt]
      rw [← hb']
      rfl
    simp [execOp, ho, Instr.index, ei, ex, asIntOf, run_underlying hu, hg]
  · cases h2

theorem sound_extract {t : Operand} {i : Nat} {u : Value} (ho : o.op = .extract t i) (hx : conc m u = some (ρ t)) (h : extractV i u = some v) : PureDoes P m ρ o v := by
  unfold extractV at h
  obtain ⟨l, hl, h⟩ := ob_some h
  have := asT_some hl
  subst this
  obtain ⟨l', hl', e⟩ := conc_tuple hx
  obtain ⟨c, hc, hg⟩ := concL_get hl' i v h
  exact ⟨c, hc, fun w => by simp [execOp, ho, e, Instr.extract, hg]⟩

theorem sound_convert {s d : TypeId} {x : Operand} {u : Value} (ho : o.op = .convert s d x) (hx : conc m u = some (ρ x)) (h : convPure P s d u = some v) : PureDoes P m ρ o v := by
  unfold convPure at h
  split at h
  · rename_i h1 h2
    rw [conc_int] at hx
    have ex := (Option.some.inj hx).symm
    cases h
    refine ⟨_, conc_int m _ _, fun w => ?_⟩
    rw [wrapF_eq]
    simp [execOp, ho, convert, ex, run_underlying h1, run_underlying h2, Conv.intToInt]
  · rename_i h1 h2
    obtain ⟨_, _, hpz, q1, a, h3, h4⟩ := symV_holds h
    rw [conc_float] at hx
    have ex : ρ x = .int q1 a := by rw [← Option.some.inj hx]; exact h3
    refine ⟨_, conc_plain m hpz, fun w => ?_⟩
    rw [h4]
    simp [execOp, ho, convert, ex, run_underlying h1, run_underlying h2, Conv.intToInt]
  · rename_i d' b h1 h2
    rw [conc_string] at hx
    have ex := (Option.some.inj hx).symm
    cases h
    refine ⟨_, conc_string m _, fun w => ?_⟩
    simp [execOp, ho, convert, ex, run_underlying h1, run_underlying h2]
  · cases h
end Go.Ev

namespace Go.Ev
set_option linter.unusedSectionVars false
variable [OTab] [OVal]
variable {P : Program} {m : Map} {ρ : Operand → Value} {o : Oper} {v : Value}

/-- an index operand on both sides -/
def OptRel (a : Option Int) (c : Option Value) : Prop :=
  match a, c with
  | none, none => True
  | some n, some (.int _ n') => n' = n
  | _, _ => False
theorem optInt_rel {A : T Value} {x : Option Operand} {a : Option Int} (hx : ∀ y, x = some y → conc m (ev A y) = some (ρ y)) (h : optInt (x.map (ev A)) = some a) : OptRel a (x.map ρ) := by
  cases x with
  | none => simp [optInt] at h; subst h; exact trivial
  | some y =>
    simp only [Option.map_some, optInt] at h
    obtain ⟨n, hn, h⟩ := ob_some h
    cases h
    obtain ⟨k, hk⟩ := asI_some hn
    have := hx y rfl
    rw [hk, conc_int] at this
    have e := (Option.some.inj this).symm
    simp [OptRel, e]

theorem bound1_run {y n : Nat} {v : Int} {c : Value} {code : BoundsCode} (h : bound1 y v = some n) (hc : OptRel (some v) (some c)) (w : World) : (Instr.sliceBound c y code).run P w = .ok n w := by
  unfold bound1 at h
  cases c with
  | int k n' =>
    simp only [OptRel] at hc
    subst hc
    split at h
    · cases h
    · rename_i h0
      rw [ltI_eq] at h0
      split at h
      · rename_i h1
        cases h
        have h0' : 0 ≤ n' := by simp at h0; omega
        have h1' : n' ≤ (y : Int) := by have := Nat.le_of_ble_eq_true h1; omega
        simp [Instr.sliceBound, asIntOf, h0', h1']
      · cases h
  | _ => exact hc.elim

theorem bounds_run {len cap : Nat} {lo hi mx : Option Int} {clo chi cmx : Option Value} {r : Nat × Nat × Nat} {b : Bool} (h : boundsOf len cap lo hi mx = some r)
    (hl : OptRel lo clo) (hh : OptRel hi chi) (hm : OptRel mx cmx) (w : World) : (Instr.sliceBounds b len cap clo chi cmx).run P w = .ok r w := by
  unfold boundsOf at h
  obtain ⟨m', h1, h2⟩ := ob_some h
  obtain ⟨h', h3, h4⟩ := ob_some h2
  obtain ⟨l', h5, h6⟩ := ob_some h4
  clear h h2 h4
  cases h6
  have ex : ∀ {n : Int} {c : Option Value}, OptRel (some n) c → ∃ d, c = some d ∧ OptRel (some n) (some d) := fun {n c} h => by
    cases c with
    | none => exact h.elim
    | some d => exact ⟨d, rfl, h⟩
  have en : ∀ {c : Option Value}, OptRel none c → c = none := fun {c} h => by
    cases c with
    | none => rfl
    | some d => exact h.elim
  cases mx with
  | none =>
    have := en hm; subst this
    simp [boundsM] at h1; subst h1
    cases hi with
    | none =>
      have := en hh; subst this
      simp [boundsH] at h3; subst h3
      cases lo with
      | none => have := en hl; subst this; simp [boundsL] at h5; subst h5; simp [Instr.sliceBounds]
      | some n => obtain ⟨d, rfl, hd⟩ := ex hl; have f := fun code => bound1_run (P := P) (code := code) h5 hd w; simp [Instr.sliceBounds, f]
    | some n =>
      obtain ⟨c, rfl, hc⟩ := ex hh
      have g := fun code => bound1_run (P := P) (code := code) h3 hc w
      cases lo with
      | none => have := en hl; subst this; simp [boundsL] at h5; subst h5; simp [Instr.sliceBounds, g]
      | some n => obtain ⟨d, rfl, hd⟩ := ex hl; have f := fun code => bound1_run (P := P) (code := code) h5 hd w; simp [Instr.sliceBounds, g, f]
  | some n =>
    obtain ⟨q, rfl, hq⟩ := ex hm
    have k := fun code => bound1_run (P := P) (code := code) h1 hq w
    cases hi with
    | none => simp [boundsH] at h3
    | some n =>
      obtain ⟨c, rfl, hc⟩ := ex hh
      have g := fun code => bound1_run (P := P) (code := code) h3 hc w
      cases lo with
      | none => have := en hl; subst this; simp [boundsL] at h5; subst h5; simp [Instr.sliceBounds, k, g]
      | some n => obtain ⟨d, rfl, hd⟩ := ex hl; have f := fun code => bound1_run (P := P) (code := code) h5 hd w; simp [Instr.sliceBounds, k, g, f]

theorem bounds_le {len cap : Nat} {lo hi mx : Option Int} {r : Nat × Nat × Nat} (h : boundsOf len cap lo hi mx = some r) (hlc : len ≤ cap) : r.1 ≤ r.2.1 ∧ r.2.1 ≤ r.2.2 ∧ r.2.2 ≤ cap := by
  have b1 : ∀ {y n : Nat} {v : Int}, bound1 y v = some n → n ≤ y := fun {y n v} h => by
    unfold bound1 at h
    split at h
    · cases h
    · split at h
      · rename_i h1; cases h; exact Nat.le_of_ble_eq_true h1
      · cases h
  unfold boundsOf at h
  obtain ⟨m', h1, h2⟩ := ob_some h
  obtain ⟨h', h3, h4⟩ := ob_some h2
  obtain ⟨l', h5, h6⟩ := ob_some h4
  cases h6
  have m1 : m' ≤ cap ∧ (mx = none → m' = cap) := by
    cases mx with
    | none => simp [boundsM] at h1; exact ⟨by omega, fun _ => h1.symm⟩
    | some n => exact ⟨b1 h1, fun e => by cases e⟩
  have m2 : h' ≤ m' := by
    cases hi with
    | some n => exact b1 h3
    | none => cases mx with
      | none => simp [boundsH] at h3; have := m1.2 rfl; omega
      | some n => simp [boundsH] at h3
  have m3 : l' ≤ h' := by
    cases lo with
    | none => simp [boundsL] at h5; omega
    | some n => exact b1 h5
  exact ⟨m3, m2, m1.1⟩

theorem extract_eq (s : ByteArray) (l h : Nat) : s.extract l h = ⟨⟨(s.data.toList.drop l).take (h - l)⟩⟩ := by
  have e1 : (s.extract l h).data = s.data.extract l h := ByteArray.data_extract
  have e2 : s.data.extract l h = ⟨(s.data.toList.drop l).take (h - l)⟩ := by
    apply Array.ext'
    simp [List.extract_eq_take_drop]
  have : s.extract l h = ⟨(s.extract l h).data⟩ := rfl
  rw [this, e1, e2]

theorem sound_sliceS {A : T Value} {t : TypeId} {x : Operand} {lo hi mx : Option Operand} {u : Value} (ho : o.op = .slice t x lo hi mx) (hx : conc m u = some (ρ x))
    (hlo : ∀ y, lo = some y → conc m (ev A y) = some (ρ y)) (hhi : ∀ y, hi = some y → conc m (ev A y) = some (ρ y))
    (h : sliceS P t u (lo.map (ev A)) (hi.map (ev A)) (mx.map (ev A)) = some v) : PureDoes P m ρ o v := by
  unfold sliceS at h
  obtain ⟨a, h1, h2⟩ := ob_some h
  obtain ⟨b, h3, h4⟩ := ob_some h2
  clear h h2
  split at h4
  · rename_i s hu hmx
    obtain ⟨r, hr, h5⟩ := ob_some h4
    cases h5
    rw [conc_string] at hx
    have ex := (Option.some.inj hx).symm
    have emx : mx = none := by cases mx with | none => rfl | some _ => simp at hmx
    refine ⟨_, conc_string m _, fun w => ?_⟩
    have hb := bounds_run (P := P) (b := false) hr (optInt_rel hlo h1) (optInt_rel hhi h3) (cmx := none) trivial w
    obtain ⟨r1, r2, r3⟩ := r
    simp [execOp, ho, Instr.sliceAt, Instr.slice, run_underlying hu, ex, emx, hb, extract_eq]
  · cases h4

theorem args_conc {A : T Value} {l : List Operand} (h : ∀ x ∈ l, conc m (ev A x) = some (ρ x)) : concL m (l.map (ev A)) = some (l.map ρ) := concL_map (ev A) ρ l h

theorem sound_len {A : T Value} {c : Call} (ho : o.op = .call c) (hc : c.callee = .builtin .len) (ha : ∀ x ∈ c.args.toList, conc m (ev A x) = some (ρ x))
    (h : lenPure P c.argTypes.toList (c.args.toList.map (ev A)) = some v) : PureDoes P m ρ o v := by
  unfold lenPure at h
  obtain ⟨callee, args, argTypes⟩ := c
  obtain ⟨args⟩ := args
  obtain ⟨argTypes⟩ := argTypes
  simp only at hc ha h
  subst hc
  cases argTypes with
  | nil => cases h
  | cons t ts =>
    cases args with
    | nil => simp at h
    | cons x xs =>
      have hx := ha x (by simp)
      simp only [List.map_cons] at h
      split at h
      · rename_i s hu hs
        rw [hs, conc_string] at hx
        have ex := (Option.some.inj hx).symm
        cases h
        exact ⟨_, conc_int m _ _, fun w => by simp [execOp, ho, resolve, invoke, builtin, Builtin.len_, run_underlying hu, ex, goInt]⟩
      · rename_i n e hu
        cases h
        exact ⟨_, conc_int m _ _, fun w => by simp [execOp, ho, resolve, invoke, builtin, Builtin.len_, run_underlying hu, goInt]⟩
      · rename_i e a n c hu hs
        rw [hs] at hx
        cases h
        have ex : ∃ a' c', ρ x = .slice a' n c' := by
          match a, n, c, hx with
          | none, 0, 0, hx => exact ⟨none, 0, by simpa [conc] using hx.symm⟩
          | none, 0, _ + 1, hx => simp [conc] at hx
          | none, _ + 1, _, hx => simp [conc] at hx
          | some _, _, _, hx =>
            obtain ⟨a', c', e⟩ := conc_slice_some hx
            exact ⟨_, _, e⟩
        obtain ⟨a', c', ex⟩ := ex
        exact ⟨_, conc_int m _ _, fun w => by simp [execOp, ho, resolve, invoke, builtin, Builtin.len_, run_underlying hu, ex, goInt]⟩
      · cases h

theorem fold_min : ∀ (l : List Value) (u v : Value) (cl : List Value), foldV min2 u l = some v → (∃ k n, u = .int k n) → concL m l = some cl → ∀ w, (cl.foldlM Builtin.min2 u).run P w = .ok v w ∧ (∃ k n, v = .int k n)
  | [], u, v, cl, h, hu, hc, w => by simp [foldV] at h; subst h; simp at hc; subst hc; simpa using hu
  | x :: l, u, v, cl, h, hu, hc, w => by
    simp only [foldV] at h
    obtain ⟨y, hy, h⟩ := ob_some h
    obtain ⟨c, r, h1, h2, rfl⟩ := concL_cons hc
    obtain ⟨k, n, rfl⟩ := hu
    cases x with
    | int k' n' =>
      rw [conc_int] at h1
      cases h1
      simp only [min2] at hy
      cases hy
      have := fold_min l _ v r h ⟨k, _, rfl⟩ h2 w
      refine ⟨?_, this.2⟩
      have e : (if ltI n' n = true then n' else n) = if n' < n then n' else n := by rw [ltI_eq]; simp
      rw [e] at this
      simpa [List.foldlM_cons, Builtin.min2] using this.1
    | _ => simp [min2] at hy
theorem fold_max : ∀ (l : List Value) (u v : Value) (cl : List Value), foldV max2 u l = some v → (∃ k n, u = .int k n) → concL m l = some cl → ∀ w, (cl.foldlM Builtin.max2 u).run P w = .ok v w ∧ (∃ k n, v = .int k n)
  | [], u, v, cl, h, hu, hc, w => by simp [foldV] at h; subst h; simp at hc; subst hc; simpa using hu
  | x :: l, u, v, cl, h, hu, hc, w => by
    simp only [foldV] at h
    obtain ⟨y, hy, h⟩ := ob_some h
    obtain ⟨c, r, h1, h2, rfl⟩ := concL_cons hc
    obtain ⟨k, n, rfl⟩ := hu
    cases x with
    | int k' n' =>
      rw [conc_int] at h1
      cases h1
      simp only [max2] at hy
      cases hy
      have := fold_max l _ v r h ⟨k, _, rfl⟩ h2 w
      refine ⟨?_, this.2⟩
      have e : (if ltI n n' = true then n' else n) = if n' > n then n' else n := by rw [ltI_eq]; simp
      rw [e] at this
      simpa [List.foldlM_cons, Builtin.max2] using this.1
    | _ => simp [max2] at hy

theorem sound_min {A : T Value} {c : Call} (ho : o.op = .call c) (hc : c.callee = .builtin .min) (ha : ∀ x ∈ c.args.toList, conc m (ev A x) = some (ρ x))
    (h : minmaxV min2 (c.args.toList.map (ev A)) = some v) : PureDoes P m ρ o v := by
  obtain ⟨callee, args, argTypes⟩ := c
  obtain ⟨args⟩ := args
  simp only at hc ha h
  subst hc
  cases args with
  | nil => cases h
  | cons x xs =>
    simp only [List.map_cons, minmaxV] at h
    have hx := ha x (by simp)
    have hl := args_conc (A := A) (l := xs) (fun y hy => ha y (by simp [hy]))
    cases xs with
    | nil =>
      simp [foldV] at h
      subst h
      exact ⟨ρ x, hx, fun w => by simp [execOp, ho, resolve, invoke, builtin, Builtin.min_]⟩
    | cons y ys =>
      have hi : ∃ k n, ev A x = .int k n := by
        simp only [List.map_cons, foldV] at h
        obtain ⟨z, hz, _⟩ := ob_some h
        unfold min2 at hz
        split at hz
        · exact ⟨_, _, by assumption⟩
        · cases hz
      obtain ⟨k, n, e⟩ := hi
      rw [e, conc_int] at hx
      rw [e] at h
      have ex := (Option.some.inj hx).symm
      have := fun w => fold_min (P := P) (m := m) _ _ v _ h ⟨k, n, rfl⟩ hl w
      obtain ⟨k', n', rfl⟩ := (this default).2
      refine ⟨_, conc_int m _ _, fun w => ?_⟩
      have hw := (this w).1
      simp only [List.map_cons, List.foldlM_cons] at hw
      simp [execOp, ho, resolve, invoke, builtin, Builtin.min_, ex]
      simp at hw
      cases hr : (Builtin.min2 (.int k n) (ρ y)).run P w with
      | ok a w1 => rw [hr] at hw; simp only [Result.andThen_ok] at hw ⊢; rw [hw]; rfl
      | halt x w1 => rw [hr] at hw; simp [Result.andThen] at hw
    
theorem sound_max {A : T Value} {c : Call} (ho : o.op = .call c) (hc : c.callee = .builtin .max) (ha : ∀ x ∈ c.args.toList, conc m (ev A x) = some (ρ x))
    (h : minmaxV max2 (c.args.toList.map (ev A)) = some v) : PureDoes P m ρ o v := by
  obtain ⟨callee, args, argTypes⟩ := c
  obtain ⟨args⟩ := args
  simp only at hc ha h
  subst hc
  cases args with
  | nil => cases h
  | cons x xs =>
    simp only [List.map_cons, minmaxV] at h
    have hx := ha x (by simp)
    have hl := args_conc (A := A) (l := xs) (fun y hy => ha y (by simp [hy]))
    cases xs with
    | nil =>
      simp [foldV] at h
      subst h
      exact ⟨ρ x, hx, fun w => by simp [execOp, ho, resolve, invoke, builtin, Builtin.max_]⟩
    | cons y ys =>
      have hi : ∃ k n, ev A x = .int k n := by
        simp only [List.map_cons, foldV] at h
        obtain ⟨z, hz, _⟩ := ob_some h
        unfold max2 at hz
        split at hz
        · exact ⟨_, _, by assumption⟩
        · cases hz
      obtain ⟨k, n, e⟩ := hi
      rw [e, conc_int] at hx
      rw [e] at h
      have ex := (Option.some.inj hx).symm
      have := fun w => fold_max (P := P) (m := m) _ _ v _ h ⟨k, n, rfl⟩ hl w
      obtain ⟨k', n', rfl⟩ := (this default).2
      refine ⟨_, conc_int m _ _, fun w => ?_⟩
      have hw := (this w).1
      simp only [List.map_cons, List.foldlM_cons] at hw
      simp [execOp, ho, resolve, invoke, builtin, Builtin.max_, ex]
      simp at hw
      cases hr : (Builtin.max2 (.int k n) (ρ y)).run P w with
      | ok a w1 => rw [hr] at hw; simp only [Result.andThen_ok] at hw ⊢; rw [hw]; rfl
      | halt x w1 => rw [hr] at hw; simp [Result.andThen] at hw

theorem sym_mm {A : T Value} {c : Call} {op : SOp} {f : Value → Value → Option Value} (h : mmV op f (c.args.toList.map (ev A)) = some v) (ha : ∀ x ∈ c.args.toList, conc m (ev A x) = some (ρ x)) :
    minmaxV f (c.args.toList.map (ev A)) = some v ∨ ∃ a b, c.args = #[a, b] ∧ symV op (ev A a) (ev A b) = some v ∧ ρ a = con OVal.val (ev A a) ∧ ρ b = con OVal.val (ev A b) ∧ conc m v = some (con OVal.val v) := by
  obtain ⟨callee, args, argTypes⟩ := c
  obtain ⟨args⟩ := args
  simp only at ha h ⊢
  match args, ha, h with
  | [], _, h => exact .inl h
  | [a], _, h => exact .inl h
  | _ :: _ :: _ :: _, _, h => exact .inl h
  | [a, b], ha, h =>
    simp only [List.map_cons, List.map_nil, mmV] at h ⊢
    cases hs : (isSym (ev A a) || isSym (ev A b)) with
    | false => rw [hs, bsel_false] at h; exact .inl h
    | true =>
      rw [hs, bsel_true] at h
      obtain ⟨p1, p2, p3, _⟩ := symV_holds h
      have h1 := ha a (by simp)
      have h2 := ha b (by simp)
      rw [conc_plain m p1] at h1
      rw [conc_plain m p2] at h2
      exact .inr ⟨a, b, rfl, h, (Option.some.inj h1).symm, (Option.some.inj h2).symm, conc_plain m p3⟩
theorem mm_ints {x y v : Value} (h : min2 x y = some v ∨ max2 x y = some v) : ∃ k a k' b n, x = .int k a ∧ y = .int k' b ∧ v = .int k n := by
  rcases h with h | h
  · unfold min2 at h
    split at h
    · cases h; exact ⟨_, _, _, _, _, rfl, rfl, rfl⟩
    · cases h
  · unfold max2 at h
    split at h
    · cases h; exact ⟨_, _, _, _, _, rfl, rfl, rfl⟩
    · cases h
theorem sound_min' {A : T Value} {c : Call} (ho : o.op = .call c) (hc : c.callee = .builtin .min) (ha : ∀ x ∈ c.args.toList, conc m (ev A x) = some (ρ x))
    (h : mmV .min min2 (c.args.toList.map (ev A)) = some v) : PureDoes P m ρ o v := by
  rcases sym_mm h ha with h | ⟨a, b, he, h, e1, e2, e3⟩
  · exact sound_min ho hc ha h
  · obtain ⟨_, _, _, hh⟩ := symV_holds h
    have hh : min2 (con OVal.val (ev A a)) (con OVal.val (ev A b)) = some (con OVal.val v) := hh
    rw [← e1, ← e2] at hh
    obtain ⟨k, p, k', q, n, ex, ey, ev'⟩ := mm_ints (.inl hh)
    obtain ⟨callee, args, argTypes⟩ := c
    simp only at hc he
    subst hc
    subst he
    refine ⟨_, e3, fun w => ?_⟩
    have hw := (fold_min (P := P) (m := m) [ρ b] (ρ a) (con OVal.val v) [ρ b] (by simp only [foldV, hh]; rfl) ⟨k, p, ex⟩ (by rw [ey]; exact concL_cons' (conc_int m _ _) (concL_nil m)) w).1
    simp only [List.foldlM_cons, List.foldlM_nil] at hw
    simp [execOp, ho, resolve, invoke, builtin, Builtin.min_]
    simp at hw
    cases hr : (Builtin.min2 (ρ a) (ρ b)).run P w with
    | ok a w1 =>
      rw [hr] at hw
      simp only [Result.andThen_ok] at hw ⊢
      injection hw with q1 q2
      rw [q1, q2]
    | halt x w1 => rw [hr] at hw; simp at hw
theorem sound_max' {A : T Value} {c : Call} (ho : o.op = .call c) (hc : c.callee = .builtin .max) (ha : ∀ x ∈ c.args.toList, conc m (ev A x) = some (ρ x))
    (h : mmV .max max2 (c.args.toList.map (ev A)) = some v) : PureDoes P m ρ o v := by
  rcases sym_mm h ha with h | ⟨a, b, he, h, e1, e2, e3⟩
  · exact sound_max ho hc ha h
  · obtain ⟨_, _, _, hh⟩ := symV_holds h
    have hh : max2 (con OVal.val (ev A a)) (con OVal.val (ev A b)) = some (con OVal.val v) := hh
    rw [← e1, ← e2] at hh
    obtain ⟨k, p, k', q, n, ex, ey, ev'⟩ := mm_ints (.inr hh)
    obtain ⟨callee, args, argTypes⟩ := c
    simp only at hc he
    subst hc
    subst he
    refine ⟨_, e3, fun w => ?_⟩
    have hw := (fold_max (P := P) (m := m) [ρ b] (ρ a) (con OVal.val v) [ρ b] (by simp only [foldV, hh]; rfl) ⟨k, p, ex⟩ (by rw [ey]; exact concL_cons' (conc_int m _ _) (concL_nil m)) w).1
    simp only [List.foldlM_cons, List.foldlM_nil] at hw
    simp [execOp, ho, resolve, invoke, builtin, Builtin.max_]
    simp at hw
    cases hr : (Builtin.max2 (ρ a) (ρ b)).run P w with
    | ok a w1 =>
      rw [hr] at hw
      simp only [Result.andThen_ok] at hw ⊢
      injection hw with q1 q2
      rw [q1, q2]
    | halt x w1 => rw [hr] at hw; simp at hw

/-- EVERY OPERATION OF CLASS 0 -/
theorem pure_sound {A : T Value} (hops : ∀ x ∈ o.op.operands.toList, conc m (ev A x) = some (ρ x)) (h : evPure o.op P A = some v) : PureDoes P m ρ o v := by
  have hh : ∀ op, o.op = op → (∀ x ∈ op.operands.toList, conc m (ev A x) = some (ρ x)) → evPure op P A = some v → PureDoes P m ρ o v := by
    intro op ho hops h
    cases op with
    | move x => exact sound_move (.inl ho) (hops x (by simp [Op.operands])) h
    | assign x => exact sound_move (.inr ho) (hops x (by simp [Op.operands])) h
    | pick c a b => exact sound_pick ho (hops c (by simp [Op.operands])) (hops a (by simp [Op.operands])) (hops b (by simp [Op.operands])) h
    | build t ps => exact sound_build ho (fun p hp => hops p.2 (by simp only [Op.operands]; exact List.mem_map_of_mem (f := (·.2)) hp)) h
    | nilCheck x => exact sound_nilCheck ho (hops x (by simp [Op.operands])) h
    | binOp op t x y t2 => exact sound_binA ho (hops x (by simp [Op.operands])) (hops y (by simp [Op.operands])) h
    | makeInterface t x => exact sound_mkIface ho (hops x (by simp [Op.operands])) h
    | unOp op t x => exact sound_unOp ho (hops x (by simp [Op.operands])) h
    | makeFunc fn first cap => exact sound_makeFunc ho (fun x hx => hops x (by simp [Op.operands] at hx ⊢; exact .inl hx)) (fun x hx => hops x (by simp [Op.operands] at hx ⊢; exact .inr hx)) h
    | fieldAddr t x f => exact sound_fieldAddr ho (hops x (by simp [Op.operands])) h
    | field t x f => exact sound_field ho (hops x (by simp [Op.operands])) h
    | indexAddr t x i => exact sound_indexAddr ho (hops x (by simp [Op.operands])) (hops i (by simp [Op.operands])) h
    | index t x i => exact sound_index ho (hops x (by simp [Op.operands])) (hops i (by simp [Op.operands])) h
    | slice t x lo hi mx => exact sound_sliceS ho (hops x (by simp [Op.operands])) (fun y hy => hops y (by simp [Op.operands, hy])) (fun y hy => hops y (by simp [Op.operands, hy])) h
    | extract t i => exact sound_extract ho (hops t (by simp [Op.operands])) h
    | convert s d x => exact sound_convert ho (hops x (by simp [Op.operands])) h
    | call c =>
      have h : callPure P c A = some v := h
      have ha : ∀ x ∈ c.args.toList, conc m (ev A x) = some (ρ x) := fun x hx => hops x (by simp [Op.operands, Call.operands] at hx ⊢; exact .inr hx)
      unfold callPure at h
      split at h
      · rename_i hc; exact sound_len ho hc ha h
      · rename_i hc; exact sound_min' ho hc ha h
      · rename_i hc; exact sound_max' ho hc ha h
      · cases h
    | _ => cases h
  exact hh o.op rfl hops h
end Go.Ev
