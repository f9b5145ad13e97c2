/-
  A part of the proof that the evaluator answers what the model answers, for every program that follows mixed orders; no other condition.
-/
import Derived.Test.YtnfmgkkhejminaaGreatDoorEvBin
namespace Go.Ev
set_option linter.unusedSectionVars false
variable [OTab] [OVal]
variable {P : Program}

theorem asI_some {v : Value} {n : Int} (h : asI v = some n) : ∃ k, v = .int k n := by
  cases v with
  | int k q => cases h; exact ⟨k, rfl⟩
  | _ => cases h
theorem asB_some {v : Value} {b : Bool} (h : asB v = some b) : v = .bool b := by
  cases v with
  | bool q => cases h; rfl
  | _ => cases h
theorem asA_some {v : Value} {l : List Value} (h : asA v = some l) : v = .agg ⟨l⟩ := by
  cases v with
  | agg a => obtain ⟨a⟩ := a; simp [asA] at h; subst h; rfl
  | _ => cases h
theorem asT_some {v : Value} {l : List Value} (h : asT v = some l) : v = .tuple ⟨l⟩ := by
  cases v with
  | tuple a => obtain ⟨a⟩ := a; simp [asT] at h; subst h; rfl
  | _ => cases h
theorem cellsL_eq (v : Value) : cellsL v = v.cells.toList := by cases v <;> rfl

theorem eqGuard_other {op : BinOp} {t : TypeId} {x y : Operand} {a b : Value} (h1 : ¬ (a = .nilIface ∧ b = .nilIface)) (h2 : ¬ ((∃ u, a = .agg u) ∧ ∃ u, b = .agg u)) (w : World) :
    (eqGuard op t x y a b).run P w = .ok () w := by
  have key : (match a, b with
      | .nilIface, .nilIface => (do if (x matches .const _) || (y matches .const _) then return
                                    if ← Op.eqGuardIn Op.maxDepth t a b then unsupported (.noEntry "binop/eql: two nil values of an interface type with methods, neither of them the literal nil") : Sem Unit)
      | .agg _, .agg _ => (do if !(← program).eqGuardType (← program).depth t then return
                              if ← Op.eqGuardIn Op.maxDepth t a b then unsupported (.noEntry "binop/eql: two nil values of an interface type with methods, in a part of a struct or an array") : Sem Unit)
      | _, _ => (pure () : Sem Unit)).run P w = .ok () w := by
    split
    · exact absurd ⟨rfl, rfl⟩ h1
    · exact absurd ⟨⟨_, rfl⟩, ⟨_, rfl⟩⟩ h2
    · simp
  cases op <;> first | exact key | simp [eqGuard]

theorem intBin_sound {op : BinOp} {k : IntKind} {a b : Int} {v : Value} {t : TypeId} (h : intBin op k a b = some v) (w : World) :
    (binOp op t (.int k a) (.int k b)).run P w = .ok v w ∧ ∀ m, conc m v = some v := by
  have hi : ∀ n, ∀ m, conc m (.int k n) = some (.int k n) := fun n m => conc_int m k n
  have hb : ∀ n, ∀ m, conc m (.bool n) = some (.bool n) := fun n m => conc_bool m n
  cases op <;> simp only [intBin] at h <;> first | contradiction | skip
  case add => cases h; exact ⟨by rw [wrapF_eq]; simp [binOp, Op.intArith], hi _⟩
  case sub => cases h; exact ⟨by rw [wrapF_eq]; simp [binOp, Op.intArith]; rfl, hi _⟩
  case mul => cases h; exact ⟨by rw [wrapF_eq]; simp [binOp, Op.intArith], hi _⟩
  case quo =>
    split at h
    · cases h
    · rename_i hz
      cases h
      rw [eqI_eq] at hz
      have hb' : b ≠ 0 := by simpa using hz
      exact ⟨by simp [binOp, Op.intDiv, hb', wrapF_eq], hi _⟩
  case rem =>
    split at h
    · cases h
    · rename_i hz
      cases h
      rw [eqI_eq] at hz
      have hb' : b ≠ 0 := by simpa using hz
      exact ⟨by simp [binOp, Op.intDiv, hb'], hi _⟩
  case and => cases h; exact ⟨by simp [binOp, Op.intBits], hi _⟩
  case or => cases h; exact ⟨by simp [binOp, Op.intBits], hi _⟩
  case xor => cases h; exact ⟨by simp [binOp, Op.intBits], hi _⟩
  case andNot => cases h; exact ⟨by simp [binOp, Op.intBits], hi _⟩
  case eql => cases h; exact ⟨by simp [binOp, Op.intCmp, eqI_eq], hb _⟩
  case neq => cases h; exact ⟨by simp [binOp, Op.intCmp, eqI_eq, bne], hb _⟩
  case lss => cases h; exact ⟨by simp [binOp, Op.intCmp, ltI_eq], hb _⟩
  case leq => cases h; exact ⟨by simp [binOp, Op.intCmp, ltI_eq, ← decide_not, Int.not_lt], hb _⟩
  case gtr => cases h; exact ⟨by simp [binOp, Op.intCmp, ltI_eq], hb _⟩
  case geq => cases h; exact ⟨by simp [binOp, Op.intCmp, ltI_eq, ← decide_not, Int.not_lt], hb _⟩

theorem shiftBin_sound {op : BinOp} {k k' : IntKind} {a b : Int} {v : Value} {t : TypeId} (ho : op = .shl ∨ op = .shr) (h : shiftBin op k a b = some v) (w : World) :
    (binOp op t (.int k a) (.int k' b)).run P w = .ok v w ∧ ∀ m, conc m v = some v := by
  unfold shiftBin at h
  split at h
  · cases h
  · rename_i hb
    rw [ltI_eq] at hb
    have hb' : ¬ b < 0 := by simpa using hb
    rcases ho with rfl | rfl <;> cases h <;> exact ⟨by simp [binOp, Op.shift, hb'], fun m => conc_int m _ _⟩

theorem strBin_sound {op : BinOp} {a b : ByteArray} {v : Value} {t : TypeId} (h : strBin op a b = some v) (w : World) :
    (binOp op t (.string a) (.string b)).run P w = .ok v w ∧ ∀ m, conc m v = some v := by
  have hd : ∀ x : ByteArray, x.toList = x.data.toList := ByteArray.toList_eq
  cases op <;> simp only [strBin] at h <;> first | contradiction | skip
  case add =>
    split at h
    · rename_i hs
      cases h
      refine ⟨?_, fun m => conc_string m _⟩
      have hmax : IntKind.i64.max = 9223372036854775807 := by decide
      have : ¬ (((a.size + b.size : Nat) : Int) > IntKind.i64.max) := by rw [hmax]; omega
      simp only [binOp, Op.stringOp]
      rw [if_neg this]
      have e : a ++ b = ⟨⟨a.data.toList ++ b.data.toList⟩⟩ := by
        have h1 : (a ++ b).data = a.data ++ b.data := ByteArray.data_append
        have h2 : a.data ++ b.data = ⟨a.data.toList ++ b.data.toList⟩ := by
          apply Array.ext'
          simp
        have : a ++ b = ⟨(a ++ b).data⟩ := rfl
        rw [this, h1, h2]
      rw [e]; simp
    · cases h
  all_goals (cases h; exact ⟨by simp [binOp, Op.stringOp, hd], fun m => conc_bool m _⟩)

theorem conc_func_shape {m : Map} {fn : Fn} {a c : Array Value} {v : Value} (h : conc m (.func fn a c) = some v) : ∃ fn' a' c', v = .func fn' a' c' := by
  obtain ⟨a⟩ := a
  obtain ⟨c⟩ := c
  cases fn with
  | func f => simp only [conc] at h; split at h <;> cases h; exact ⟨_, _, _, rfl⟩
  | method f => simp only [conc] at h; split at h <;> cases h; exact ⟨_, _, _, rfl⟩
  | yield l =>
    match a, c, h with
    | [], [], h => simp only [conc, Option.map_eq_some_iff] at h; obtain ⟨z, _, rfl⟩ := h; exact ⟨_, _, _, rfl⟩
    | _ :: _, _, h => simp [conc] at h
    | [], _ :: _, h => simp [conc] at h
  | _ => simp [conc] at h
theorem conc_ptr_shape {m : Map} {a : Option Addr} {v : Value} (h : conc m (.pointer a) = some v) : ∃ a', v = .pointer a' := by
  cases a with
  | none => exact ⟨none, by simpa [conc] using h.symm⟩
  | some a => obtain ⟨_, _, _, rfl⟩ := conc_pointer h; exact ⟨_, rfl⟩

theorem scalB_sound {op : BinOp} {t : TypeId} {x y cv : Value} (h : scalB op x y = some cv) :
    (∀ w, (binOp op t x y).run P w = .ok cv w) ∧ ¬ (x = .nilIface ∧ y = .nilIface) ∧ ¬ ((∃ u, x = .agg u) ∧ ∃ u, y = .agg u) := by
  unfold scalB at h
  split at h
  · refine ⟨fun w => ?_, by simp, by simp⟩
    unfold binII at h
    split at h
    · exact (shiftBin_sound (.inl rfl) h w).1
    · exact (shiftBin_sound (.inr rfl) h w).1
    · obtain ⟨hk, h'⟩ := gd_some h
      have hk' : _ = _ := of_decide_eq_true hk
      subst hk'
      exact (intBin_sound h' w).1
  · exact ⟨fun w => (strBin_sound h w).1, by simp, by simp⟩
  · cases h

theorem sound_binOp {m : Map} {ρ : Operand → Value} {o : Oper} {op : BinOp} {t t2 : TypeId} {x y : Operand} {u z v : Value} (ho : o.op = .binOp op t x y t2)
    (hx : conc m u = some (ρ x)) (hy : conc m z = some (ρ y)) (h : binV P op t u z = some v) : PureDoes P m ρ o v := by
  have key : ∀ cv, conc m v = some cv → (∀ w, (eqGuard op t x y (ρ x) (ρ y)).run P w = .ok () w) → (∀ w, (binOp op t (ρ x) (ρ y)).run P w = .ok cv w) → PureDoes P m ρ o v := fun cv h1 h2 h3 =>
    ⟨cv, h1, fun w => by simp [execOp, ho, h2, h3]⟩
  have eqo : ∀ d, d ≤ 20 → eqOnly P d op t u z = some v → (∀ w, (eqGuard op t x y (ρ x) (ρ y)).run P w = .ok () w) →
      (∀ w, (binOp .eql t (ρ x) (ρ y)).run P w = ((Op.equal t (ρ x) (ρ y)).run P w).andThen fun r w' => .ok (.bool r) w') →
      (∀ w, (binOp .neq t (ρ x) (ρ y)).run P w = ((Op.equal t (ρ x) (ρ y)).run P w).andThen fun r w' => .ok (.bool !r) w') → PureDoes P m ρ o v := by
    intro d hd h hg he hn
    unfold eqOnly at h
    split at h
    · obtain ⟨b, hb, h⟩ := ob_some h
      cases h
      have hrun := fun w => eqV_sound (m := m) d t _ _ _ _ b hb hx hy Op.maxDepth w (by unfold Op.maxDepth; omega)
      exact key (.bool b) (conc_bool m b) hg (fun w => by rw [he]; unfold Op.equal; rw [hrun]; rfl)
    · obtain ⟨b, hb, h⟩ := ob_some h
      cases h
      have hrun := fun w => eqV_sound (m := m) d t _ _ _ _ b hb hx hy Op.maxDepth w (by unfold Op.maxDepth; omega)
      exact key (.bool !b) (conc_bool m _) hg (fun w => by rw [hn]; unfold Op.equal; rw [hrun]; rfl)
    · cases h
  have fin : ∀ a c : Value, ρ x = a → ρ y = c → eqOnly P 1 op t u z = some v → ¬ (a = .nilIface ∧ c = .nilIface) → ¬ ((∃ u, a = .agg u) ∧ ∃ u, c = .agg u) →
      (∀ w, (binOp .eql t a c).run P w = ((Op.equal t a c).run P w).andThen fun r w' => .ok (.bool r) w') → (∀ w, (binOp .neq t a c).run P w = ((Op.equal t a c).run P w).andThen fun r w' => .ok (.bool !r) w') → PureDoes P m ρ o v := by
    intro a c ea ec h g1 g2 g3 g4
    exact eqo 1 (by omega) h (fun w => by rw [ea, ec]; exact eqGuard_other g1 g2 w) (by rw [ea, ec]; exact g3) (by rw [ea, ec]; exact g4)
  have hsym : symV (.bin op) u z = some v → PureDoes P m ρ o v := by
    intro h
    obtain ⟨p1, p2, p3, hh⟩ := symV_holds h
    have hh : scalB op (con OVal.val u) (con OVal.val z) = some (con OVal.val v) := hh
    rw [conc_plain m p1] at hx
    rw [conc_plain m p2] at hy
    have e1 := (Option.some.inj hx).symm
    have e2 := (Option.some.inj hy).symm
    obtain ⟨g1, g2, g3⟩ := scalB_sound (P := P) (t := t) hh
    exact key _ (conc_plain m p3) (fun w => by rw [e1, e2]; exact eqGuard_other g2 g3 w) (fun w => by rw [e1, e2]; exact g1 w)
  have hrest : binRest P op t u z = some v → PureDoes P m ρ o v := by
    intro h
    unfold binRest at h
    split at h
    · rw [conc_string] at hx hy
      have e1 := (Option.some.inj hx).symm
      have e2 := (Option.some.inj hy).symm
      refine key v ((strBin_sound (P := P) (t := t) h default).2 m) (fun w => ?_) (fun w => ?_)
      · rw [e1, e2]; exact eqGuard_other (by simp) (by simp) w
      · rw [e1, e2]; exact (strBin_sound h w).1
    · exact hsym h
    · obtain ⟨hg, h⟩ := gd_some h
      obtain ⟨xs', hx', e1⟩ := conc_agg hx
      obtain ⟨ys', hy', e2⟩ := conc_agg hy
      refine eqo 20 (by omega) h (fun w => by rw [e1, e2]; exact run_eqGuard_agg w op t x y _ _ (by simpa using hg)) (fun w => ?_) (fun w => ?_)
      · rw [e1, e2]; simp [binOp]
      · rw [e1, e2]; simp [binOp]
    · obtain ⟨_, ex⟩ := conc_ptr_shape hx
      obtain ⟨_, ey⟩ := conc_ptr_shape hy
      exact fin _ _ ex ey h (by simp) (by simp) (fun w => by simp [binOp]) (fun w => by simp [binOp])
    · rw [conc_bool] at hx hy
      exact fin _ _ (Option.some.inj hx).symm (Option.some.inj hy).symm h (by simp) (by simp) (fun w => by simp [binOp]) (fun w => by simp [binOp])
    · obtain ⟨_, _, _, ex⟩ := conc_slice_shape hx
      obtain ⟨_, _, _, ey⟩ := conc_slice_shape hy
      exact fin _ _ ex ey h (by simp) (by simp) (fun w => by simp [binOp]) (fun w => by simp [binOp])
    · obtain ⟨_, ex⟩ := conc_map_shape hx
      obtain ⟨_, ey⟩ := conc_map_shape hy
      exact fin _ _ ex ey h (by simp) (by simp) (fun w => by simp [binOp]) (fun w => by simp [binOp])
    · have ex : ρ x = .nilFunc := by simpa [conc] using hx.symm
      have ey : ρ y = .nilFunc := by simpa [conc] using hy.symm
      exact fin _ _ ex ey h (by simp) (by simp) (fun w => by simp [binOp]) (fun w => by simp [binOp])
    · have ex : ρ x = .nilFunc := by simpa [conc] using hx.symm
      obtain ⟨_, _, _, ey⟩ := conc_func_shape hy
      exact fin _ _ ex ey h (by simp) (by simp) (fun w => by simp [binOp]) (fun w => by simp [binOp])
    · have ey : ρ y = .nilFunc := by simpa [conc] using hy.symm
      obtain ⟨_, _, _, ex⟩ := conc_func_shape hx
      exact fin _ _ ex ey h (by simp) (by simp) (fun w => by simp [binOp]) (fun w => by simp [binOp])
    · cases h
  cases u with
  | int k a =>
    have h : binY k a op z = some v := h
    cases z with
    | int k' b =>
      have h : binII op k a k' b = some v := h
      rw [conc_int] at hx hy
      have e1 := (Option.some.inj hx).symm
      have e2 := (Option.some.inj hy).symm
      have hg : ∀ w, (eqGuard op t x y (ρ x) (ρ y)).run P w = .ok () w := fun w => by rw [e1, e2]; exact eqGuard_other (by simp) (by simp) w
      unfold binII at h
      split at h
      · exact key v ((shiftBin_sound (P := P) (t := t) (k' := k') (.inl rfl) h default).2 m) hg (fun w => by rw [e1, e2]; exact (shiftBin_sound (.inl rfl) h w).1)
      · exact key v ((shiftBin_sound (P := P) (t := t) (k' := k') (.inr rfl) h default).2 m) hg (fun w => by rw [e1, e2]; exact (shiftBin_sound (.inr rfl) h w).1)
      · obtain ⟨hk, h'⟩ := gd_some h
        have hk' : k = k' := by simpa [kindEq] using hk
        subst hk'
        exact key v ((intBin_sound (P := P) (t := t) h' default).2 m) hg (fun w => by rw [e1, e2]; exact (intBin_sound h' w).1)
    | float q i => exact hsym h
    | _ => cases h
  | float q i => exact hsym h
  | _ => exact hrest h
theorem run_equal_nn {t : TypeId} {ms : Array (String × TypeId)} (hu : P.underlying t = some (.interface ms)) (w : World) : (Op.equal t .nilIface .nilIface).run P w = .ok true w := by
  show (Op.equalIn (9999 + 1) t .nilIface .nilIface).run P w = _
  unfold Op.equalIn
  simp [Sem.run_bind, run_underlying hu]
theorem run_equal_ni {t t' : TypeId} {u : Value} {ms : Array (String × TypeId)} (hu : P.underlying t = some (.interface ms)) (w : World) : (Op.equal t .nilIface (.iface t' u)).run P w = .ok false w := by
  show (Op.equalIn (9999 + 1) t .nilIface (.iface t' u)).run P w = _
  unfold Op.equalIn
  simp [Sem.run_bind, run_underlying hu]
theorem run_equal_in {t t' : TypeId} {u : Value} {ms : Array (String × TypeId)} (hu : P.underlying t = some (.interface ms)) (w : World) : (Op.equal t (.iface t' u) .nilIface).run P w = .ok false w := by
  show (Op.equalIn (9999 + 1) t (.iface t' u) .nilIface).run P w = _
  unfold Op.equalIn
  simp [Sem.run_bind, run_underlying hu]
theorem eqGuard_const {op : BinOp} {t : TypeId} {x y : Operand} (hc : (isConst x || isConst y) = true) (w : World) : (eqGuard op t x y .nilIface .nilIface).run P w = .ok () w := by
  cases x <;> cases y <;> first
    | exact absurd (show false = true from hc) (by simp)
    | (cases op <;> simp [eqGuard])
theorem sound_nilCmp {m : Map} {ρ : Operand → Value} {o : Oper} {op : BinOp} {t t2 : TypeId} {x y : Operand} {u z v : Value} (ho : o.op = .binOp op t x y t2)
    (hc : (isConst x || isConst y) = true) (hx : conc m u = some (ρ x)) (hy : conc m z = some (ρ y)) (h : nilCmp P op t u z = some v) : PureDoes P m ρ o v := by
  obtain ⟨hi, h⟩ := gd_some h
  obtain ⟨ms, hu⟩ : ∃ ms, P.underlying t = some (.interface ms) := by
    unfold ifaceT at hi
    split at hi
    · rename_i ms hu; exact ⟨ms, hu⟩
    · cases hi
  have fin : ∀ b : Bool, nilEq op b = some v → (∀ w, (Op.equal t (ρ x) (ρ y)).run P w = .ok b w) → (∀ w, (eqGuard op t x y (ρ x) (ρ y)).run P w = .ok () w) →
      (∀ w, (binOp .eql t (ρ x) (ρ y)).run P w = ((Op.equal t (ρ x) (ρ y)).run P w).andThen fun r w' => .ok (.bool r) w') → (∀ w, (binOp .neq t (ρ x) (ρ y)).run P w = ((Op.equal t (ρ x) (ρ y)).run P w).andThen fun r w' => .ok (.bool !r) w') → PureDoes P m ρ o v := by
    intro b hb h1 h2 h3 h4
    unfold nilEq at hb
    split at hb
    · cases hb
      exact ⟨.bool b, conc_bool m b, fun w => by simp [execOp, ho, h2, h3, h1]⟩
    · cases hb
      exact ⟨.bool !b, conc_bool m _, fun w => by simp [execOp, ho, h2, h4, h1]⟩
    · cases hb
  split at h
  · have ex : ρ x = .nilIface := by simpa [conc] using hx.symm
    have ey : ρ y = .nilIface := by simpa [conc] using hy.symm
    refine fin true h (fun w => ?_) (fun w => ?_) (fun w => ?_) (fun w => ?_)
    · rw [ex, ey]; exact run_equal_nn hu w
    · rw [ex, ey]
      exact eqGuard_const hc w
    · rw [ex, ey]; simp [binOp]
    · rw [ex, ey]; simp [binOp]
  · rename_i t' v' _
    have ex : ρ x = .nilIface := by simpa [conc] using hx.symm
    obtain ⟨cv, _, ey⟩ : ∃ cv, conc m v' = some cv ∧ .iface t' cv = ρ y := by simpa [conc] using hy
    refine fin false h (fun w => ?_) (fun w => ?_) (fun w => ?_) (fun w => ?_)
    · rw [ex, ← ey]; exact run_equal_ni hu w
    · rw [ex, ← ey]; exact eqGuard_other (by simp) (by simp) w
    · rw [ex, ← ey]; simp [binOp]
    · rw [ex, ← ey]; simp [binOp]
  · rename_i t' v' _
    have ey : ρ y = .nilIface := by simpa [conc] using hy.symm
    obtain ⟨cv, _, ex⟩ : ∃ cv, conc m v' = some cv ∧ .iface t' cv = ρ x := by simpa [conc] using hx
    refine fin false h (fun w => ?_) (fun w => ?_) (fun w => ?_) (fun w => ?_)
    · rw [← ex, ey]; exact run_equal_in hu w
    · rw [← ex, ey]; exact eqGuard_other (by simp) (by simp) w
    · rw [← ex, ey]; simp [binOp]
    · rw [← ex, ey]; simp [binOp]
  · cases h
theorem sound_binA {m : Map} {ρ : Operand → Value} {o : Oper} {op : BinOp} {t t2 : TypeId} {x y : Operand} {u z v : Value} (ho : o.op = .binOp op t x y t2)
    (hx : conc m u = some (ρ x)) (hy : conc m z = some (ρ y)) (h : binA (isConst x || isConst y) P op t u z = some v) : PureDoes P m ρ o v := by
  unfold binA at h
  cases hc : (isConst x || isConst y) with
  | false => rw [hc] at h; exact sound_binOp ho hx hy h
  | true =>
    rw [hc] at h
    have h' : alt (binV P op t u z) (nilCmp P op t u z) = some v := h
    cases hb : binV P op t u z with
    | none => rw [hb] at h'; exact sound_nilCmp ho hc hx hy h'
    | some v' => rw [hb] at h'; cases h'; exact sound_binOp ho hx hy hb
theorem sound_mkIface {m : Map} {ρ : Operand → Value} {o : Oper} {t : TypeId} {x : Operand} {u v : Value} (ho : o.op = .makeInterface t x) (hx : conc m u = some (ρ x)) (h : mkIface P t u = some v) : PureDoes P m ρ o v := by
  unfold mkIface at h
  split at h
  · cases h
  · rename_i d hn hu
    cases h
    refine ⟨.iface t (ρ x), by simp [conc, hx], fun w => ?_⟩
    have hr : (Instr.makeInterface t (ρ x)).run P w = .ok (.iface t (ρ x)) w := by
      unfold Instr.makeInterface
      rw [Sem.run_bind, run_underlying hu]
      cases d <;> first | rfl | (exact absurd rfl (hn _)) 
    simp [execOp, ho, hr]
  · cases h
end Go.Ev
