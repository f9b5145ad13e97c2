/-
  A part of the proof that the evaluator answers what the model answers, for every program that follows mixed orders; no other condition.
-/
import Derived.Test.YtnfmgkkhejminaaGreatDoorEvPure3
namespace Go.Ev
set_option linter.unusedSectionVars false
variable [OTab] [OVal]
variable {P : Program} {m : Map} {ρ : Operand → Value} {o : Oper} {v : Value}

/-- an index operand on both sides -/
def OptRel (a : Option Int) (c : Option Value) : Prop :=
  match a, c with
  | none, none => True
  | some n, some (.int _ n') => n' = n
  | _, _ => False
theorem optInt_rel {A : T Value} {x : Option Operand} {a : Option Int} (hx : ∀ y, x = some y → conc m (ev A y) = some (ρ y)) (h : optInt (x.map (ev A)) = some a) : OptRel a (x.map ρ) := by
  cases x with
  | none => simp [optInt] at h; subst h; exact trivial
  | some y =>
    simp only [Option.map_some, optInt] at h
    obtain ⟨n, hn, h⟩ := ob_some h
    cases h
    obtain ⟨k, hk⟩ := asI_some hn
    have := hx y rfl
    rw [hk, conc_int] at this
    have e := (Option.some.inj this).symm
    simp [OptRel, e]

theorem bound1_run {y n : Nat} {v : Int} {c : Value} {code : BoundsCode} (h : bound1 y v = some n) (hc : OptRel (some v) (some c)) (w : World) : (Instr.sliceBound c y code).run P w = .ok n w := by
  unfold bound1 at h
  cases c with
  | int k n' =>
    simp only [OptRel] at hc
    subst hc
    split at h
    · cases h
    · rename_i h0
      rw [ltI_eq] at h0
      split at h
      · rename_i h1
        cases h
        have h0' : 0 ≤ n' := by simp at h0; omega
        have h1' : n' ≤ (y : Int) := by have := Nat.le_of_ble_eq_true h1; omega
        simp [Instr.sliceBound, asIntOf, h0', h1']
      · cases h
  | _ => exact hc.elim

theorem bounds_run {len cap : Nat} {lo hi mx : Option Int} {clo chi cmx : Option Value} {r : Nat × Nat × Nat} {b : Bool} (h : boundsOf len cap lo hi mx = some r)
    (hl : OptRel lo clo) (hh : OptRel hi chi) (hm : OptRel mx cmx) (w : World) : (Instr.sliceBounds b len cap clo chi cmx).run P w = .ok r w := by
  unfold boundsOf at h
  obtain ⟨m', h1, h2⟩ := ob_some h
  obtain ⟨h', h3, h4⟩ := ob_some h2
  obtain ⟨l', h5, h6⟩ := ob_some h4
  clear h h2 h4
  cases h6
  have ex : ∀ {n : Int} {c : Option Value}, OptRel (some n) c → ∃ d, c = some d ∧ OptRel (some n) (some d) := fun {n c} h => by
    cases c with
    | none => exact h.elim
    | some d => exact ⟨d, rfl, h⟩
  have en : ∀ {c : Option Value}, OptRel none c → c = none := fun {c} h => by
    cases c with
    | none => rfl
    | some d => exact h.elim
  cases mx with
  | none =>
    have := en hm; subst this
    simp [boundsM] at h1; subst h1
    cases hi with
    | none =>
      have := en hh; subst this
      simp [boundsH] at h3; subst h3
      cases lo with
      | none => have := en hl; subst this; simp [boundsL] at h5; subst h5; simp [Instr.sliceBounds]
      | some n => obtain ⟨d, rfl, hd⟩ := ex hl; have f := fun code => bound1_run (P := P) (code := code) h5 hd w; simp [Instr.sliceBounds, f]
    | some n =>
      obtain ⟨c, rfl, hc⟩ := ex hh
      have g := fun code => bound1_run (P := P) (code := code) h3 hc w
      cases lo with
      | none => have := en hl; subst this; simp [boundsL] at h5; subst h5; simp [Instr.sliceBounds, g]
      | some n => obtain ⟨d, rfl, hd⟩ := ex hl; have f := fun code => bound1_run (P := P) (code := code) h5 hd w; simp [Instr.sliceBounds, g, f]
  | some n =>
    obtain ⟨q, rfl, hq⟩ := ex hm
    have k := fun code => bound1_run (P := P) (code := code) h1 hq w
    cases hi with
    | none => simp [boundsH] at h3
    | some n =>
      obtain ⟨c, rfl, hc⟩ := ex hh
      have g := fun code => bound1_run (P := P) (code := code) h3 hc w
      cases lo with
      | none => have := en hl; subst this; simp [boundsL] at h5; subst h5; simp [Instr.sliceBounds, k, g]
      | some n => obtain ⟨d, rfl, hd⟩ := ex hl; have f := fun code => bound1_run (P := P) (code := code) h5 hd w; simp [Instr.sliceBounds, k, g, f]

theorem bounds_le {len cap : Nat} {lo hi mx : Option Int} {r : Nat × Nat × Nat} (h : boundsOf len cap lo hi mx = some r) (hlc : len ≤ cap) : r.1 ≤ r.2.1 ∧ r.2.1 ≤ r.2.2 ∧ r.2.2 ≤ cap := by
  have b1 : ∀ {y n : Nat} {v : Int}, bound1 y v = some n → n ≤ y := fun {y n v} h => by
    unfold bound1 at h
    split at h
    · cases h
    · split at h
      · rename_i h1; cases h; exact Nat.le_of_ble_eq_true h1
      · cases h
  unfold boundsOf at h
  obtain ⟨m', h1, h2⟩ := ob_some h
  obtain ⟨h', h3, h4⟩ := ob_some h2
  obtain ⟨l', h5, h6⟩ := ob_some h4
  cases h6
  have m1 : m' ≤ cap ∧ (mx = none → m' = cap) := by
    cases mx with
    | none => simp [boundsM] at h1; exact ⟨by omega, fun _ => h1.symm⟩
    | some n => exact ⟨b1 h1, fun e => by cases e⟩
  have m2 : h' ≤ m' := by
    cases hi with
    | some n => exact b1 h3
    | none => cases mx with
      | none => simp [boundsH] at h3; have := m1.2 rfl; omega
      | some n => simp [boundsH] at h3
  have m3 : l' ≤ h' := by
    cases lo with
    | none => simp [boundsL] at h5; omega
    | some n => exact b1 h5
  exact ⟨m3, m2, m1.1⟩

theorem extract_eq (s : ByteArray) (l h : Nat) : s.extract l h = ⟨⟨(s.data.toList.drop l).take (h - l)⟩⟩ := by
  have e1 : (s.extract l h).data = s.data.extract l h := ByteArray.data_extract
  have e2 : s.data.extract l h = ⟨(s.data.toList.drop l).take (h - l)⟩ := by
    apply Array.ext'
    simp [List.extract_eq_take_drop]
  have : s.extract l h = ⟨(s.extract l h).data⟩ := rfl
  rw [this, e1, e2]

theorem sound_sliceS {A : T Value} {t : TypeId} {x : Operand} {lo hi mx : Option Operand} {u : Value} (ho : o.op = .slice t x lo hi mx) (hx : conc m u = some (ρ x))
    (hlo : ∀ y, lo = some y → conc m (ev A y) = some (ρ y)) (hhi : ∀ y, hi = some y → conc m (ev A y) = some (ρ y))
    (h : sliceS P t u (lo.map (ev A)) (hi.map (ev A)) (mx.map (ev A)) = some v) : PureDoes P m ρ o v := by
  unfold sliceS at h
  obtain ⟨a, h1, h2⟩ := ob_some h
  obtain ⟨b, h3, h4⟩ := ob_some h2
  clear h h2
  split at h4
  · rename_i s hu hmx
    obtain ⟨r, hr, h5⟩ := ob_some h4
    cases h5
    rw [conc_string] at hx
    have ex := (Option.some.inj hx).symm
    have emx : mx = none := by cases mx with | none => rfl | some _ => simp at hmx
    refine ⟨_, conc_string m _, fun w => ?_⟩
    have hb := bounds_run (P := P) (b := false) hr (optInt_rel hlo h1) (optInt_rel hhi h3) (cmx := none) trivial w
    obtain ⟨r1, r2, r3⟩ := r
    simp [execOp, ho, Instr.sliceAt, Instr.slice, run_underlying hu, ex, emx, hb, extract_eq]
  · cases h4

theorem args_conc {A : T Value} {l : List Operand} (h : ∀ x ∈ l, conc m (ev A x) = some (ρ x)) : concL m (l.map (ev A)) = some (l.map ρ) := concL_map (ev A) ρ l h

theorem sound_len {A : T Value} {c : Call} (ho : o.op = .call c) (hc : c.callee = .builtin .len) (ha : ∀ x ∈ c.args.toList, conc m (ev A x) = some (ρ x))
    (h : lenPure P c.argTypes.toList (c.args.toList.map (ev A)) = some v) : PureDoes P m ρ o v := by
  unfold lenPure at h
  obtain ⟨callee, args, argTypes⟩ := c
  obtain ⟨args⟩ := args
  obtain ⟨argTypes⟩ := argTypes
  simp only at hc ha h
  subst hc
  cases argTypes with
  | nil => cases h
  | cons t ts =>
    cases args with
    | nil => simp at h
    | cons x xs =>
      have hx := ha x (by simp)
      simp only [List.map_cons] at h
      split at h
      · rename_i s hu hs
        rw [hs, conc_string] at hx
        have ex := (Option.some.inj hx).symm
        cases h
        exact ⟨_, conc_int m _ _, fun w => by simp [execOp, ho, resolve, invoke, builtin, Builtin.len_, run_underlying hu, ex, goInt]⟩
      · rename_i n e hu
        cases h
        exact ⟨_, conc_int m _ _, fun w => by simp [execOp, ho, resolve, invoke, builtin, Builtin.len_, run_underlying hu, goInt]⟩
      · rename_i e a n c hu hs
        rw [hs] at hx
        cases h
        have ex : ∃ a' c', ρ x = .slice a' n c' := by
          match a, n, c, hx with
          | none, 0, 0, hx => exact ⟨none, 0, by simpa [conc] using hx.symm⟩
          | none, 0, _ + 1, hx => simp [conc] at hx
          | none, _ + 1, _, hx => simp [conc] at hx
          | some _, _, _, hx =>
            obtain ⟨a', c', e⟩ := conc_slice_some hx
            exact ⟨_, _, e⟩
        obtain ⟨a', c', ex⟩ := ex
        exact ⟨_, conc_int m _ _, fun w => by simp [execOp, ho, resolve, invoke, builtin, Builtin.len_, run_underlying hu, ex, goInt]⟩
      · cases h

theorem fold_min : ∀ (l : List Value) (u v : Value) (cl : List Value), foldV min2 u l = some v → (∃ k n, u = .int k n) → concL m l = some cl → ∀ w, (cl.foldlM Builtin.min2 u).run P w = .ok v w ∧ (∃ k n, v = .int k n)
  | [], u, v, cl, h, hu, hc, w => by simp [foldV] at h; subst h; simp at hc; subst hc; simpa using hu
  | x :: l, u, v, cl, h, hu, hc, w => by
    simp only [foldV] at h
    obtain ⟨y, hy, h⟩ := ob_some h
    obtain ⟨c, r, h1, h2, rfl⟩ := concL_cons hc
    obtain ⟨k, n, rfl⟩ := hu
    cases x with
    | int k' n' =>
      rw [conc_int] at h1
      cases h1
      simp only [min2] at hy
      cases hy
      have := fold_min l _ v r h ⟨k, _, rfl⟩ h2 w
      refine ⟨?_, this.2⟩
      have e : (if ltI n' n = true then n' else n) = if n' < n then n' else n := by rw [ltI_eq]; simp
      rw [e] at this
      simpa [List.foldlM_cons, Builtin.min2] using this.1
    | _ => simp [min2] at hy
theorem fold_max : ∀ (l : List Value) (u v : Value) (cl : List Value), foldV max2 u l = some v → (∃ k n, u = .int k n) → concL m l = some cl → ∀ w, (cl.foldlM Builtin.max2 u).run P w = .ok v w ∧ (∃ k n, v = .int k n)
  | [], u, v, cl, h, hu, hc, w => by simp [foldV] at h; subst h; simp at hc; subst hc; simpa using hu
  | x :: l, u, v, cl, h, hu, hc, w => by
    simp only [foldV] at h
    obtain ⟨y, hy, h⟩ := ob_some h
    obtain ⟨c, r, h1, h2, rfl⟩ := concL_cons hc
    obtain ⟨k, n, rfl⟩ := hu
    cases x with
    | int k' n' =>
      rw [conc_int] at h1
      cases h1
      simp only [max2] at hy
      cases hy
      have := fold_max l _ v r h ⟨k, _, rfl⟩ h2 w
      refine ⟨?_, this.2⟩
      have e : (if ltI n n' = true then n' else n) = if n' > n then n' else n := by rw [ltI_eq]; simp
      rw [e] at this
      simpa [List.foldlM_cons, Builtin.max2] using this.1
    | _ => simp [max2] at hy

theorem sound_min {A : T Value} {c : Call} (ho : o.op = .call c) (hc : c.callee = .builtin .min) (ha : ∀ x ∈ c.args.toList, conc m (ev A x) = some (ρ x))
    (h : minmaxV min2 (c.args.toList.map (ev A)) = some v) : PureDoes P m ρ o v := by
  obtain ⟨callee, args, argTypes⟩ := c
  obtain ⟨args⟩ := args
  simp only at hc ha h
  subst hc
  cases args with
  | nil => cases h
  | cons x xs =>
    simp only [List.map_cons, minmaxV] at h
    have hx := ha x (by simp)
    have hl := args_conc (A := A) (l := xs) (fun y hy => ha y (by simp [hy]))
    cases xs with
    | nil =>
      simp [foldV] at h
      subst h
      exact ⟨ρ x, hx, fun w => by simp [execOp, ho, resolve, invoke, builtin, Builtin.min_]⟩
    | cons y ys =>
      have hi : ∃ k n, ev A x = .int k n := by
        simp only [List.map_cons, foldV] at h
        obtain ⟨z, hz, _⟩ := ob_some h
        unfold min2 at hz
        split at hz
        · exact ⟨_, _, by assumption⟩
        · cases hz
      obtain ⟨k, n, e⟩ := hi
      rw [e, conc_int] at hx
      rw [e] at h
      have ex := (Option.some.inj hx).symm
      have := fun w => fold_min (P := P) (m := m) _ _ v _ h ⟨k, n, rfl⟩ hl w
      obtain ⟨k', n', rfl⟩ := (this default).2
      refine ⟨_, conc_int m _ _, fun w => ?_⟩
      have hw := (this w).1
      simp only [List.map_cons, List.foldlM_cons] at hw
      simp [execOp, ho, resolve, invoke, builtin, Builtin.min_, ex]
      simp at hw
      cases hr : (Builtin.min2 (.int k n) (ρ y)).run P w with
      | ok a w1 => rw [hr] at hw; simp only [Result.andThen_ok] at hw ⊢; rw [hw]; rfl
      | halt x w1 => rw [hr] at hw; simp [Result.andThen] at hw
    
theorem sound_max {A : T Value} {c : Call} (ho : o.op = .call c) (hc : c.callee = .builtin .max) (ha : ∀ x ∈ c.args.toList, conc m (ev A x) = some (ρ x))
    (h : minmaxV max2 (c.args.toList.map (ev A)) = some v) : PureDoes P m ρ o v := by
  obtain ⟨callee, args, argTypes⟩ := c
  obtain ⟨args⟩ := args
  simp only at hc ha h
  subst hc
  cases args with
  | nil => cases h
  | cons x xs =>
    simp only [List.map_cons, minmaxV] at h
    have hx := ha x (by simp)
    have hl := args_conc (A := A) (l := xs) (fun y hy => ha y (by simp [hy]))
    cases xs with
    | nil =>
      simp [foldV] at h
      subst h
      exact ⟨ρ x, hx, fun w => by simp [execOp, ho, resolve, invoke, builtin, Builtin.max_]⟩
    | cons y ys =>
      have hi : ∃ k n, ev A x = .int k n := by
        simp only [List.map_cons, foldV] at h
        obtain ⟨z, hz, _⟩ := ob_some h
        unfold max2 at hz
        split at hz
        · exact ⟨_, _, by assumption⟩
        · cases hz
      obtain ⟨k, n, e⟩ := hi
      rw [e, conc_int] at hx
      rw [e] at h
      have ex := (Option.some.inj hx).symm
      have := fun w => fold_max (P := P) (m := m) _ _ v _ h ⟨k, n, rfl⟩ hl w
      obtain ⟨k', n', rfl⟩ := (this default).2
      refine ⟨_, conc_int m _ _, fun w => ?_⟩
      have hw := (this w).1
      simp only [List.map_cons, List.foldlM_cons] at hw
      simp [execOp, ho, resolve, invoke, builtin, Builtin.max_, ex]
      simp at hw
      cases hr : (Builtin.max2 (.int k n) (ρ y)).run P w with
      | ok a w1 => rw [hr] at hw; simp only [Result.andThen_ok] at hw ⊢; rw [hw]; rfl
      | halt x w1 => rw [hr] at hw; simp [Result.andThen] at hw

theorem sym_mm {A : T Value} {c : Call} {op : SOp} {f : Value → Value → Option Value} (h : mmV op f (c.args.toList.map (ev A)) = some v) (ha : ∀ x ∈ c.args.toList, conc m (ev A x) = some (ρ x)) :
    minmaxV f (c.args.toList.map (ev A)) = some v ∨ ∃ a b, c.args = #[a, b] ∧ symV op (ev A a) (ev A b) = some v ∧ ρ a = con OVal.val (ev A a) ∧ ρ b = con OVal.val (ev A b) ∧ conc m v = some (con OVal.val v) := by
  obtain ⟨callee, args, argTypes⟩ := c
  obtain ⟨args⟩ := args
  simp only at ha h ⊢
  match args, ha, h with
  | [], _, h => exact .inl h
  | [a], _, h => exact .inl h
  | _ :: _ :: _ :: _, _, h => exact .inl h
  | [a, b], ha, h =>
    simp only [List.map_cons, List.map_nil, mmV] at h ⊢
    cases hs : (isSym (ev A a) || isSym (ev A b)) with
    | false => rw [hs, bsel_false] at h; exact .inl h
    | true =>
      rw [hs, bsel_true] at h
      obtain ⟨p1, p2, p3, _⟩ := symV_holds h
      have h1 := ha a (by simp)
      have h2 := ha b (by simp)
      rw [conc_plain m p1] at h1
      rw [conc_plain m p2] at h2
      exact .inr ⟨a, b, rfl, h, (Option.some.inj h1).symm, (Option.some.inj h2).symm, conc_plain m p3⟩
theorem mm_ints {x y v : Value} (h : min2 x y = some v ∨ max2 x y = some v) : ∃ k a k' b n, x = .int k a ∧ y = .int k' b ∧ v = .int k n := by
  rcases h with h | h
  · unfold min2 at h
    split at h
    · cases h; exact ⟨_, _, _, _, _, rfl, rfl, rfl⟩
    · cases h
  · unfold max2 at h
    split at h
    · cases h; exact ⟨_, _, _, _, _, rfl, rfl, rfl⟩
    · cases h
theorem sound_min' {A : T Value} {c : Call} (ho : o.op = .call c) (hc : c.callee = .builtin .min) (ha : ∀ x ∈ c.args.toList, conc m (ev A x) = some (ρ x))
    (h : mmV .min min2 (c.args.toList.map (ev A)) = some v) : PureDoes P m ρ o v := by
  rcases sym_mm h ha with h | ⟨a, b, he, h, e1, e2, e3⟩
  · exact sound_min ho hc ha h
  · obtain ⟨_, _, _, hh⟩ := symV_holds h
    have hh : min2 (con OVal.val (ev A a)) (con OVal.val (ev A b)) = some (con OVal.val v) := hh
    rw [← e1, ← e2] at hh
    obtain ⟨k, p, k', q, n, ex, ey, ev'⟩ := mm_ints (.inl hh)
    obtain ⟨callee, args, argTypes⟩ := c
    simp only at hc he
    subst hc
    subst he
    refine ⟨_, e3, fun w => ?_⟩
    have hw := (fold_min (P := P) (m := m) [ρ b] (ρ a) (con OVal.val v) [ρ b] (by simp only [foldV, hh]; rfl) ⟨k, p, ex⟩ (by rw [ey]; exact concL_cons' (conc_int m _ _) (concL_nil m)) w).1
    simp only [List.foldlM_cons, List.foldlM_nil] at hw
    simp [execOp, ho, resolve, invoke, builtin, Builtin.min_]
    simp at hw
    cases hr : (Builtin.min2 (ρ a) (ρ b)).run P w with
    | ok a w1 =>
      rw [hr] at hw
      simp only [Result.andThen_ok] at hw ⊢
      injection hw with q1 q2
      rw [q1, q2]
    | halt x w1 => rw [hr] at hw; simp at hw
theorem sound_max' {A : T Value} {c : Call} (ho : o.op = .call c) (hc : c.callee = .builtin .max) (ha : ∀ x ∈ c.args.toList, conc m (ev A x) = some (ρ x))
    (h : mmV .max max2 (c.args.toList.map (ev A)) = some v) : PureDoes P m ρ o v := by
  rcases sym_mm h ha with h | ⟨a, b, he, h, e1, e2, e3⟩
  · exact sound_max ho hc ha h
  · obtain ⟨_, _, _, hh⟩ := symV_holds h
    have hh : max2 (con OVal.val (ev A a)) (con OVal.val (ev A b)) = some (con OVal.val v) := hh
    rw [← e1, ← e2] at hh
    obtain ⟨k, p, k', q, n, ex, ey, ev'⟩ := mm_ints (.inr hh)
    obtain ⟨callee, args, argTypes⟩ := c
    simp only at hc he
    subst hc
    subst he
    refine ⟨_, e3, fun w => ?_⟩
    have hw := (fold_max (P := P) (m := m) [ρ b] (ρ a) (con OVal.val v) [ρ b] (by simp only [foldV, hh]; rfl) ⟨k, p, ex⟩ (by rw [ey]; exact concL_cons' (conc_int m _ _) (concL_nil m)) w).1
    simp only [List.foldlM_cons, List.foldlM_nil] at hw
    simp [execOp, ho, resolve, invoke, builtin, Builtin.max_]
    simp at hw
    cases hr : (Builtin.max2 (ρ a) (ρ b)).run P w with
    | ok a w1 =>
      rw [hr] at hw
      simp only [Result.andThen_ok] at hw ⊢
      injection hw with q1 q2
      rw [q1, q2]
    | halt x w1 => rw [hr] at hw; simp at hw

/-- EVERY OPERATION OF CLASS 0 -/
theorem pure_sound {A : T Value} (hops : ∀ x ∈ o.op.operands.toList, conc m (ev A x) = some (ρ x)) (h : evPure o.op P A = some v) : PureDoes P m ρ o v := by
  have hh : ∀ op, o.op = op → (∀ x ∈ op.operands.toList, conc m (ev A x) = some (ρ x)) → evPure op P A = some v → PureDoes P m ρ o v := by
    intro op ho hops h
    cases op with
    | move x => exact sound_move (.inl ho) (hops x (by simp [Op.operands])) h
    | assign x => exact sound_move (.inr ho) (hops x (by simp [Op.operands])) h
    | pick c a b => exact sound_pick ho (hops c (by simp [Op.operands])) (hops a (by simp [Op.operands])) (hops b (by simp [Op.operands])) h
    | build t ps => exact sound_build ho (fun p hp => hops p.2 (by simp only [Op.operands]; exact List.mem_map_of_mem (f := (·.2)) hp)) h
    | nilCheck x => exact sound_nilCheck ho (hops x (by simp [Op.operands])) h
    | binOp op t x y t2 => exact sound_binA ho (hops x (by simp [Op.operands])) (hops y (by simp [Op.operands])) h
    | makeInterface t x => exact sound_mkIface ho (hops x (by simp [Op.operands])) h
    | unOp op t x => exact sound_unOp ho (hops x (by simp [Op.operands])) h
    | makeFunc fn first cap => exact sound_makeFunc ho (fun x hx => hops x (by simp [Op.operands] at hx ⊢; exact .inl hx)) (fun x hx => hops x (by simp [Op.operands] at hx ⊢; exact .inr hx)) h
    | fieldAddr t x f => exact sound_fieldAddr ho (hops x (by simp [Op.operands])) h
    | field t x f => exact sound_field ho (hops x (by simp [Op.operands])) h
    | indexAddr t x i => exact sound_indexAddr ho (hops x (by simp [Op.operands])) (hops i (by simp [Op.operands])) h
    | index t x i => exact sound_index ho (hops x (by simp [Op.operands])) (hops i (by simp [Op.operands])) h
    | slice t x lo hi mx => exact sound_sliceS ho (hops x (by simp [Op.operands])) (fun y hy => hops y (by simp [Op.operands, hy])) (fun y hy => hops y (by simp [Op.operands, hy])) h
    | extract t i => exact sound_extract ho (hops t (by simp [Op.operands])) h
    | convert s d x => exact sound_convert ho (hops x (by simp [Op.operands])) h
    | call c =>
      have h : callPure P c A = some v := h
      have ha : ∀ x ∈ c.args.toList, conc m (ev A x) = some (ρ x) := fun x hx => hops x (by simp [Op.operands, Call.operands] at hx ⊢; exact .inr hx)
      unfold callPure at h
      split at h
      · rename_i hc; exact sound_len ho hc ha h
      · rename_i hc; exact sound_min' ho hc ha h
      · rename_i hc; exact sound_max' ho hc ha h
      · cases h
    | _ => cases h
  exact hh o.op rfl hops h
end Go.Ev
