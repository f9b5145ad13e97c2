/-
  A part of the proof that the evaluator answers what the model answers, for every program that follows mixed orders; no other condition.
-/
import Derived.Test.YtnfmgkkhejminaaGreatDoorStEvVal
import Derived.ChangeKeysEq
namespace Go.Ev
set_option linter.unusedSectionVars false
variable [OTab] [OVal]
variable {P : Program}

/-- an operation that looks at no memory -/
def PureDoes (P : Program) (m : Map) (ρ : Operand → Value) (o : Oper) (v : Value) : Prop :=
  ∃ cv, conc m v = some cv ∧ ∀ w, (execOp ρ o).run P w = .ok (.value cv) w

theorem conc_slice_some {m : Map} {a : Addr} {l c : Nat} {v : Value} (h : conc m (.slice (some a) l c) = some v) : ∃ a' c', v = .slice (some a') l c' := by
  match a, l, c, h with
  | ⟨_, _, some _⟩, _ + 1, _, h => simp [conc] at h
  | ⟨_, _, some _⟩, 0, c, h =>
    simp only [conc] at h
    split at h
    · cases h
    · simp only [Option.map_eq_some_iff] at h
      obtain ⟨z, _, e⟩ := h
      split at e <;> subst e <;> exact ⟨_, _, rfl⟩
  | ⟨_, _, none⟩, _, _, h =>
    simp only [conc, Option.map_eq_some_iff] at h
    obtain ⟨z, _, rfl⟩ := h
    exact ⟨_, _, rfl⟩
theorem conc_slice_shape {m : Map} {a : Option Addr} {l c : Nat} {v : Value} (h : conc m (.slice a l c) = some v) : ∃ a' l' c', v = .slice a' l' c' := by
  match a, l, c, h with
  | none, 0, 0, h => exact ⟨none, 0, 0, by simpa [conc] using h.symm⟩
  | none, 0, _ + 1, h => simp [conc] at h
  | none, _ + 1, _, h => simp [conc] at h
  | some a, _, _, h =>
    obtain ⟨_, _, rfl⟩ := conc_slice_some h
    exact ⟨_, _, _, rfl⟩
theorem conc_map_shape {m : Map} {a : Option Nat} {v : Value} (h : conc m (.map a) = some v) : ∃ a', v = .map a' := by
  cases a with
  | none => exact ⟨none, by simpa [conc] using h.symm⟩
  | some r =>
    simp only [conc, Option.map_eq_some_iff] at h
    obtain ⟨z, _, rfl⟩ := h
    exact ⟨_, rfl⟩

/-- '==' of two values that hold no address, or one of which is nil, is the same on both sides -/
theorem eqS_conc {m : Map} {x y cx cy : Value} {b : Bool} (hx : conc m x = some cx) (hy : conc m y = some cy) (h : eqS x y = some b) : eqS cx cy = some b := by
  unfold eqS at h
  split at h
  · rw [conc_int] at hx hy; cases hx; cases hy; simpa [eqS] using h
  · rw [conc_bool] at hx hy; cases hx; cases hy; simpa [eqS] using h
  · rw [conc_string] at hx hy; cases hx; cases hy; simpa [eqS] using h
  · rename_i q
    have : cx = .pointer none := by simpa [conc] using hx.symm
    subst this
    cases q with
    | none => have : cy = .pointer none := by simpa [conc] using hy.symm
              subst this; simpa [eqS] using h
    | some a => obtain ⟨z, _, _, rfl⟩ := conc_pointer hy; simpa [eqS] using h
  · rename_i q _
    have : cy = .pointer none := by simpa [conc] using hy.symm
    subst this
    cases q with
    | none => have : cx = .pointer none := by simpa [conc] using hx.symm
              subst this; simp_all
    | some a => obtain ⟨z, _, _, rfl⟩ := conc_pointer hx; simpa [eqS] using h
  · rename_i l c q l' c'
    have hcx : cx = .slice none 0 0 := by
      match l, c, hx with
      | 0, 0, hx => simpa [conc] using hx.symm
      | 0, _ + 1, hx => simp [conc] at hx
      | _ + 1, _, hx => simp [conc] at hx
    subst hcx
    match q, l', c', hy, h with
    | none, 0, 0, hy, h => have : cy = .slice none 0 0 := by simpa [conc] using hy.symm
                           subst this; simpa [eqS] using h
    | none, 0, _ + 1, hy, h => simp [conc] at hy
    | none, _ + 1, _, hy, h => simp [conc] at hy
    | some _, _, _, hy, h =>
      obtain ⟨_, _, rfl⟩ := conc_slice_some hy
      simpa [eqS] using h
  · rename_i q l c l' c' _
    have hcy : cy = .slice none 0 0 := by
      match l', c', hy with
      | 0, 0, hy => simpa [conc] using hy.symm
      | 0, _ + 1, hy => simp [conc] at hy
      | _ + 1, _, hy => simp [conc] at hy
    subst hcy
    match q, l, c, hx, h with
    | none, 0, 0, hx, h => simp_all
    | none, 0, _ + 1, hx, h => simp [conc] at hx
    | none, _ + 1, _, hx, h => simp [conc] at hx
    | some _, _, _, hx, h =>
      obtain ⟨_, _, rfl⟩ := conc_slice_some hx
      simpa [eqS] using h
  · rename_i q
    have : cx = .map none := by simpa [conc] using hx.symm
    subst this
    cases q with
    | none => have : cy = .map none := by simpa [conc] using hy.symm
              subst this; simpa [eqS] using h
    | some a =>
      simp only [conc, Option.map_eq_some_iff] at hy
      obtain ⟨z, _, rfl⟩ := hy
      simpa [eqS] using h
  · rename_i q _
    have : cy = .map none := by simpa [conc] using hy.symm
    subst this
    cases q with
    | none => have : cx = .map none := by simpa [conc] using hx.symm
              subst this; simp_all
    | some a =>
      simp only [conc, Option.map_eq_some_iff] at hx
      obtain ⟨z, _, rfl⟩ := hx
      simpa [eqS] using h
  · have : cx = .nilFunc := by simpa [conc] using hx.symm
    subst this
    have : cy = .nilFunc := by simpa [conc] using hy.symm
    subst this
    simpa [eqS] using h
  · rename_i fn a c
    have : cx = .nilFunc := by simpa [conc] using hx.symm
    subst this
    obtain ⟨fn', a', c', rfl⟩ : ∃ fn' a' c', cy = .func fn' a' c' := by
      obtain ⟨a⟩ := a
      obtain ⟨c⟩ := c
      cases fn with
      | func f => simp only [conc] at hy; split at hy <;> cases hy; exact ⟨_, _, _, rfl⟩
      | method f => simp only [conc] at hy; split at hy <;> cases hy; exact ⟨_, _, _, rfl⟩
      | yield l =>
        match a, c, hy with
        | [], [], hy => simp only [conc, Option.map_eq_some_iff] at hy; obtain ⟨z, _, rfl⟩ := hy; exact ⟨_, _, _, rfl⟩
        | _ :: _, _, hy => simp [conc] at hy
        | [], _ :: _, hy => simp [conc] at hy
      | _ => simp [conc] at hy
    simpa [eqS] using h
  · rename_i fn a c
    have : cy = .nilFunc := by simpa [conc] using hy.symm
    subst this
    obtain ⟨fn', a', c', rfl⟩ : ∃ fn' a' c', cx = .func fn' a' c' := by
      obtain ⟨a⟩ := a
      obtain ⟨c⟩ := c
      cases fn with
      | func f => simp only [conc] at hx; split at hx <;> cases hx; exact ⟨_, _, _, rfl⟩
      | method f => simp only [conc] at hx; split at hx <;> cases hx; exact ⟨_, _, _, rfl⟩
      | yield l =>
        match a, c, hx with
        | [], [], hx => simp only [conc, Option.map_eq_some_iff] at hx; obtain ⟨z, _, rfl⟩ := hx; exact ⟨_, _, _, rfl⟩
        | _ :: _, _, hx => simp [conc] at hx
        | [], _ :: _, hx => simp [conc] at hx
      | _ => simp [conc] at hx
    simpa [eqS] using h
  · cases h

theorem data_beq (a b : ByteArray) : (a.data.toList == b.data.toList) = (a == b) := by
  rw [beq_toListBytes, ByteArray.toList_eq, ByteArray.toList_eq]

/-! what is not known -/
theorem bytesEq {a b : ByteArray} (h : (a.data.toList == b.data.toList) = true) : a = b := by
  have h2 : a.data.toList = b.data.toList := by simpa using h
  obtain ⟨⟨a⟩⟩ := a
  obtain ⟨⟨b⟩⟩ := b
  simp at h2
  subst h2
  rfl
theorem sEq_eq {a b : Value} (h : sEq a b = true) : a = b ∧ plainS b = true := by
  unfold sEq at h
  split at h
  · rw [Bool.and_eq_true] at h
    have h1 : _ = _ := of_decide_eq_true h.1
    have h2 := Nat.eq_of_beq_eq_true h.2
    rw [h1, h2]
    exact ⟨rfl, rfl⟩
  · rw [Bool.and_eq_true, eqI_eq] at h
    have h1 : _ = _ := of_decide_eq_true h.1
    have h2 := h.2
    simp at h2
    rw [h1, h2]
    exact ⟨rfl, rfl⟩
  · rw [bytesEq h]; exact ⟨rfl, rfl⟩
  · simp at h; rw [h]; exact ⟨rfl, rfl⟩
  · cases h
theorem sEqL_eq : ∀ {a b : List Value}, sEqL a b = true → a = b ∧ ∀ v ∈ b, plainS v = true
  | [], [], _ => ⟨rfl, fun v hv => by cases hv⟩
  | [], _ :: _, h => by cases h
  | _ :: _, [], h => by cases h
  | x :: a, y :: b, h => by
    simp only [sEqL, Bool.and_eq_true] at h
    obtain ⟨e1, p1⟩ := sEq_eq h.1
    obtain ⟨e2, p2⟩ := sEqL_eq h.2
    rw [e1, e2]
    refine ⟨rfl, fun v hv => ?_⟩
    rcases List.mem_cons.1 hv with rfl | hv
    · exact p1
    · exact p2 v hv
theorem sopEq_eq {a b : SOp} (h : sopEq a b = true) : a = b := by
  unfold sopEq at h
  split at h
  · have : _ = _ := of_decide_eq_true h
    rw [this]
  · rfl
  · rfl
  · rfl
  · rfl
  · have : _ = _ := of_decide_eq_true h
    rw [this]
  · cases h
theorem findR_some {op : SOp} {x y z : Value} : ∀ {l : List Rule}, findR op x y l = some z → ∃ r ∈ l, r.op = op ∧ r.x = x ∧ r.y = y ∧ r.z = z ∧ plainS x = true ∧ plainS y = true ∧ plainS z = true
  | [], h => by cases h
  | r :: rs, h => by
    unfold findR at h
    cases hb : (sopEq r.op op && sEq r.x x && sEq r.y y && plainS r.z) with
    | false =>
      rw [hb, bsel_false] at h
      obtain ⟨r', hr, q⟩ := findR_some h
      exact ⟨r', by simp [hr], q⟩
    | true =>
      rw [hb, bsel_true] at h
      cases h
      simp only [Bool.and_eq_true] at hb
      obtain ⟨⟨⟨h1, h2⟩, h3⟩, h4⟩ := hb
      exact ⟨r, by simp, sopEq_eq h1, (sEq_eq h2).1, (sEq_eq h3).1, rfl, (sEq_eq h2).2, (sEq_eq h3).2, h4⟩
theorem symV_holds {op : SOp} {x y z : Value} (h : symV op x y = some z) : plainS x = true ∧ plainS y = true ∧ plainS z = true ∧ (⟨op, x, y, z⟩ : Rule).Holds OVal.val := by
  obtain ⟨r, hr, rfl, rfl, rfl, rfl, h1, h2, h3⟩ := findR_some h
  exact ⟨h1, h2, h3, OVal.rules r hr⟩
theorem symEq_some {op : SOp} {x y : Value} {b : Bool} (h : symEq op x y = some b) : symV op x y = some (.bool b) := by
  obtain ⟨v, hv, hb⟩ := ob_some h
  rw [hv]
  cases v with
  | bool q => cases hb; rfl
  | _ => cases hb

/-! a scalar's '==' under the model -/
section
variable {t : TypeId} {b : Bool} (D : Nat) (w : World)
theorem eqIn_pointer {e : TypeId} {x y : Option Addr} (hu : P.underlying t = some (.pointer e)) (h : eqS (.pointer x) (.pointer y) = some b) : (Op.equalIn (D + 1) t (.pointer x) (.pointer y)).run P w = .ok b w := by
  cases x <;> cases y <;> simp [eqS] at h <;> subst h <;> simp [Op.equalIn, run_underlying hu]
theorem eqIn_int {k' : IntKind} {k₁ k₂ : IntKind} {x y : Int} (hu : P.underlying t = some (.int k')) (h : eqS (.int k₁ x) (.int k₂ y) = some b) : (Op.equalIn (D + 1) t (.int k₁ x) (.int k₂ y)).run P w = .ok b w := by
  simp only [eqS] at h
  split at h
  · rename_i hk; cases h; subst hk; simp [Op.equalIn, run_underlying hu, eqI_eq]
  · cases h
theorem eqIn_bool {x y : Bool} (hu : P.underlying t = some .bool) (h : eqS (.bool x) (.bool y) = some b) : (Op.equalIn (D + 1) t (.bool x) (.bool y)).run P w = .ok b w := by
  simp only [eqS] at h; cases h; simp [Op.equalIn, run_underlying hu]
theorem eqIn_string {x y : ByteArray} (hu : P.underlying t = some .string) (h : eqS (.string x) (.string y) = some b) : (Op.equalIn (D + 1) t (.string x) (.string y)).run P w = .ok b w := by
  simp only [eqS] at h; cases h; rw [data_beq]; simp [Op.equalIn, run_underlying hu]
theorem eqIn_slice {e : TypeId} {x y : Option Addr} {l c l' c' : Nat} (hu : P.underlying t = some (.slice e)) (h : eqS (.slice x l c) (.slice y l' c') = some b) : (Op.equalIn (D + 1) t (.slice x l c) (.slice y l' c')).run P w = .ok b w := by
  cases x <;> cases y <;> simp [eqS] at h <;> subst h <;> simp [Op.equalIn, run_underlying hu]
theorem eqIn_map {k e : TypeId} {x y : Option Nat} (hu : P.underlying t = some (.map k e)) (h : eqS (.map x) (.map y) = some b) : (Op.equalIn (D + 1) t (.map x) (.map y)).run P w = .ok b w := by
  cases x <;> cases y <;> simp [eqS] at h <;> subst h <;> simp [Op.equalIn, run_underlying hu]
theorem eqIn_func1 {a c : Array TypeId} {d : Bool} {y : Value} (hu : P.underlying t = some (.func a c d)) (h : eqS .nilFunc y = some b) : (Op.equalIn (D + 1) t .nilFunc y).run P w = .ok b w := by
  cases y <;> simp [eqS] at h <;> subst h <;> simp [Op.equalIn, run_underlying hu]
theorem eqIn_func2 {a c : Array TypeId} {d : Bool} {x : Value} (hu : P.underlying t = some (.func a c d)) (h : eqS x .nilFunc = some b) : (Op.equalIn (D + 1) t x .nilFunc).run P w = .ok b w := by
  cases x <;> simp [eqS] at h <;> subst h <;> simp [Op.equalIn, run_underlying hu]
end

/-- the fields one by one -/
theorem eqFs_sound {m : Map} {D : Nat} {eq : TypeId → Value → Value → Option Bool} {xs ys xs' ys' : List Value} (hx : concL m xs = some xs') (hy : concL m ys = some ys')
    (heq : ∀ t x y cx cy b w, eq t x y = some b → conc m x = some cx → conc m y = some cy → (Op.equalIn D t cx cy).run P w = .ok b w) :
    ∀ (fs : List Field) (b : Bool) (w : World), eqFs P eq xs ys fs = some b → (Op.eqFields D ⟨xs'⟩ ⟨ys'⟩ fs).run P w = .ok b w
  | [], b, w, h => by simp [eqFs] at h; subst h; simp [Op.eqFields]
  | f :: fs, b, w, h => by
    simp only [eqFs] at h
    split at h
    · rename_i hn
      obtain ⟨u, hu, h⟩ := ob_some h
      obtain ⟨v, hv, h⟩ := ob_some h
      obtain ⟨r, hr, h⟩ := ob_some h
      obtain ⟨cu, hcu, hru⟩ := part_sound hx hu w
      obtain ⟨cv, hcv, hrv⟩ := part_sound hy hv w
      have he := heq f.type u v cu cv r w hr hcu hcv
      simp only [Op.eqFields]
      rw [if_pos hn]
      simp only [Sem.run_bind, hru, Result.andThen_ok, hrv, he]
      cases r with
      | false => simp only [bsel_false] at h; cases h; simp
      | true => simp only [bsel_true] at h; simpa using eqFs_sound hx hy heq fs b w h
    · rename_i hn
      simp only [Op.eqFields]
      rw [if_neg hn]
      exact eqFs_sound hx hy heq fs b w h

/-- the elements one by one -/
theorem eqEs_sound {m : Map} {D : Nat} {eq : Value → Value → Option Bool} {e : TypeId} {n : Nat} {xs ys xs' ys' : List Value} (hx : concL m xs = some xs') (hy : concL m ys = some ys')
    (heq : ∀ x y cx cy b w, eq x y = some b → conc m x = some cx → conc m y = some cy → (Op.equalIn D e cx cy).run P w = .ok b w) :
    ∀ (is : List Nat) (b : Bool) (w : World), eqEs P eq e n xs ys is = some b → (Op.eqItems D e n ⟨xs'⟩ ⟨ys'⟩ is).run P w = .ok b w
  | [], b, w, h => by simp [eqEs] at h; subst h; simp [Op.eqItems]
  | i :: is, b, w, h => by
    simp only [eqEs] at h
    obtain ⟨u, hu, h⟩ := ob_some h
    obtain ⟨v, hv, h⟩ := ob_some h
    obtain ⟨r, hr, h⟩ := ob_some h
    obtain ⟨cu, hcu, hru⟩ := part_sound hx hu w
    obtain ⟨cv, hcv, hrv⟩ := part_sound hy hv w
    have he := heq u v cu cv r w hr hcu hcv
    simp only [Op.eqItems]
    rw [Nat.mul_eq] at hru hrv
    simp only [Sem.run_bind, hru, Result.andThen_ok, hrv, he]
    cases r with
    | false => simp only [bsel_false] at h; cases h; simp
    | true => simp only [bsel_true] at h; simpa using eqEs_sound hx hy heq is b w h

theorem eqi_sound {m : Map} {t : TypeId} {k' : IntKind} {x y cx cy : Value} {b : Bool} (D : Nat) (w : World) (hu : P.underlying t = some (.int k')) (hx : conc m x = some cx) (hy : conc m y = some cy) (h : symEq .eqi x y = some b) :
    (Op.equalIn (D + 1) t cx cy).run P w = .ok b w := by
  obtain ⟨p1, p2, _, k, a, c, e1, e2, e3⟩ := symV_holds (symEq_some h)
  rw [conc_plain m p1] at hx
  rw [conc_plain m p2] at hy
  have ex : cx = .int k a := (Option.some.inj hx).symm.trans e1
  have ey : cy = .int k c := (Option.some.inj hy).symm.trans e2
  have eb : b = eqI a c := by injection e3
  rw [ex, ey]
  exact eqIn_int D w hu (by simp [eqS, eb])
theorem eqs_sound {m : Map} {t : TypeId} {x y cx cy : Value} {b : Bool} (D : Nat) (w : World) (hu : P.underlying t = some .string) (hx : conc m x = some cx) (hy : conc m y = some cy) (h : symEq .eqs x y = some b) :
    (Op.equalIn (D + 1) t cx cy).run P w = .ok b w := by
  obtain ⟨p1, p2, _, a, c, e1, e2, e3⟩ := symV_holds (symEq_some h)
  rw [conc_plain m p1] at hx
  rw [conc_plain m p2] at hy
  have ex : cx = .string a := (Option.some.inj hx).symm.trans e1
  have ey : cy = .string c := (Option.some.inj hy).symm.trans e2
  have eb : b = (a.data.toList == c.data.toList) := by injection e3
  rw [ex, ey]
  exact eqIn_string D w hu (by simp [eqS, eb])

theorem eqV_sound {m : Map} : ∀ (d : Nat) (t : TypeId) (x y cx cy : Value) (b : Bool), eqV P d t x y = some b → conc m x = some cx → conc m y = some cy →
    ∀ D w, d ≤ D → (Op.equalIn D t cx cy).run P w = .ok b w
  | 0, _, _, _, _, _, _, h, _, _, _, _, _ => by simp [eqV] at h
  | d + 1, t, x, y, cx, cy, b, h, hx, hy, D, w, hD => by
    obtain ⟨D, rfl⟩ : ∃ E, D = E + 1 := ⟨D - 1, by omega⟩
    simp only [eqV] at h
    split at h
    · rename_i fs xs ys hu
      split at h
      · cases h
      · rename_i hs
        obtain ⟨xs', hx', rfl⟩ := conc_agg hx
        obtain ⟨ys', hy', rfl⟩ := conc_agg hy
        have hfs : P.fieldsOf t = fs := by simp [Program.fieldsOf, hu]
        rw [run_equalIn_struct w D t ⟨xs'⟩ ⟨ys'⟩ (by rw [hfs]; exact hu) (by simpa using hs), hfs]
        exact eqFs_sound hx' hy' (fun t' x' y' cx' cy' b' w' h1 h2 h3 => eqV_sound d t' x' y' cx' cy' b' h1 h2 h3 D w' (by omega)) _ b w h
    · rename_i len e xs ys hu
      obtain ⟨xs', hx', rfl⟩ := conc_agg hx
      obtain ⟨ys', hy', rfl⟩ := conc_agg hy
      obtain ⟨n, hn, h⟩ := ob_some h
      obtain ⟨i, hi, hin⟩ : ∃ i, P.info? e = some i ∧ i.size = n := by
        unfold sz at hn
        cases hi : P.info? e with
        | none => rw [hi] at hn; cases hn
        | some i => rw [hi] at hn; exact ⟨i, rfl, by simpa using hn⟩
      have hc : P.cellsOf e = n := by unfold Program.cellsOf; rw [hi]; simpa using hin
      rw [run_equalIn_array w D ⟨xs'⟩ ⟨ys'⟩ hu hi, hc]
      exact eqEs_sound hx' hy' (fun x' y' cx' cy' b' w' h1 h2 h3 => eqV_sound d e x' y' cx' cy' b' h1 h2 h3 D w' (by omega)) _ b w h
    · rename_i e p q hu
      have hh := eqS_conc hx hy h
      cases p with
      | none => have : cx = .pointer none := by simpa [conc] using hx.symm
                subst this
                cases q with
                | none => have : cy = .pointer none := by simpa [conc] using hy.symm
                          subst this; exact eqIn_pointer D w hu hh
                | some a => obtain ⟨z, _, _, rfl⟩ := conc_pointer hy; exact eqIn_pointer D w hu hh
      | some a =>
        obtain ⟨z, _, _, rfl⟩ := conc_pointer hx
        cases q with
        | none => have : cy = .pointer none := by simpa [conc] using hy.symm
                  subst this; exact eqIn_pointer D w hu hh
        | some a => obtain ⟨z, _, _, rfl⟩ := conc_pointer hy; exact eqIn_pointer D w hu hh
    · rename_i hu
      have hh := eqS_conc hx hy h
      rw [conc_int] at hx hy; cases hx; cases hy
      exact eqIn_int D w hu hh
    · rename_i hu
      exact eqi_sound D w hu hx hy h
    · rename_i hu
      exact eqi_sound D w hu hx hy h
    · rename_i hu
      have hh := eqS_conc hx hy h
      rw [conc_bool] at hx hy; cases hx; cases hy
      exact eqIn_bool D w hu hh
    · rename_i hu
      have hh := eqS_conc hx hy h
      rw [conc_string] at hx hy; cases hx; cases hy
      exact eqIn_string D w hu hh
    · rename_i hu
      exact eqs_sound D w hu hx hy h
    · rename_i hu
      exact eqs_sound D w hu hx hy h
    · rename_i hu
      have hh := eqS_conc hx hy h
      obtain ⟨a1, l1, c1, rfl⟩ := conc_slice_shape hx
      obtain ⟨a2, l2, c2, rfl⟩ := conc_slice_shape hy
      exact eqIn_slice D w hu hh
    · rename_i hu
      have hh := eqS_conc hx hy h
      obtain ⟨a1, rfl⟩ := conc_map_shape hx
      obtain ⟨a2, rfl⟩ := conc_map_shape hy
      exact eqIn_map D w hu hh
    · rename_i hu
      have hh := eqS_conc hx hy h
      have : cx = .nilFunc := by simpa [conc] using hx.symm
      subst this
      exact eqIn_func1 D w hu hh
    · rename_i hu _
      have hh := eqS_conc hx hy h
      have : cy = .nilFunc := by simpa [conc] using hy.symm
      subst this
      exact eqIn_func2 D w hu hh
    · cases h
end Go.Ev
