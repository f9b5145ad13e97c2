/-
  A part of the proof that the evaluator answers what the model answers, for every program that follows mixed orders; no other condition.
-/
import Derived.Test.YtnfmgkkhejminaaGreatDoorEvPure
import Derived.Laws.Tables
import Derived.Great.BuildSlice
namespace Go.Ev
set_option linter.unusedSectionVars false
variable [OTab] [OVal]
variable {P : Program}

theorem conc_plainC {m : Map} {v : Value} (h : plainC v = true) : conc m v = some v := by
  unfold plainC at h
  split at h <;> first | (simp [conc]; done) | cases h
theorem concL_plain {m : Map} : ∀ {l : List Value}, l.all plainC = true → concL m l = some l
  | [], _ => by simp
  | v :: l, h => by
    simp only [List.all_cons, Bool.and_eq_true] at h
    exact concL_cons' (conc_plainC h.1) (concL_plain h.2)
theorem conc_plainZ {m : Map} {v : Value} (h : plainZ v = true) : conc m v = some v := by
  cases v with
  | agg a => obtain ⟨l⟩ := a; exact conc_agg' (concL_plain h)
  | _ => exact conc_plainC h
theorem zeroP_some {t : TypeId} {z : Value} (h : zeroP P t = some z) : (∃ i, P.info? t = some i ∧ i.zero = some z) ∧ ∀ m, conc m z = some z := by
  unfold zeroP zeroOf at h
  split at h
  · rename_i z' hz
    split at h
    · rename_i hp
      cases h
      refine ⟨?_, fun m => conc_plainZ hp⟩
      cases hi : P.info? t with
      | none => rw [hi] at hz; cases hz
      | some i => rw [hi] at hz; exact ⟨i, rfl, hz⟩
    · cases h
  · cases h
theorem run_zeroP {t : TypeId} {z : Value} (h : zeroP P t = some z) (w : World) : (zeroValue t).run P w = .ok z w := by
  obtain ⟨⟨i, hi, hz⟩, _⟩ := zeroP_some h
  simp [zeroValue, typeInfo, hi, hz]

theorem conc_cells {m : Map} {v cv : Value} (h : conc m v = some cv) : concL m (cellsL v) = some cv.cells.toList := by
  have one : ∀ u : Value, conc m v = some u → cellsL v = [v] → u.cells = #[u] → concL m (cellsL v) = some u.cells.toList := fun u hu h1 h2 => by
    rw [h1, h2]; exact concL_cons' hu (concL_nil m)
  cases v with
  | agg a => obtain ⟨l, hl, rfl⟩ := conc_agg h; exact hl
  | bool b => rw [conc_bool] at h; cases h; exact one _ (conc_bool m b) rfl rfl
  | int k n => rw [conc_int] at h; cases h; exact one _ (conc_int m k n) rfl rfl
  | string s => rw [conc_string] at h; cases h; exact one _ (conc_string m s) rfl rfl
  | pointer p => obtain ⟨a, rfl⟩ := conc_ptr_shape h; exact one _ h rfl rfl
  | slice a l c => obtain ⟨_, _, _, rfl⟩ := conc_slice_shape h; exact one _ h rfl rfl
  | map r => obtain ⟨_, rfl⟩ := conc_map_shape h; exact one _ h rfl rfl
  | func f a c => obtain ⟨_, _, _, rfl⟩ := conc_func_shape h; exact one _ h rfl rfl
  | nilFunc => have : cv = .nilFunc := by simpa [conc] using h.symm
               subst this; exact one _ h rfl rfl
  | nilIface => have : cv = .nilIface := by simpa [conc] using h.symm
                subst this; exact one _ h rfl rfl
  | iface t v =>
    have h' := h
    simp only [conc, Option.map_eq_some_iff] at h'
    obtain ⟨x, hx, rfl⟩ := h'
    exact one _ h rfl rfl
  | tuple a => obtain ⟨l, hl, rfl⟩ := conc_tuple h; exact one _ h rfl rfl
  | float k b =>
    have e : cv = OVal.val b := by rw [conc_float] at h; exact (Option.some.inj h).symm
    rcases OVal.shape b with ⟨k', n, e'⟩ | ⟨s, e'⟩ | ⟨a', l', c', e'⟩ <;> rw [e'] at e <;> subst e <;> exact one _ h rfl rfl
  | complex k a b => simp [conc] at h
  | chan r => simp [conc] at h

/-- parts, on both sides -/
def PartsRel (m : Map) : List (Nat × Value) → List (Nat × Value) → Prop
  | [], [] => True
  | p :: ps, q :: qs => (q.1 = p.1 ∧ conc m p.2 = some q.2) ∧ PartsRel m ps qs
  | _, _ => False

theorem foldl_set (off : Nat) : ∀ (l : List Value) (k : Nat) (arr : Array Value), off + k + l.length ≤ arr.size →
    (l.zipIdx k).foldl (fun (cs : Array Value) (p : Value × Nat) => cs.setIfInBounds (off + p.2) p.1) arr = ⟨arr.toList.take (off + k) ++ l ++ arr.toList.drop (off + k + l.length)⟩
  | [], k, arr, _ => by
    simp only [List.zipIdx_nil, List.foldl_nil, List.append_nil, List.length_nil, Nat.add_zero, List.take_append_drop]
  | v :: l, k, arr, h => by
    simp only [List.length_cons] at h
    simp only [List.zipIdx_cons, List.foldl_cons]
    rw [foldl_set off l (k + 1) _ (by simp; omega)]
    apply congrArg Array.mk
    have hk : off + k < arr.toList.length := by simp; omega
    rw [Array.toList_setIfInBounds]
    have e1 : (arr.toList.set (off + k) v).take (off + (k + 1)) = arr.toList.take (off + k) ++ [v] := by
      rw [show off + (k + 1) = off + k + 1 from by omega, List.take_succ_eq_append_getElem (by simpa using hk)]
      rw [List.take_set, List.set_eq_of_length_le (by simp; omega)]
      simp
    have e2 : (arr.toList.set (off + k) v).drop (off + (k + 1) + l.length) = arr.toList.drop (off + k + (v :: l).length) := by
      rw [List.drop_set_of_lt (by omega)]
      congr 1
      simp
      omega
    rw [e1, e2]
    simp

theorem fill_sound {m : Map} {place place' : Nat → Option (Nat × Nat)} (hp : ∀ i p, place i = some p → place' i = some p) : ∀ (ps qs : List (Nat × Value)) (cells cells' l : List Value), PartsRel m ps qs → concL m cells = some cells' →
    buildL place cells ps = some l → ∃ l', concL m l = some l' ∧ Instr.fill place' ⟨cells'⟩ qs = some ⟨l'⟩
  | [], _ :: _, _, _, _, hr, _, _ => hr.elim
  | _ :: _, [], _, _, _, hr, _, _ => hr.elim
  | [], [], cells, cells', l, hr, hc, h => by
    simp only [buildL] at h
    cases h
    exact ⟨cells', hc, rfl⟩
  | (i, v) :: ps, (j, u) :: qs, cells, cells', l, hr, hc, h => by
      obtain ⟨⟨hij, hu⟩, ht⟩ := hr
      simp only at hij hu
      subst hij
      simp only [buildL] at h
      obtain ⟨p, hpl, h⟩ := ob_some h
      split at h
      · cases h
      · rename_i hs
        simp only [Bool.or_eq_true, decide_eq_true_eq, not_or, Nat.not_lt] at hs
        have hcs := conc_cells hu
        have hlen := concL_len hcs
        have hlenc := concL_len hc
        have hsz : u.cells.size = p.2 := by
          have : u.cells.toList.length = u.cells.size := by simp
          have := hs.1
          simp only [ne_eq, Decidable.not_not] at this
          omega
        have hset : concL m (setL cells p.1 (cellsL v)) = some (cells'.take p.1 ++ u.cells.toList ++ cells'.drop (p.1 + u.cells.toList.length)) := by
          unfold setL
          rw [hlen]
          exact concL_append (concL_append (concL_take _ hc) hcs) (concL_drop _ hc)
        obtain ⟨l', hl', hf⟩ := fill_sound hp ps qs _ _ l ht hset h
        refine ⟨l', hl', ?_⟩
        obtain ⟨p1, p2⟩ := p
        simp only at hsz hs hf
        simp only [Instr.fill, hp _ _ hpl]
        have hno : ¬ ((decide (u.cells.size ≠ p2) || decide (p1 + u.cells.size > (Array.mk cells').size)) = true) := by
          simp only [Bool.or_eq_true, decide_eq_true_eq, not_or]
          refine ⟨by simp [hsz], ?_⟩
          have : (Array.mk cells').size = cells'.length := rfl
          have := hs.2
          have : u.cells.toList.length = u.cells.size := by simp
          omega
        rw [if_neg hno]
        have hz := foldl_set p1 u.cells.toList 0 ⟨cells'⟩ (by
          have : (Array.mk cells').size = cells'.length := rfl
          have := hs.2
          have : u.cells.toList.length = u.cells.size := by simp
          omega)
        have hz' : (Array.foldl (fun (cs : Array Value) (x : Value × Nat) => cs.setIfInBounds (p1 + x.2) x.1) ⟨cells'⟩ u.cells.zipIdx) = ⟨cells'.take p1 ++ u.cells.toList ++ cells'.drop (p1 + u.cells.toList.length)⟩ := by
          rw [← Array.foldl_toList, Array.toList_zipIdx]
          simpa using hz
        have hz'' : (Array.foldl (fun (cs : Array Value) (x : Value × Nat) => match x with | (c, j) => cs.setIfInBounds (p1 + j) c) ⟨cells'⟩ u.cells.zipIdx) = ⟨cells'.take p1 ++ u.cells.toList ++ cells'.drop (p1 + u.cells.toList.length)⟩ := hz'
        rw [hz'']
        exact hf

theorem parts_rel {m : Map} {A : T Value} {ρ : Operand → Value} : ∀ (ps : List (Nat × Operand)), (∀ p ∈ ps, conc m (ev A p.2) = some (ρ p.2)) →
    PartsRel m (ps.map fun p => (p.1, ev A p.2)) (ps.map fun p => (p.1, ρ p.2))
  | [], _ => trivial
  | p :: ps, h => ⟨⟨rfl, h p (by simp)⟩, parts_rel ps fun q hq => h q (by simp [hq])⟩

theorem mapM_sz : ∀ (fs : List Field), fs.all (fun f => (sz P f.type).isSome) = true → ∃ pl : List (Nat × Nat), fs.mapM (fun f => (P.info? f.type).map fun i => (f.offset, i.size)) = some pl ∧
    ∀ i : Nat, pl[i]? = (fs[i]?).bind fun f => (sz P f.type).map fun n => (f.offset, n)
  | [], _ => ⟨[], by simp, fun i => by simp⟩
  | f :: fs, h => by
    simp only [List.all_cons, Bool.and_eq_true] at h
    obtain ⟨pl, h1, h2⟩ := mapM_sz fs h.2
    cases hi : P.info? f.type with
    | none => have := h.1; simp [sz, hi] at this
    | some i =>
      refine ⟨(f.offset, i.size) :: pl, by simp [hi, h1], fun j => ?_⟩
      cases j with
      | zero => simp [sz, hi]
      | succ j => simpa using h2 j

theorem sound_build {m : Map} {ρ : Operand → Value} {o : Oper} {t : TypeId} {A : T Value} {ps : Array (Nat × Operand)} {v : Value} (ho : o.op = .build t ps)
    (hps : ∀ p ∈ ps.toList, conc m (ev A p.2) = some (ρ p.2)) (h : buildV P t (evParts A ps) = some v) : PureDoes P m ρ o v := by
  unfold buildV at h
  obtain ⟨hf, h⟩ := gd_some h
  obtain ⟨z, hz, h⟩ := ob_some h
  obtain ⟨l, hl, h⟩ := ob_some h
  cases h
  obtain ⟨⟨i, hi, hz0⟩, hzc⟩ := zeroP_some hz
  have hzm := conc_cells (hzc m)
  have hpr := parts_rel (ρ := ρ) ps.toList hps
  have hbuilt : ∃ l', concL m l = some l' ∧ P.built t (ps.toList.map fun p => (p.1, ρ p.2)) = some ⟨l'⟩ := by
    unfold fieldsSized at hf
    split at hf
    · rename_i fs hu
      obtain ⟨pl, hpl, hget⟩ := mapM_sz (P := P) fs.toList hf
      obtain ⟨l', h1, h2⟩ := fill_sound (place' := fun j => pl.toArray[j]?) (fun j p hp => by
        unfold placeOf at hp
        rw [hu] at hp
        obtain ⟨f, hf1, hp⟩ := ob_some hp
        obtain ⟨n, hn, hp⟩ := ob_some hp
        cases hp
        have : fs.toList[j]? = some f := by simpa using hf1
        simp [hget, this, hn]) _ _ _ _ l hpr hzm hl
      refine ⟨l', h1, ?_⟩
      unfold Program.built
      simp only [hi, hu, hz0, hpl]
      exact h2
    · rename_i n e hu
      cases hie : P.info? e with
      | none => simp [sz, hie] at hf
      | some ie =>
        obtain ⟨l', h1, h2⟩ := fill_sound (place' := fun j => some (j * ie.size, ie.size)) (fun j p hp => by
          unfold placeOf at hp
          rw [hu] at hp
          simp only [sz, hie] at hp
          obtain ⟨n, hn, hp⟩ := ob_some hp
          cases hn
          exact hp) _ _ _ _ l hpr hzm hl
        refine ⟨l', h1, ?_⟩
        unfold Program.built
        simp only [hi, hu, hz0, hie]
        exact h2
    · cases hf
  obtain ⟨l', h1, h2⟩ := hbuilt
  refine ⟨.agg ⟨l'⟩, conc_agg' h1, fun w => ?_⟩
  have := run_build (P := P) w t (ps.map fun (i, x) => (i, ρ x)) ⟨l'⟩ (by simpa using h2)
  simp [execOp, ho, this]
end Go.Ev
