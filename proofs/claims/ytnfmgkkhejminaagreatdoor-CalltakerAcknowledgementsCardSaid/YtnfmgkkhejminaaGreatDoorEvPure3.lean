/-
  A part of the proof that the evaluator answers what the model answers, for every program that follows mixed orders; no other condition.
-/
import Derived.Test.YtnfmgkkhejminaaGreatDoorEvPure2
namespace Go.Ev
set_option linter.unusedSectionVars false
variable [OTab] [OVal]
variable {P : Program} {m : Map} {ρ : Operand → Value} {o : Oper} {v : Value}

theorem sound_move {x : Operand} {u : Value} (ho : o.op = .move x ∨ o.op = .assign x) (hx : conc m u = some (ρ x)) (h : some u = some v) : PureDoes P m ρ o v := by
  cases h
  exact ⟨ρ x, hx, fun w => by rcases ho with ho | ho <;> simp [execOp, ho]⟩

theorem sound_pick {A : T Value} {c a b : Operand} {u : Value} (ho : o.op = .pick c a b) (hc : conc m u = some (ρ c)) (ha : conc m (ev A a) = some (ρ a)) (hb : conc m (ev A b) = some (ρ b))
    (h : ob (asB u) (pickV A a b) = some v) : PureDoes P m ρ o v := by
  obtain ⟨t, ht, h⟩ := ob_some h
  have := asB_some ht
  subst this
  rw [conc_bool] at hc
  have e := (Option.some.inj hc).symm
  cases t with
  | false => cases h; exact ⟨ρ b, hb, fun w => by simp [execOp, ho, e, asBool]⟩
  | true => cases h; exact ⟨ρ a, ha, fun w => by simp [execOp, ho, e, asBool]⟩

theorem sound_unOp {op : UnOp} {t : TypeId} {x : Operand} {u : Value} (ho : o.op = .unOp op t x) (hx : conc m u = some (ρ x)) (h : unV op u = some v) : PureDoes P m ρ o v := by
  unfold unV at h
  split at h
  · rw [conc_bool] at hx
    have e := (Option.some.inj hx).symm
    cases h
    exact ⟨_, conc_bool m _, fun w => by simp [execOp, ho, e, Op.unary]⟩
  · rw [conc_int] at hx
    have e := (Option.some.inj hx).symm
    cases h
    refine ⟨_, conc_int m _ _, fun w => ?_⟩
    rw [wrapF_eq]
    have hz : ∀ n : Int, Int.sub 0 n = -n := fun n => Int.zero_sub n
    simp [execOp, ho, e, Op.unary, Op.intArith, hz]
  · rw [conc_int] at hx
    have e := (Option.some.inj hx).symm
    cases h
    exact ⟨_, conc_int m _ _, fun w => by simp [execOp, ho, e, Op.unary, Op.intBits]⟩
  · cases h

theorem methF_some {t : TypeId} {n : String} {f : FuncId} (h : methF P t n = some f) :
    ∃ i m e, P.info? t = some i ∧ i.methods.find? (·.name == n) = some m ∧ m.func = some (f, true) ∧ m.path = #[] ∧ i.desc = .pointer e := by
  unfold methF at h
  split at h
  · cases h
  · rename_i i hi
    split at h
    · cases h
    · rename_i m hm
      split at h
      · rename_i g e h1 h2 h3
        cases h
        exact ⟨i, m, e, hi, hm, h1, by apply Array.ext'; simpa using h2, h3⟩
      · cases h
theorem nilAhead_of {t : TypeId} {n : String} {f : FuncId} {w : World} (h : methF P t n = some f) (z : Value) : (nilAhead (P.types.size + Made.depth) t z n).run P w = .ok (some false) w := by
  obtain ⟨i, m, e, h1, h2, h3, h4, h5⟩ := methF_some h
  have hd : P.types.size + Made.depth = (P.types.size + 99) + 1 := rfl
  rw [hd, nilAhead.eq_2]
  simp [typeInfo, h1, h2, h3, h4, followBlind]
theorem method_of {t : TypeId} {n : String} {f : FuncId} {w : World} (h : methF P t n = some f) (z : Value) : (method (P.types.size + Made.depth) t z n).run P w = .ok (f, z) w := by
  obtain ⟨i, m, e, h1, h2, h3, h4, h5⟩ := methF_some h
  have hd : P.types.size + Made.depth = (P.types.size + 99) + 1 := rfl
  rw [hd]
  have hu : P.underlying t = some (.pointer e) := by
    unfold Program.underlying
    rw [h1]
    obtain ⟨d, _, _, _⟩ := i
    simp only at h5
    subst h5
    rfl
  rw [method.eq_2]
  simp [typeInfo, h1, h2, h3, h4, follow, receiverAt, run_underlying hu, Place.get]
theorem sound_nilCheck {x : Operand} {u : Value} (ho : o.op = .nilCheck x) (hx : conc m u = some (ρ x)) (h : nilChk P u = some v) : PureDoes P m ρ o v := by
  have fin : u = v → (∀ w, (execOp ρ o).run P w = .ok (.value (ρ x)) w) → PureDoes P m ρ o v := fun e hr => ⟨ρ x, e ▸ hx, hr⟩
  cases u with
  | bool b => cases h; rw [conc_bool] at hx; have e := (Option.some.inj hx).symm; exact fin rfl (fun w => by simp [execOp, ho, e])
  | int k n => cases h; rw [conc_int] at hx; have e := (Option.some.inj hx).symm; exact fin rfl (fun w => by simp [execOp, ho, e])
  | string s => cases h; rw [conc_string] at hx; have e := (Option.some.inj hx).symm; exact fin rfl (fun w => by simp [execOp, ho, e])
  | pointer p =>
    have h : (ob p fun _ => some (Value.pointer p)) = some v := h
    obtain ⟨a, rfl, h⟩ := ob_some h
    cases h
    obtain ⟨_, _, _, e⟩ := conc_pointer hx
    exact fin rfl (fun w => by simp [execOp, ho, e])
  | slice a l c => cases h; obtain ⟨_, _, _, e⟩ := conc_slice_shape hx; exact fin rfl (fun w => by simp [execOp, ho, e])
  | map r => cases h; obtain ⟨_, e⟩ := conc_map_shape hx; exact fin rfl (fun w => by simp [execOp, ho, e])
  | func f a c =>
    have h : nilChkF P f a (.func f a c) = some v := h
    obtain ⟨a⟩ := a
    obtain ⟨c⟩ := c
    cases f with
    | func f =>
      cases h
      have hx' := hx
      simp only [conc] at hx'
      split at hx'
      · have e := (Option.some.inj hx').symm
        exact fin rfl (fun w => by simp [execOp, ho, e])
      · cases hx'
    | yield l =>
      cases h
      have hx' := hx
      match a, c, hx' with
      | [], [], hx' =>
        simp only [conc, Option.map_eq_some_iff] at hx'
        obtain ⟨z, _, e⟩ := hx'
        exact fin rfl (fun w => by simp [execOp, ho, ← e])
      | _ :: _, _, hx' => simp [conc] at hx'
      | [], _ :: _, hx' => simp [conc] at hx'
    | method n =>
      have h : nilChkM P n a (.func (.method n) ⟨a⟩ ⟨c⟩) = some v := h
      unfold nilChkM at h
      split at h
      · rename_i t z rest
        obtain ⟨g, hg, h⟩ := ob_some h
        cases h
        have hx' := hx
        simp only [conc] at hx'
        split at hx'
        · rename_i ca cc e1 e2
          have e := (Option.some.inj hx').symm
          obtain ⟨c0, cr, f1, f2, rfl⟩ := concL_cons e1
          simp only [conc, Option.map_eq_some_iff] at f1
          obtain ⟨z', hz', rfl⟩ := f1
          refine fin rfl (fun w => ?_)
          have := nilAhead_of hg (w := w) z'
          simp [execOp, ho, e, this]
        · cases hx'
      · cases h
    | _ => cases h
  | nilFunc => cases h
  | nilIface => cases h
  | iface t z =>
    cases h
    have hx' := hx
    simp only [conc, Option.map_eq_some_iff] at hx'
    obtain ⟨z, _, e⟩ := hx'
    exact fin rfl (fun w => by simp [execOp, ho, ← e])
  | agg a => cases h; obtain ⟨_, _, e⟩ := conc_agg hx; exact fin rfl (fun w => by simp [execOp, ho, e])
  | tuple a => cases h; obtain ⟨_, _, e⟩ := conc_tuple hx; exact fin rfl (fun w => by simp [execOp, ho, e])
  | float k b =>
    cases h
    have e : ρ x = OVal.val b := by rw [conc_float] at hx; exact (Option.some.inj hx).symm
    rcases OVal.shape b with ⟨k', n, e'⟩ | ⟨s, e'⟩ | ⟨a', l', c', e'⟩ <;> rw [e'] at e <;> exact fin rfl (fun w => by simp [execOp, ho, e])
  | complex k a b => simp [conc] at hx
  | chan r => simp [conc] at hx

theorem sound_makeFunc {fn : Fn} {first cap : Array Operand} {A : T Value} (ho : o.op = .makeFunc fn first cap) (h1 : ∀ x ∈ first.toList, conc m (ev A x) = some (ρ x)) (h2 : ∀ x ∈ cap.toList, conc m (ev A x) = some (ρ x))
    (h : makeFuncV fn (first.toList.map (ev A)) (cap.toList.map (ev A)) = some v) : PureDoes P m ρ o v := by
  unfold makeFuncV at h
  split at h
  · rename_i f
    cases h
    refine ⟨.func (.func f) ⟨first.toList.map ρ⟩ ⟨cap.toList.map ρ⟩, ?_, fun w => ?_⟩
    · simp only [conc, concL_map (ev A) ρ _ h1, concL_map (ev A) ρ _ h2]
    · have e1 : first.map ρ = ⟨first.toList.map ρ⟩ := by apply Array.ext'; simp
      have e2 : cap.map ρ = ⟨cap.toList.map ρ⟩ := by apply Array.ext'; simp
      simp [execOp, ho, Instr.makeFunc, e1, e2]
  · rename_i f
    cases h
    refine ⟨.func (.method f) ⟨first.toList.map ρ⟩ ⟨cap.toList.map ρ⟩, ?_, fun w => ?_⟩
    · simp only [conc, concL_map (ev A) ρ _ h1, concL_map (ev A) ρ _ h2]
    · have e1 : first.map ρ = ⟨first.toList.map ρ⟩ := by apply Array.ext'; simp
      have e2 : cap.map ρ = ⟨cap.toList.map ρ⟩ := by apply Array.ext'; simp
      simp [execOp, ho, Instr.makeFunc, e1, e2]
  · cases h

theorem sound_fieldAddr {t f : Nat} {x : Operand} {u : Value} (ho : o.op = .fieldAddr t x f) (hx : conc m u = some (ρ x)) (h : fieldAddrV P t f u = some v) : PureDoes P m ρ o v := by
  unfold fieldAddrV at h
  obtain ⟨off, h1, h⟩ := ob_some h
  obtain ⟨a, h2, h⟩ := ob_some h
  cases h
  have := asP_some h2
  subst this
  obtain ⟨y, hy, hs, hc⟩ := conc_pointer hx
  obtain ⟨b, o', s⟩ := a
  simp only at hs
  subst hs
  refine ⟨.pointer (some ⟨y.blk, y.sh + (o' + off), none⟩), by rw [add_eq]; exact conc_pointer' hy, fun w => ?_⟩
  unfold offOf fieldOf at h1
  cases hu : P.underlying t with
  | none => rw [hu] at h1; cases h1
  | some d =>
    rw [hu] at h1
    cases d with
    | struct fs =>
      simp only at h1
      cases hf : fs[f]? with
      | none => rw [hf] at h1; cases h1
      | some fd =>
        rw [hf] at h1
        simp only at h1
        cases hz : sz P fd.type with
        | none => rw [hz] at h1; cases h1
        | some n =>
          rw [hz] at h1
          simp only at h1
          split at h1
          · cases h1
          · rename_i hn
            cases h1
            simp [execOp, ho, Instr.fieldAt, run_underlying hu, hf, hc, Instr.sureAddr, fieldPlace, run_sz hz, hn, add_eq, Nat.add_assoc]
    | _ => cases h1

theorem sound_field {t f : Nat} {x : Operand} {u : Value} (ho : o.op = .field t x f) (hx : conc m u = some (ρ x)) (h : fieldV P t f u = some v) : PureDoes P m ρ o v := by
  unfold fieldV at h
  obtain ⟨fd, h1, h⟩ := ob_some h
  obtain ⟨l, h2, h⟩ := ob_some h
  have := asA_some h2
  subst this
  obtain ⟨l', hl', e⟩ := conc_agg hx
  obtain ⟨c, hc, _⟩ := part_sound (P := P) hl' h default
  refine ⟨c, hc, fun w => ?_⟩
  obtain ⟨c', hc', hr⟩ := part_sound (P := P) hl' h w
  rw [hc] at hc'
  cases hc'
  unfold fieldOf at h1
  cases hu : P.underlying t with
  | none => rw [hu] at h1; cases h1
  | some d =>
    rw [hu] at h1
    cases d with
    | struct fs => simp only at h1; simp [execOp, ho, Instr.field, run_underlying hu, h1, e, asAgg, hr]
    | _ => cases h1

theorem inB_some {i : Int} {len k : Nat} (h : inB i len = some k) : i = k ∧ k < len := by
  cases i with
  | ofNat n =>
    have h : bsel (Nat.blt n len) none (some n) = some k := h
    cases hb : Nat.blt n len with
    | false => rw [hb] at h; cases h
    | true => rw [hb] at h; cases h; simp [Nat.blt] at hb; exact ⟨rfl, by omega⟩
  | negSucc n => cases h

theorem sound_indexAddr {t : TypeId} {x i : Operand} {u z : Value} (ho : o.op = .indexAddr t x i) (hx : conc m u = some (ρ x)) (hi : conc m z = some (ρ i)) (h : indexAddrV P t u z = some v) : PureDoes P m ρ o v := by
  unfold indexAddrV at h
  obtain ⟨n, hn, h2⟩ := ob_some h
  clear h
  obtain ⟨k, rfl⟩ := asI_some hn
  rw [conc_int] at hi
  have ei := (Option.some.inj hi).symm
  cases u with
  | pointer p =>
    have h3 : ob p (idxP P t n) = some v := h2
    clear h2
    obtain ⟨a, rfl, h4⟩ := ob_some h3
    clear h3
    unfold idxP at h4
    obtain ⟨q, hq, h5⟩ := ob_some h4
    obtain ⟨j, hj, h6⟩ := ob_some h5
    clear h4 h5
    cases h6
    obtain ⟨rfl, hlt⟩ := inB_some hj
    obtain ⟨y, hy, hs, hc⟩ := conc_pointer hx
    obtain ⟨b, o', s⟩ := a
    simp only at hs
    subst hs
    refine ⟨.pointer (some ⟨y.blk, y.sh + (o' + j * q.2), none⟩), by rw [add_eq]; exact conc_pointer' hy, fun w => ?_⟩
    unfold arrOf at hq
    cases hu : P.underlying t with
    | none => rw [hu] at hq; cases hq
    | some d =>
      rw [hu] at hq
      cases d with
      | array len e =>
        simp only [Option.map_eq_some_iff] at hq
        obtain ⟨sz', hsz, rfl⟩ := hq
        simp only at hlt
        have hlt' := hlt
        simp [execOp, ho, Instr.indexAt, ei, hc, asIntOf, run_underlying hu, Instr.sureAddr, hlt', run_sz hsz, add_eq, Nat.add_assoc]
        try (intro hge; omega)
      | _ => cases hq
  | slice p len code =>
    have h3 : ob p (idxS P t n len) = some v := h2
    clear h2
    obtain ⟨a, rfl, h4⟩ := ob_some h3
    clear h3
    unfold idxS at h4
    obtain ⟨q, hq, h5⟩ := ob_some h4
    obtain ⟨j, hj, h6⟩ := ob_some h5
    clear h4 h5
    cases h6
    obtain ⟨rfl, hlt⟩ := inB_some hj
    obtain ⟨b, o', s⟩ := a
    cases s with
    | some s =>
      cases len with
      | zero => omega
      | succ len => simp [conc] at hx
    | none =>
      simp only [conc, Option.map_eq_some_iff] at hx
      obtain ⟨y, hy, hc⟩ := hx
      refine ⟨.pointer (some ⟨y.blk, y.sh + (o' + j * q), none⟩), by rw [add_eq]; exact conc_pointer' hy, fun w => ?_⟩
      unfold sliceSz at hq
      cases hu : P.underlying t with
      | none => rw [hu] at hq; cases hq
      | some d =>
        rw [hu] at hq
        cases d with
        | slice e =>
          simp only at hq
          have hlt' := hlt
          simp [execOp, ho, Instr.indexAt, ei, ← hc, asIntOf, run_underlying hu, hlt', run_sz hq, add_eq, Nat.add_assoc]
          try (intro hge; omega)
        | _ => cases hq
  | _ => cases h2

theorem sound_index {t : TypeId} {x i : Operand} {u z : Value} (ho : o.op = .index t x i) (hx : conc m u = some (ρ x)) (hi : conc m z = some (ρ i)) (h : indexV P t u z = some v) : PureDoes P m ρ o v := by
  unfold indexV at h
  obtain ⟨n, hn, h2⟩ := ob_some h
  clear h
  obtain ⟨k, rfl⟩ := asI_some hn
  rw [conc_int] at hi
  have ei := (Option.some.inj hi).symm
  split at h2
  · rename_i len e cs hu
    obtain ⟨j, hj, h3⟩ := ob_some h2
    obtain ⟨q, hq, h⟩ := ob_some h3
    clear h2 h3
    obtain ⟨rfl, hlt⟩ := inB_some hj
    obtain ⟨l', hl', ec⟩ := conc_agg hx
    obtain ⟨c, hc, _⟩ := part_sound (P := P) hl' h default
    refine ⟨c, hc, fun w => ?_⟩
    obtain ⟨c', hc', hr⟩ := part_sound (P := P) hl' h w
    rw [hc] at hc'
    cases hc'
    have hlt' := hlt
    simp [execOp, ho, Instr.index, ei, ec, asIntOf, run_underlying hu, hlt', run_sz hq, hr]
    try (intro hge; omega)
  · rename_i s hu
    obtain ⟨j, hj, h3⟩ := ob_some h2
    obtain ⟨b, hb, h4⟩ := ob_some h3
    clear h2 h3
    cases h4
    obtain ⟨rfl, hlt⟩ := inB_some hj
    rw [conc_string] at hx
    have ex := (Option.some.inj hx).symm
    refine ⟨_, conc_int m _ _, fun w => ?_⟩
    have hg : s[j]? = some b := by
      have hlt2 : j < s.data.toList.length := by simpa using hlt
      rw [List.getElem?_eq_getElem hlt2] at hb
      have hb' := Option.some.inj hb
      rw [getElem?_pos s j hlt]
      rw [← hb']
      rfl
    simp [execOp, ho, Instr.index, ei, ex, asIntOf, run_underlying hu, hg]
  · cases h2

theorem sound_extract {t : Operand} {i : Nat} {u : Value} (ho : o.op = .extract t i) (hx : conc m u = some (ρ t)) (h : extractV i u = some v) : PureDoes P m ρ o v := by
  unfold extractV at h
  obtain ⟨l, hl, h⟩ := ob_some h
  have := asT_some hl
  subst this
  obtain ⟨l', hl', e⟩ := conc_tuple hx
  obtain ⟨c, hc, hg⟩ := concL_get hl' i v h
  exact ⟨c, hc, fun w => by simp [execOp, ho, e, Instr.extract, hg]⟩

theorem sound_convert {s d : TypeId} {x : Operand} {u : Value} (ho : o.op = .convert s d x) (hx : conc m u = some (ρ x)) (h : convPure P s d u = some v) : PureDoes P m ρ o v := by
  unfold convPure at h
  split at h
  · rename_i h1 h2
    rw [conc_int] at hx
    have ex := (Option.some.inj hx).symm
    cases h
    refine ⟨_, conc_int m _ _, fun w => ?_⟩
    rw [wrapF_eq]
    simp [execOp, ho, convert, ex, run_underlying h1, run_underlying h2, Conv.intToInt]
  · rename_i h1 h2
    obtain ⟨_, _, hpz, q1, a, h3, h4⟩ := symV_holds h
    rw [conc_float] at hx
    have ex : ρ x = .int q1 a := by rw [← Option.some.inj hx]; exact h3
    refine ⟨_, conc_plain m hpz, fun w => ?_⟩
    rw [h4]
    simp [execOp, ho, convert, ex, run_underlying h1, run_underlying h2, Conv.intToInt]
  · rename_i d' b h1 h2
    rw [conc_string] at hx
    have ex := (Option.some.inj hx).symm
    cases h
    refine ⟨_, conc_string m _, fun w => ?_⟩
    simp [execOp, ho, convert, ex, run_underlying h1, run_underlying h2]
  · cases h
end Go.Ev
