/-
  A part of the proof that the evaluator answers what the model answers, for every program that follows mixed orders; no other condition.
-/
import Derived.Test.YtnfmgkkhejminaaGreatDoorEvAF
namespace Go.Ev
set_option linter.unusedSectionVars false
variable [OTab] [OVal]
variable {P : Program}

def TmRel (m : Map) (A : T Value) (tmps : Array Value) : Prop := ∀ t, conc m (tg A t) = some (tmps.getD t undef)
theorem TmRel.mono {m m' : Map} (hm : Sub m m') {A : T Value} {tmps : Array Value} (h : TmRel m A tmps) : TmRel m' A tmps := fun t => conc_mono hm _ _ (h t)

theorem tg_putA (A : T Value) (dst : Option Tmp) (v : Value) (t : Nat) : tg (putA A dst v) t = if dst = some t then v else tg A t := by
  cases dst with
  | none => simp [putA]
  | some d =>
    show tgO ((A.put (some v) d).get t) = _
    rw [get_put]
    by_cases h : t = d
    · subst h; simp [tgO]
    · rw [if_neg h, if_neg (by simpa using Ne.symm h)]; rfl

def putC (tmps : Array Value) (dst : Option Tmp) (v : Value) : Array Value :=
  match dst with
  | some d => tmps.setIfInBounds d v
  | none => tmps
theorem putC_size (tmps : Array Value) (dst : Option Tmp) (v : Value) : (putC tmps dst v).size = tmps.size := by cases dst <;> simp [putC]
theorem TmRel.put {m : Map} {A : T Value} {tmps : Array Value} {n : Nat} (h : TmRel m A tmps) (hs : tmps.size = n) {dst : Option Tmp} {v cv : Value} (hd : ∀ d, dst = some d → d < n) (hv : conc m v = some cv) : TmRel m (putA A dst v) (putC tmps dst cv) := by
  intro t
  rw [tg_putA]
  cases dst with
  | none => simpa [putC] using h t
  | some d =>
    have hdn := hd d rfl
    by_cases e : d = t
    · subst e
      have : d < tmps.size := by rw [hs]; exact hdn
      simp [putC, hv, this]
    · rw [if_neg (by simpa using e)]
      have := h t
      simp only [putC, Array.getD_eq_getD_getElem?, Array.getElem?_setIfInBounds_ne e] at this ⊢
      exact this
theorem finish_eq {fr : Frame} {ops : Array Oper} {i : Nat} {rest : List Nat} {k : List Item} (ht : fr.todo = .inRegion ops (i :: rest) :: k) (v : Value) : fr.finish v = { fr with tmps := putC fr.tmps ((ops[i]?).bind (·.dst)) v, todo := .inRegion ops rest :: k } := by
  unfold Frame.finish
  rw [ht]
  simp only
  cases (ops[i]?).bind (·.dst) <;> rfl

theorem conc_bool_inv {m : Map} {v : Value} {b : Bool} (h : conc m v = some (.bool b)) : v = .bool b := by
  cases v with
  | bool c => rw [conc_bool] at h; cases h; rfl
  | int k n => rw [conc_int] at h; cases h
  | string s => rw [conc_string] at h; cases h
  | pointer p => obtain ⟨a, e⟩ := conc_ptr_shape h; cases e
  | slice a l c => obtain ⟨_, _, _, e⟩ := conc_slice_shape h; cases e
  | map r => obtain ⟨_, e⟩ := conc_map_shape h; cases e
  | func f a c => obtain ⟨_, _, _, e⟩ := conc_func_shape h; cases e
  | nilFunc => simp [conc] at h
  | nilIface => simp [conc] at h
  | iface t v => simp only [conc, Option.map_eq_some_iff] at h; obtain ⟨x, hx, e⟩ := h; cases e
  | agg a => obtain ⟨_, _, e⟩ := conc_agg h; cases e
  | tuple a => obtain ⟨_, _, e⟩ := conc_tuple h; cases e
  | float k i =>
    rw [conc_float] at h
    rcases OVal.shape i with ⟨k', n, e'⟩ | ⟨s, e'⟩ | ⟨a', l', c', e'⟩ <;> rw [e'] at h <;> cases h
  | complex k a b => simp [conc] at h
  | chan r => simp [conc] at h

theorem wanted_eq {m : Map} {A : T Value} {tmps : Array Value} (h : TmRel m A tmps) (ops : Array Oper) (o : Oper) : wantedA ops A o.guard = Region.wanted o (yielded ops tmps) := by
  unfold Region.wanted
  cases hg : o.guard with
  | none => rfl
  | some p =>
    obtain ⟨j, want⟩ := p
    show wantedD A want (dstOf ops j) = (yielded ops tmps j == some want)
    unfold yielded dstOf
    cases hd : (ops[j]?).bind (·.dst) with
    | none => rfl
    | some d =>
      show isB (tg A d) want = _
      have hc := h d
      simp only [Option.bind_some]
      cases ht : tmps[d]? with
      | none =>
        have hund : tmps.getD d undef = undef := by simp [Array.getD_eq_getD_getElem?, ht]
        rw [hund] at hc
        cases hv : tg A d with
        | bool b => rw [hv, conc_bool] at hc; cases hc
        | _ => rfl
      | some u =>
        have hu : tmps.getD d undef = u := by simp [Array.getD_eq_getD_getElem?, ht]
        rw [hu] at hc
        cases u with
        | bool b =>
          have := conc_bool_inv hc
          rw [this]
          show (b == want) = (some b == some want)
          simp
        | _ =>
          have hnb : ∀ b, tg A d ≠ .bool b := fun b e => by rw [e, conc_bool] at hc; cases hc
          have : isB (tg A d) want = false := by
            cases hv : tg A d with
            | bool b => exact absurd hv (hnb b)
            | _ => rfl
          rw [this]
          rfl

theorem opnd_conc {m : Map} {st : St} {w : World} {A : T Value} {tmps : Array Value} (h : Rel P m st w) (ht : TmRel m A tmps) {x : Operand} (hx : opndOk P x = true) : conc m (ev A x) = some (evT tmps x) := by
  cases x with
  | tmp t => exact ht t
  | const v => exact conc_plainC hx
  | global g =>
    have hg : g < P.globals.size := by have : Nat.blt g P.globals.size = true := hx; simp [Nat.blt] at this; omega
    obtain ⟨l, hl⟩ := h.glob g hg
    show conc m (.pointer (some ⟨g, 0, none⟩)) = _
    simp [conc, hl, evT]
  | func f =>
    show conc m (.func (.func f) #[] #[]) = _
    simp [conc, evT]

theorem oper_conc {m : Map} {st : St} {w : World} {A : T Value} {tmps : Array Value} (h : Rel P m st w) (ht : TmRel m A tmps) {n : Nat} {o : Oper} (hx : operOk P n o = true) : ∀ x ∈ o.op.operands.toList, conc m (ev A x) = some (evT tmps x) := by
  unfold operOk at hx
  rw [Bool.and_eq_true] at hx
  intro x hm
  exact opnd_conc h ht (List.all_eq_true.1 hx.1 x hm)
theorem oper_dst {n : Nat} {o : Oper} (hx : operOk P n o = true) : ∀ d, o.dst = some d → d < n := by
  unfold operOk at hx
  rw [Bool.and_eq_true] at hx
  intro d hd
  have := hx.2
  rw [hd] at this
  simpa using this

/-- a region in the order of its text -/
theorem ops_sound {E : Env} {ops : Array Oper} {n : Nat} (hcall : CallOk P E.call) (haf : CallAF E.call) : ∀ (l : List Oper) (i : Nat) (A : T Value) (st : St) (r : OpsRes), (∀ j : Nat, l[j]? = ops[i + j]?) → (∀ o ∈ l, operOk P n o = true) → evOps P E ops l A st = some r →
    ∀ (m : Map) (w : World) (fr : Frame) (k : List Item), Rel P m st w → Free m st.nxt r.st.nxt → TmRel m A fr.tmps → fr.tmps.size = n → fr.mode = .run → fr.todo = .inRegion ops (List.range' i l.length) :: k →
      ∃ m' w' tmps', Step P m st w m' r.st w' ∧ TmRel m' r.A tmps' ∧ tmps'.size = n ∧ ∀ cs, Steps P (lone fr cs w) (lone { fr with tmps := tmps', todo := k } cs w')
  | [], i, A, st, r, _, _, h, m, w, fr, k, hr, hfr, ht, hs, hm, htodo => by
    rw [evOps_nil] at h
    cases h
    simp at htodo
    exact ⟨m, w, fr.tmps, Step.refl hr, ht, hs, fun _ => .one (st_regionEnd hm htodo)⟩
  | o :: l, i, A, st, r, hget, hok, h, m, w, fr, k, hr, hfr, ht, hs, hm, htodo => by
    have ho : ops[i]? = some o := by simpa using (hget 0).symm
    have hoo := hok o (by simp)
    simp only [List.length_cons, List.range'_succ] at htodo
    rw [evOps_cons] at h
    have hw := wanted_eq ht ops o
    have hnext : ∀ j : Nat, l[j]? = ops[i + 1 + j]? := fun j => by have := hget (j + 1); simpa [Nat.add_assoc, Nat.add_comm 1 j] using this
    split at h
    · rename_i hwt
      obtain ⟨p, hp, h2⟩ := ob_some h
      obtain ⟨v, st1⟩ := p
      obtain ⟨m1, w1, cv, g1, g2, g3⟩ := op_sound (ρ := evT fr.tmps) hcall hr (hfr.sub (Nat.le_refl _) (evOps_af haf _ _ _ _ h2).nxt) (oper_conc hr ht hoo) hp
      have hsteps := fun cs => g3 fr ops i _ k cs hm htodo ho (by rw [← hw]; exact hwt) (eval_evT fr)
      simp only [finish_eq htodo] at hsteps
      have hdst : (ops[i]?).bind (·.dst) = o.dst := by rw [ho]; rfl
      simp only [hdst] at hsteps
      have ht1 := (ht.mono g1.sub).put hs (oper_dst hoo) g2
      obtain ⟨m2, w2, tmps2, q1, q2, q3, q4⟩ := ops_sound hcall haf l (i + 1) _ st1 r hnext (fun o' ho' => hok o' (by simp [ho'])) h2 m1 w1 { fr with tmps := putC fr.tmps o.dst cv, todo := .inRegion ops (List.range' (i + 1) l.length) :: k } k g1.rel (g1.free hfr) ht1 (by rw [putC_size]; exact hs) hm rfl
      exact ⟨m2, w2, tmps2, g1.trans q1, q2, q3, fun cs => (hsteps cs).trans (q4 cs)⟩
    · rename_i hwt
      have hwf : Region.wanted o (yielded ops fr.tmps) = false := by rw [← hw]; simpa using hwt
      have hstep := fun cs => st_opSkip (P := P) (cs := cs) (w := w) hm htodo (by simp [ho, hwf])
      simp only [finish_eq htodo] at hstep
      have hdst : (ops[i]?).bind (·.dst) = o.dst := by rw [ho]; rfl
      simp only [hdst] at hstep
      have ht1 := ht.put hs (oper_dst hoo) (conc_undef m)
      obtain ⟨m2, w2, tmps2, q1, q2, q3, q4⟩ := ops_sound hcall haf l (i + 1) _ st r hnext (fun o' ho' => hok o' (by simp [ho'])) h m w { fr with tmps := putC fr.tmps o.dst undef, todo := .inRegion ops (List.range' (i + 1) l.length) :: k } k hr hfr ht1 (by rw [putC_size]; exact hs) hm rfl
      exact ⟨m2, w2, tmps2, q1, q2, q3, fun cs => .head (hstep cs) (q4 cs)⟩
end Go.Ev
