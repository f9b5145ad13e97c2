/-
  A part of the proof that the evaluator answers what the model answers, for every program that follows mixed orders; no other condition.
-/
import Derived.Test.YtnfmgkkhejminaaGreatDoorStEvAppend
namespace Go.Ev
set_option linter.unusedSectionVars false
variable [OTab] [OVal]
variable {P : Program}

def TmRel (m : Map) (A : T Value) (tmps : Array Value) : Prop := ∀ t, conc m (tg A t) = some (tmps.getD t undef)
theorem TmRel.mono {m m' : Map} (hm : Sub m m') {A : T Value} {tmps : Array Value} (h : TmRel m A tmps) : TmRel m' A tmps := fun t => conc_mono hm _ _ (h t)

theorem tg_putA (A : T Value) (dst : Option Tmp) (v : Value) (t : Nat) : tg (putA A dst v) t = if dst = some t then v else tg A t := by
  cases dst with
  | none => simp [putA]
  | some d =>
    show tgO ((A.put (some v) d).get t) = _
    rw [get_put]
    by_cases h : t = d
    · subst h; simp [tgO]
    · rw [if_neg h, if_neg (by simpa using Ne.symm h)]; rfl

def putC (tmps : Array Value) (dst : Option Tmp) (v : Value) : Array Value :=
  match dst with
  | some d => tmps.setIfInBounds d v
  | none => tmps
theorem putC_size (tmps : Array Value) (dst : Option Tmp) (v : Value) : (putC tmps dst v).size = tmps.size := by cases dst <;> simp [putC]
theorem TmRel.put {m : Map} {A : T Value} {tmps : Array Value} {n : Nat} (h : TmRel m A tmps) (hs : tmps.size = n) {dst : Option Tmp} {v cv : Value} (hd : ∀ d, dst = some d → d < n) (hv : conc m v = some cv) : TmRel m (putA A dst v) (putC tmps dst cv) := by
  intro t
  rw [tg_putA]
  cases dst with
  | none => simpa [putC] using h t
  | some d =>
    have hdn := hd d rfl
    by_cases e : d = t
    · subst e
      have : d < tmps.size := by rw [hs]; exact hdn
      simp [putC, hv, this]
    · rw [if_neg (by simpa using e)]
      have := h t
      simp only [putC, Array.getD_eq_getD_getElem?, Array.getElem?_setIfInBounds_ne e] at this ⊢
      exact this
theorem finish_eq {fr : Frame} {ops : Array Oper} {i : Nat} {rest : List Nat} {k : List Item} (ht : fr.todo = .inRegion ops (i :: rest) :: k) (v : Value) : fr.finish v = { fr with tmps := putC fr.tmps ((ops[i]?).bind (·.dst)) v, todo := .inRegion ops rest :: k } := by
  unfold Frame.finish
  rw [ht]
  simp only
  cases (ops[i]?).bind (·.dst) <;> rfl

theorem conc_bool_inv {m : Map} {v : Value} {b : Bool} (h : conc m v = some (.bool b)) : v = .bool b := by
  cases v with
  | bool c => rw [conc_bool] at h; cases h; rfl
  | int k n => rw [conc_int] at h; cases h
  | string s => rw [conc_string] at h; cases h
  | pointer p => obtain ⟨a, e⟩ := conc_ptr_shape h; cases e
  | slice a l c => obtain ⟨_, _, _, e⟩ := conc_slice_shape h; cases e
  | map r => obtain ⟨_, e⟩ := conc_map_shape h; cases e
  | func f a c => obtain ⟨_, _, _, e⟩ := conc_func_shape h; cases e
  | nilFunc => simp [conc] at h
  | nilIface => simp [conc] at h
  | iface t v => simp only [conc, Option.map_eq_some_iff] at h; obtain ⟨x, hx, e⟩ := h; cases e
  | agg a => obtain ⟨_, _, e⟩ := conc_agg h; cases e
  | tuple a => obtain ⟨_, _, e⟩ := conc_tuple h; cases e
  | float k i =>
    rw [conc_float] at h
    rcases OVal.shape i with ⟨k', n, e'⟩ | ⟨s, e'⟩ | ⟨a', l', c', e'⟩ <;> rw [e'] at h <;> cases h
  | complex k a b => simp [conc] at h
  | chan r => simp [conc] at h

theorem wanted_eq {m : Map} {A : T Value} {tmps : Array Value} (h : TmRel m A tmps) (ops : Array Oper) (o : Oper) : wantedA ops A o.guard = Region.wanted o (yielded ops tmps) := by
  unfold Region.wanted
  cases hg : o.guard with
  | none => rfl
  | some p =>
    obtain ⟨j, want⟩ := p
    show wantedD A want (dstOf ops j) = (yielded ops tmps j == some want)
    unfold yielded dstOf
    cases hd : (ops[j]?).bind (·.dst) with
    | none => rfl
    | some d =>
      show isB (tg A d) want = _
      have hc := h d
      simp only [Option.bind_some]
      cases ht : tmps[d]? with
      | none =>
        have hund : tmps.getD d undef = undef := by simp [Array.getD_eq_getD_getElem?, ht]
        rw [hund] at hc
        cases hv : tg A d with
        | bool b => rw [hv, conc_bool] at hc; cases hc
        | _ => rfl
      | some u =>
        have hu : tmps.getD d undef = u := by simp [Array.getD_eq_getD_getElem?, ht]
        rw [hu] at hc
        cases u with
        | bool b =>
          have := conc_bool_inv hc
          rw [this]
          show (b == want) = (some b == some want)
          simp
        | _ =>
          have hnb : ∀ b, tg A d ≠ .bool b := fun b e => by rw [e, conc_bool] at hc; cases hc
          have : isB (tg A d) want = false := by
            cases hv : tg A d with
            | bool b => exact absurd hv (hnb b)
            | _ => rfl
          rw [this]
          rfl

theorem opnd_conc {m : Map} {st : St} {w : World} {A : T Value} {tmps : Array Value} (h : Rel P m st w) (ht : TmRel m A tmps) {x : Operand} (hx : opndOk P x = true) : conc m (ev A x) = some (evT tmps x) := by
  cases x with
  | tmp t => exact ht t
  | const v => exact conc_plainC hx
  | global g =>
    have hg : g < P.globals.size := by have : Nat.blt g P.globals.size = true := hx; simp [Nat.blt] at this; omega
    obtain ⟨l, hl⟩ := h.glob g hg
    show conc m (.pointer (some ⟨g, 0, none⟩)) = _
    simp [conc, hl, evT]
  | func f =>
    show conc m (.func (.func f) #[] #[]) = _
    simp [conc, evT]

theorem oper_conc {m : Map} {st : St} {w : World} {A : T Value} {tmps : Array Value} (h : Rel P m st w) (ht : TmRel m A tmps) {n : Nat} {o : Oper} (hx : operOk P n o = true) : ∀ x ∈ o.op.operands.toList, conc m (ev A x) = some (evT tmps x) := by
  unfold operOk at hx
  rw [Bool.and_eq_true] at hx
  intro x hm
  exact opnd_conc h ht (List.all_eq_true.1 hx.1 x hm)
theorem oper_dst {n : Nat} {o : Oper} (hx : operOk P n o = true) : ∀ d, o.dst = some d → d < n := by
  unfold operOk at hx
  rw [Bool.and_eq_true] at hx
  intro d hd
  have := hx.2
  rw [hd] at this
  simpa using this

/-- a region in the order of its text -/
theorem ops_sound {E : Env} {ops : Array Oper} {n : Nat} (hcall : CallOk P E.call) (haf : CallAF E.call) : ∀ (l : List Oper) (i : Nat) (A : T Value) (st : St) (r : OpsRes), (∀ j : Nat, l[j]? = ops[i + j]?) → (∀ o ∈ l, operOk P n o = true) → evOps P E ops l A st = some r →
    ∀ (m : Map) (w : World) (fr : Frame) (k : List Item) (cs : List Frame), Rel P m st w → Free m st.nxt r.st.nxt → TmRel m A fr.tmps → fr.tmps.size = n → fr.mode = .run → fr.todo = .inRegion ops (List.range' i l.length) :: k →
      ∃ m' w' tmps', Step P m st w m' r.st w' ∧ TmRel m' r.A tmps' ∧ tmps'.size = n ∧ Steps P (lone fr cs w) (lone { fr with tmps := tmps', todo := k } cs w')
  | [], i, A, st, r, _, _, h, m, w, fr, k, cs, hr, hfr, ht, hs, hm, htodo => by
    rw [evOps_nil] at h
    cases h
    simp at htodo
    exact ⟨m, w, fr.tmps, Step.refl hr, ht, hs, .one (st_regionEnd hm htodo)⟩
  | o :: l, i, A, st, r, hget, hok, h, m, w, fr, k, cs, hr, hfr, ht, hs, hm, htodo => by
    have ho : ops[i]? = some o := by simpa using (hget 0).symm
    have hoo := hok o (by simp)
    simp only [List.length_cons, List.range'_succ] at htodo
    rw [evOps_cons] at h
    have hw := wanted_eq ht ops o
    have hnext : ∀ j : Nat, l[j]? = ops[i + 1 + j]? := fun j => by have := hget (j + 1); simpa [Nat.add_assoc, Nat.add_comm 1 j] using this
    split at h
    · rename_i hwt
      obtain ⟨p, hp, h2⟩ := ob_some h
      obtain ⟨v, st1⟩ := p
      obtain ⟨m1, w1, cv, g1, g2, g3⟩ := op_sound fr cs (ρ := evT fr.tmps) hcall hr (hfr.sub (Nat.le_refl _) (evOps_af haf _ _ _ _ h2).nxt) (oper_conc hr ht hoo) hp
      have hsteps := g3 ops i _ k hm htodo ho (by rw [← hw]; exact hwt) (eval_evT fr)
      simp only [finish_eq htodo] at hsteps
      have hdst : (ops[i]?).bind (·.dst) = o.dst := by rw [ho]; rfl
      simp only [hdst] at hsteps
      have ht1 := (ht.mono g1.sub).put hs (oper_dst hoo) g2
      obtain ⟨m2, w2, tmps2, q1, q2, q3, q4⟩ := ops_sound hcall haf l (i + 1) _ st1 r hnext (fun o' ho' => hok o' (by simp [ho'])) h2 m1 w1 { fr with tmps := putC fr.tmps o.dst cv, todo := .inRegion ops (List.range' (i + 1) l.length) :: k } k cs g1.rel (g1.free hfr) ht1 (by rw [putC_size]; exact hs) hm rfl
      exact ⟨m2, w2, tmps2, g1.trans q1, q2, q3, hsteps.trans q4⟩
    · rename_i hwt
      have hwf : Region.wanted o (yielded ops fr.tmps) = false := by rw [← hw]; simpa using hwt
      have hstep := st_opSkip (P := P) (cs := cs) (w := w) hm htodo (by simp [ho, hwf])
      simp only [finish_eq htodo] at hstep
      have hdst : (ops[i]?).bind (·.dst) = o.dst := by rw [ho]; rfl
      simp only [hdst] at hstep
      have ht1 := ht.put hs (oper_dst hoo) (conc_undef m)
      obtain ⟨m2, w2, tmps2, q1, q2, q3, q4⟩ := ops_sound hcall haf l (i + 1) _ st r hnext (fun o' ho' => hok o' (by simp [ho'])) h m w { fr with tmps := putC fr.tmps o.dst undef, todo := .inRegion ops (List.range' (i + 1) l.length) :: k } k cs hr hfr ht1 (by rw [putC_size]; exact hs) hm rfl
      exact ⟨m2, w2, tmps2, q1, q2, q3, .head hstep q4⟩
end Go.Ev

namespace Go.Ev
set_option linter.unusedSectionVars false
variable [OTab] [OVal]
variable {P : Program}

/-- the run of a region in the order of its text: the temporaries and the memory ahead of each operation, what it yields, whether it is carried out, whether it writes into what was there -/
structure Trace (P : Program) (E : Env) (ops : Array Oper) (i0 : Nat) (pend : List Pend) (louds : List Nat) (A : Nat → T Value) (S : Nat → St) (V : Nat → Value) (W L : Nat → Bool) : Prop where
  put : ∀ s o, i0 ≤ s → ops[s]? = some o → A (s + 1) = putA (A s) o.dst (V s)
  want : ∀ s o, i0 ≤ s → ops[s]? = some o → W s = wantedA ops (A s) o.guard
  skip : ∀ s o, i0 ≤ s → ops[s]? = some o → W s = false → V s = undef ∧ S (s + 1) = S s ∧ L s = false
  run : ∀ s o, i0 ≤ s → ops[s]? = some o → W s = true → ∃ st1, evOp P o.op E (A s) (setLow (S s) (S s).nxt) = some (V s, st1) ∧ S (s + 1) = setLow st1 (minN st1.low (S s).low) ∧
    (L s = true ↔ st1.low < (S s).nxt) ∧ (cls P o.op = 0 ∨ ((∀ j ∈ louds, (ancAt ops s).testBit j = true) ∧ ∀ j, i0 ≤ j → j < s → L j = true → (ancAt ops s).testBit j = true))
  pends : ∀ k o, i0 ≤ k → ops[k]? = some o → L k = true → ∀ p ∈ pend, again P (S (k + 1)) (ancAt ops k) p = true
  redo : ∀ s k o ok, i0 ≤ s → s < k → ops[s]? = some o → ops[k]? = some ok → W s = true → L s = false → L k = true → cls P o.op ≠ 0 → again P (S (k + 1)) (ancAt ops k) ⟨s, o.op, A s, V s⟩ = true

def upN {α : Type} (f : Nat → α) (i : Nat) (v : α) : Nat → α := fun s => if s = i then v else f s
theorem upN_same {α : Type} (f : Nat → α) (i : Nat) (v : α) : upN f i v i = v := by simp [upN]
theorem upN_ne {α : Type} (f : Nat → α) {i s : Nat} (v : α) (h : s ≠ i) : upN f i v s = f s := by simp [upN, h]

theorem trace_of {E : Env} {ops : Array Oper} : ∀ (l : List (Oper × Nat)) (i : Nat) (A : T Value) (st : St) (pend : List Pend) (louds : List Nat) (r : OpsRes), (∀ j : Nat, l[j]? = (ops[i + j]?).map (·, i + j)) →
    evDraws P E ops l A st pend louds = some r → ∃ fA fS fV fW fL, fA i = A ∧ fS i = st ∧ fA (i + l.length) = r.A ∧ fS (i + l.length) = r.st ∧ Trace P E ops i pend louds fA fS fV fW fL
  | [], i, A, st, pend, louds, r, hl, h => by
    have h' : some (⟨A, st⟩ : OpsRes) = some r := h
    cases h'
    have hnone : ∀ s o, i ≤ s → ops[s]? = some o → False := fun s o hs ho => by
      have := hl (s - i)
      rw [show i + (s - i) = s from by omega, ho] at this
      simp at this
    exact ⟨fun _ => A, fun _ => st, fun _ => undef, fun _ => false, fun _ => false, rfl, rfl, rfl, rfl,
      ⟨fun s o hs ho => (hnone s o hs ho).elim, fun s o hs ho => (hnone s o hs ho).elim, fun s o hs ho => (hnone s o hs ho).elim, fun s o hs ho => (hnone s o hs ho).elim, fun s o hs ho => (hnone s o hs ho).elim, fun s k o ok hs _ ho => (hnone s o hs ho).elim⟩⟩
  | oi :: l, i, A, st, pend, louds, r, hl, h => by
    have h0 := hl 0
    simp only [List.getElem?_cons_zero, Nat.add_zero] at h0
    obtain ⟨o, ho, hoi⟩ : ∃ o, ops[i]? = some o ∧ oi = (o, i) := by
      cases ho : ops[i]? with
      | none => rw [ho] at h0; simp at h0
      | some o => rw [ho] at h0; simp at h0; exact ⟨o, rfl, h0⟩
    subst hoi
    have hnext : ∀ j : Nat, l[j]? = (ops[i + 1 + j]?).map (·, i + 1 + j) := fun j => by
      have := hl (j + 1)
      rw [show i + (j + 1) = i + 1 + j from by omega] at this
      simpa using this
    have hlen : i + 1 + l.length = i + (l.length + 1) := by omega
    rcases evDraws_cons h with ⟨hw, h1⟩ | ⟨hw, v, st1, h1, hc, h2⟩
    · -- left out
      obtain ⟨fA, fS, fV, fW, fL, e1, e2, e3, e4, T⟩ := trace_of l (i + 1) _ _ _ _ _ hnext h1
      refine ⟨upN fA i A, upN fS i st, upN fV i undef, upN fW i false, upN fL i false, upN_same _ _ _, upN_same _ _ _, ?_, ?_, ?_⟩
      · rw [upN_ne _ _ (by simp), List.length_cons, ← hlen]; exact e3
      · rw [upN_ne _ _ (by simp), List.length_cons, ← hlen]; exact e4
      · refine ⟨?_, ?_, ?_, ?_, ?_, ?_⟩
        · intro s o' hs ho'
          by_cases e : s = i
          · subst e
            rw [ho] at ho'; cases ho'
            rw [upN_same, upN_same, upN_ne _ _ (by omega)]; exact e1
          · rw [upN_ne _ _ e, upN_ne _ _ e, upN_ne _ _ (by omega)]; exact T.put s o' (by omega) ho'
        · intro s o' hs ho'
          by_cases e : s = i
          · subst e
            rw [ho] at ho'; cases ho'
            rw [upN_same, upN_same]; exact hw.symm
          · rw [upN_ne _ _ e, upN_ne _ _ e]; exact T.want s o' (by omega) ho'
        · intro s o' hs ho'
          by_cases e : s = i
          · subst e
            intro _
            rw [upN_same, upN_same, upN_same, upN_ne _ _ (by omega)]
            exact ⟨rfl, e2, rfl⟩
          · rw [upN_ne _ _ e, upN_ne _ _ e, upN_ne _ _ e, upN_ne _ _ e, upN_ne _ _ (by omega)]; exact T.skip s o' (by omega) ho'
        · intro s o' hs ho'
          by_cases e : s = i
          · subst e
            rw [upN_same]
            intro hh; cases hh
          · rw [upN_ne _ _ e, upN_ne _ _ e, upN_ne _ _ e, upN_ne _ _ e, upN_ne _ _ e, upN_ne _ _ (by omega)]
            intro hW
            obtain ⟨st1, q1, q2, q3, q4⟩ := T.run s o' (by omega) ho' hW
            refine ⟨st1, q1, q2, q3, q4.imp id fun q => ⟨q.1, fun j hj hjs hL => ?_⟩⟩
            by_cases ej : j = i
            · subst ej; rw [upN_same] at hL; cases hL
            · rw [upN_ne _ _ ej] at hL; exact q.2 j (by omega) hjs hL
        · intro k o' hk hok
          by_cases e : k = i
          · subst e
            rw [upN_same]
            intro hh; cases hh
          · rw [upN_ne _ _ e, upN_ne _ _ (by omega)]; exact T.pends k o' (by omega) hok
        · intro s k o' ok hs hsk hos hok
          by_cases e : s = i
          · subst e
            rw [upN_same]
            intro hh; cases hh
          · rw [upN_ne _ _ e, upN_ne _ _ e, upN_ne _ _ e, upN_ne _ _ e, upN_ne _ _ (by omega), upN_ne _ _ (by omega)]
            exact T.redo s k o' ok (by omega) hsk hos hok
    · -- carried out
      have key : ∀ (lo : Bool) (pend' : List Pend) (louds' : List Nat), (lo = true ↔ st1.low < st.nxt) → (lo = false → pend' = if cls P o.op = 0 then pend else ⟨i, o.op, A, v⟩ :: pend) → (lo = false → louds' = louds) →
          (lo = true → pend' = pend ∧ louds' = i :: louds ∧ pend.all (again P (setLow st1 (minN st1.low st.low)) (ancAt ops i)) = true) →
          evDraws P E ops l (putA A o.dst v) (setLow st1 (minN st1.low st.low)) pend' louds' = some r →
          ∃ fA fS fV fW fL, fA i = A ∧ fS i = st ∧ fA (i + (l.length + 1)) = r.A ∧ fS (i + (l.length + 1)) = r.st ∧ Trace P E ops i pend louds fA fS fV fW fL := by
        intro lo pend' louds' hlo hp hq hr h3
        obtain ⟨fA, fS, fV, fW, fL, e1, e2, e3, e4, T⟩ := trace_of l (i + 1) _ _ _ _ _ hnext h3
        refine ⟨upN fA i A, upN fS i st, upN fV i v, upN fW i true, upN fL i lo, upN_same _ _ _, upN_same _ _ _, ?_, ?_, ?_⟩
        · rw [upN_ne _ _ (by simp), ← hlen]; exact e3
        · rw [upN_ne _ _ (by simp), ← hlen]; exact e4
        · refine ⟨?_, ?_, ?_, ?_, ?_, ?_⟩
          · intro s o' hs ho'
            by_cases e : s = i
            · subst e
              rw [ho] at ho'; cases ho'
              rw [upN_same, upN_same, upN_ne _ _ (by omega)]; exact e1
            · rw [upN_ne _ _ e, upN_ne _ _ e, upN_ne _ _ (by omega)]; exact T.put s o' (by omega) ho'
          · intro s o' hs ho'
            by_cases e : s = i
            · subst e
              rw [ho] at ho'; cases ho'
              rw [upN_same, upN_same]; exact hw.symm
            · rw [upN_ne _ _ e, upN_ne _ _ e]; exact T.want s o' (by omega) ho'
          · intro s o' hs ho'
            by_cases e : s = i
            · subst e
              rw [upN_same]
              intro hh; cases hh
            · rw [upN_ne _ _ e, upN_ne _ _ e, upN_ne _ _ e, upN_ne _ _ e, upN_ne _ _ (by omega)]; exact T.skip s o' (by omega) ho'
          · intro s o' hs ho'
            by_cases e : s = i
            · subst e
              rw [ho] at ho'; cases ho'
              intro _
              simp only [upN_same]
              rw [upN_ne _ _ (by omega)]
              refine ⟨st1, h1, e2, hlo, hc.imp id fun q => ⟨fun j hj => List.all_eq_true.1 q j hj, fun j hj hjs _ => by omega⟩⟩
            · rw [upN_ne _ _ e, upN_ne _ _ e, upN_ne _ _ e, upN_ne _ _ e, upN_ne _ _ e, upN_ne _ _ (by omega)]
              intro hW
              obtain ⟨st2, q1, q2, q3, q4⟩ := T.run s o' (by omega) ho' hW
              refine ⟨st2, q1, q2, q3, q4.imp id fun q => ⟨fun j hj => ?_, fun j hj hjs hL => ?_⟩⟩
              · cases lo with
                | false => rw [hq rfl] at q; exact q.1 j hj
                | true => rw [(hr rfl).2.1] at q; exact q.1 j (by simp [hj])
              · by_cases ej : j = i
                · subst ej
                  rw [upN_same] at hL
                  subst hL
                  rw [(hr rfl).2.1] at q
                  exact q.1 j (by simp)
                · rw [upN_ne _ _ ej] at hL; exact q.2 j (by omega) hjs hL
          · intro k o' hk hok
            by_cases e : k = i
            · subst e
              rw [upN_same, upN_ne _ _ (by omega), e2]
              intro hL p hp'
              exact List.all_eq_true.1 (hr hL).2.2 p hp'
            · rw [upN_ne _ _ e, upN_ne _ _ (by omega)]
              intro hL p hp'
              refine T.pends k o' (by omega) hok hL p ?_
              cases lo with
              | false =>
                rw [hp rfl]
                split
                · exact hp'
                · simp [hp']
              | true => rw [(hr rfl).1]; exact hp'
          · intro s k o' ok hs hsk hos hok
            by_cases e : s = i
            · subst e
              rw [ho] at hos; cases hos
              simp only [upN_same]
              rw [upN_ne _ _ (by omega), upN_ne _ _ (by omega)]
              intro _ hlf hL hcl
              refine T.pends k ok (by omega) hok hL _ ?_
              rw [hp hlf, if_neg hcl]
              simp
            · rw [upN_ne _ _ e, upN_ne _ _ e, upN_ne _ _ e, upN_ne _ _ e, upN_ne _ _ (by omega), upN_ne _ _ (by omega)]
              exact T.redo s k o' ok (by omega) hsk hos hok
      rcases h2 with ⟨hge, h3⟩ | ⟨hlt, hag, h3⟩
      · exact key false _ _ ⟨fun hh => (by cases hh), fun hh => (by omega)⟩ (fun _ => rfl) (fun _ => rfl) (fun hh => (by cases hh)) h3
      · exact key true _ _ ⟨fun _ => hlt, fun _ => rfl⟩ (fun hh => (by cases hh)) (fun hh => (by cases hh)) (fun _ => ⟨rfl, rfl, hag⟩) h3
end Go.Ev

namespace Go.Ev
set_option linter.unusedSectionVars false
variable [OTab] [OVal]
variable {P : Program}

/-! ## the ancestors of an operation -/
theorem ancOf_bit (acc : List Nat) (j : Nat) : ∀ (l : List Edge) (s : Nat), (l.foldl (fun s e => if Region.binds .any e then s ||| 2 ^ e.on ||| (acc.getD e.on 0) else s) s).testBit j = true →
    s.testBit j = true ∨ ∃ e ∈ l, Region.binds .any e = true ∧ (j = e.on ∨ (acc.getD e.on 0).testBit j = true)
  | [], s, h => .inl h
  | e :: l, s, h => by
    simp only [List.foldl_cons] at h
    rcases ancOf_bit acc j l _ h with h1 | ⟨e', he, h2⟩
    · cases hb : Region.binds .any e with
      | false => rw [hb] at h1; exact .inl h1
      | true =>
        rw [hb, if_pos rfl] at h1
        simp only [Nat.testBit_or, Bool.or_eq_true] at h1
        rcases h1 with (h1 | h1) | h1
        · exact .inl h1
        · rw [Nat.testBit_two_pow] at h1
          exact .inr ⟨e, by simp, hb, .inl (by have := of_decide_eq_true h1; exact this.symm)⟩
        · exact .inr ⟨e, by simp, hb, .inr h1⟩
    · exact .inr ⟨e', by simp [he], h2⟩

def ancF (acc : List Nat) (l : List Oper) : List Nat := l.foldl (fun acc o => acc ++ [ancOf acc o]) acc
theorem ancF_len : ∀ (l : List Oper) (acc : List Nat), (ancF acc l).length = acc.length + l.length
  | [], acc => rfl
  | o :: l, acc => by
    show (ancF (acc ++ [ancOf acc o]) l).length = _
    rw [ancF_len l]; simp; omega
theorem ancF_pre : ∀ (l : List Oper) (acc : List Nat) (i : Nat), i < acc.length → (ancF acc l)[i]? = acc[i]?
  | [], acc, i, _ => rfl
  | o :: l, acc, i, h => by
    show (ancF (acc ++ [ancOf acc o]) l)[i]? = _
    rw [ancF_pre l _ i (by simp; omega), List.getElem?_append_left h]
theorem ancF_at : ∀ (l : List Oper) (acc : List Nat) (k : Nat) (o : Oper), l[k]? = some o → ∃ acc', (ancF acc l)[acc.length + k]? = some (ancOf acc' o) ∧ ∀ i, i < acc.length + k → acc'[i]? = (ancF acc l)[i]?
  | [], acc, k, o, h => by simp at h
  | o' :: l, acc, 0, o, h => by
    simp at h
    subst h
    refine ⟨acc, ?_, fun i hi => (ancF_pre (o' :: l) acc i (by omega)).symm⟩
    show (ancF (acc ++ [ancOf acc o']) l)[acc.length + 0]? = _
    rw [ancF_pre l _ _ (by simp)]
    simp
  | o' :: l, acc, k + 1, o, h => by
    obtain ⟨acc', h1, h2⟩ := ancF_at l (acc ++ [ancOf acc o']) k o (by simpa using h)
    have e : (acc ++ [ancOf acc o']).length + k = acc.length + (k + 1) := by simp; omega
    rw [e] at h1 h2
    exact ⟨acc', h1, h2⟩

theorem anc_step {ops : Array Oper} {i j : Nat} {o : Oper} (hb : backB ops.toList = true) (ho : ops[i]? = some o) (h : (ancAt ops i).testBit j = true) :
    ∃ e ∈ o.after, Region.binds .any e = true ∧ (j = e.on ∨ (ancAt ops e.on).testBit j = true) := by
  have hol : ops.toList[i]? = some o := by simpa using ho
  obtain ⟨acc', h1, h2⟩ := ancF_at ops.toList [] i o hol
  simp only [List.length_nil, Nat.zero_add] at h1 h2
  have hget : ancAt ops i = ancOf acc' o := by
    show (ancF [] ops.toList).getD i 0 = _
    rw [List.getD_eq_getElem?_getD, h1]; rfl
  rw [hget] at h
  unfold ancOf at h
  rcases ancOf_bit acc' j o.after.toList 0 h with h3 | ⟨e, he, hbi, h3⟩
  · simp at h3
  · refine ⟨e, by simpa using he, hbi, h3.imp id fun h4 => ?_⟩
    have hlt : e.on < i := by
      unfold backB at hb
      rw [List.all_eq_true] at hb
      have hm : (o, i) ∈ ops.toList.zipIdx := by rw [List.mem_zipIdx_iff_getElem?]; exact hol
      have := hb _ hm
      rw [List.all_eq_true] at this
      have := this e he
      simp only [hbi, Bool.not_true, Bool.false_or, decide_eq_true_eq] at this
      exact this
    have : acc'.getD e.on 0 = ancAt ops e.on := by
      show _ = (ancF [] ops.toList).getD e.on 0
      rw [List.getD_eq_getElem?_getD, List.getD_eq_getElem?_getD, h2 _ hlt]
    rw [this] at h4
    exact h4

theorem apart_or {ops : Array Oper} {p q : Nat} {op oq : Oper} (h : apartB ops = true) (hlt : q < p) (hp : ops[p]? = some op) (hq : ops[q]? = some oq) : oq.apart ops op = true ∨ (ancAt ops p).testBit q = true := by
  unfold apartB at h
  rw [List.all_eq_true] at h
  have hmp : (op, p) ∈ ops.toList.zipIdx := by rw [List.mem_zipIdx_iff_getElem?]; simpa using hp
  have hmq : (oq, q) ∈ ops.toList.zipIdx := by rw [List.mem_zipIdx_iff_getElem?]; simpa using hq
  have := h _ hmp
  rw [List.all_eq_true] at this
  have := this _ hmq
  simp only [Bool.or_eq_true, Bool.not_eq_true', decide_eq_false_iff_not] at this
  rcases this with (h1 | h1) | h1
  · omega
  · exact .inl h1
  · exact .inr h1

/-! ## equal values -/
theorem addr_beq {a b : Option Addr} (h : (a == b) = true) : a = b := by simpa using h
theorem bytes_eq {a b : ByteArray} (h : (a.data.toList == b.data.toList) = true) : a = b := by
  have h2 : a.data.toList = b.data.toList := by simpa using h
  obtain ⟨⟨a⟩⟩ := a
  obtain ⟨⟨b⟩⟩ := b
  simp at h2
  subst h2
  rfl
theorem veqS_eq {a b : Value} (h : veqS a b = true) : a = b := by
  unfold veqS at h
  split at h
  · simp at h; rw [h]
  · rw [Bool.and_eq_true, eqI_eq] at h
    have h1 : _ = _ := of_decide_eq_true h.1
    have h2 := h.2
    simp at h2
    rw [h1, h2]
  · rw [bytes_eq h]
  · rw [addr_beq h]
  · simp only [Bool.and_eq_true, beq_iff_eq] at h
    rw [h.1.1, h.1.2, h.2]
  · simp at h; rw [h]
  · rfl
  · rfl
  · rw [Bool.and_eq_true] at h
    have h1 : _ = _ := of_decide_eq_true h.1
    have h2 := Nat.eq_of_beq_eq_true h.2
    rw [h1, h2]
  · cases h
theorem veqL_eq : ∀ {a b : List Value}, veqL a b = true → a = b
  | [], [], _ => rfl
  | [], _ :: _, h => by cases h
  | _ :: _, [], h => by cases h
  | x :: a, y :: b, h => by
    simp only [veqL, Bool.and_eq_true] at h
    rw [veqS_eq h.1, veqL_eq h.2]
theorem veq_eq {a b : Value} (h : veq a b = true) : a = b := by
  unfold veq at h
  split at h
  · have := veqL_eq h; rw [show _ = _ from Array.ext' this]
  · have := veqL_eq h; rw [show _ = _ from Array.ext' this]
  · exact veqS_eq h

/-! ## how many are left -/
def left (listed : Array Bool) (n : Nat) : Nat := (List.range n).countP fun i => !listed.getD i true
theorem left_set {listed : Array Bool} {i : Nat} : ∀ n, (listed.getD i true = false) → left (listed.setIfInBounds i true) n + (if i < n then 1 else 0) = left listed n
  | 0, _ => by simp [left]
  | n + 1, h => by
    have ih := left_set (listed := listed) n h
    unfold left at ih ⊢
    simp only [List.range_succ, List.countP_append, List.countP_singleton]
    have hlt : i < listed.size := by
      rcases Nat.lt_or_ge i listed.size with h' | h'
      · exact h'
      · simp [Array.getElem?_eq_none h'] at h
    by_cases e : n = i
    · subst e
      have h1 : (listed.setIfInBounds n true).getD n true = true := by simp [hlt]
      rw [h1, h]
      simp at ih ⊢
      omega
    · rw [getD_set_ne true (Ne.symm e)]
      have hi1 : (if i < n + 1 then 1 else 0) = (if i < n then 1 else 0) := by
        by_cases h2 : i < n
        · rw [if_pos h2, if_pos (show i < n + 1 by omega)]
        · rw [if_neg h2, if_neg (show ¬ i < n + 1 by omega)]
      rw [hi1, ← ih]
      omega
end Go.Ev
