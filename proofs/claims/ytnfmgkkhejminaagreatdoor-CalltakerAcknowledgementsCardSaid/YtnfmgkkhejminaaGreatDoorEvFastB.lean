/-
  A part of the proof that the evaluator answers what the model answers, for every program that follows mixed orders; no other condition.
-/
import Derived.Test.YtnfmgkkhejminaaGreatDoorEvFastA
import Derived.Test.YtnfmgkkhejminaaGreatDoorEvRules
namespace Go.Ev
set_option linter.unusedSectionVars false
variable [OTab]
variable {P : Program}

theorem fz_is {β : Type} (v : Value) (k : Value → Option β) : fz v k = k v := by
  cases v with
  | bool b => cases b <;> rfl
  | int kd n =>
    cases n with
    | ofNat x => show bsel (Nat.ble x x) none (k (.int kd (.ofNat x))) = _; rw [Nat.ble_self_eq_true]; rfl
    | negSucc x => show bsel (Nat.ble x x) none (k (.int kd (.negSucc x))) = _; rw [Nat.ble_self_eq_true]; rfl
  | _ => rfl
theorem fzS_is {β : Type} (st : St) (k : St → Option β) : fzS st k = k st := by
  obtain ⟨⟨⟨l, r⟩, u⟩, nxt, low⟩ := st
  show fzN nxt (fzN low (fzM ⟨⟨l, r⟩, u⟩ (fzS1 (Nat.add nxt 0) low k))) = _
  unfold fzN
  rw [Nat.ble_self_eq_true, Nat.ble_self_eq_true, bsel_true, bsel_true]
  rfl
theorem evOps_is {E : Env} {ops : Array Oper} {o : Oper} {l : List Oper} {A : T Value} {st : St} : evOps P E ops (o :: l) A st =
    if wantedA ops A o.guard = true then (ob (evOp P o.op E A st) fun p => evOps P E ops l (putA A o.dst p.1) p.2) else evOps P E ops l (putA A o.dst undef) st := by
  show bsel (wantedA ops A o.guard) (idd (evOps P E ops l (putA A o.dst undef) st)) (ob (evOp P o.op E A st) (opsK (evOps P E ops l) A o.dst)) = _
  cases wantedA ops A o.guard with
  | false => rfl
  | true =>
    rw [bsel_true, if_pos rfl]
    cases evOp P o.op E A st with
    | none => rfl
    | some p =>
      show opsK (evOps P E ops l) A o.dst p = evOps P E ops l (putA A o.dst p.1) p.2
      unfold opsK
      rw [fz_is]
      unfold opsK2
      rw [fzS_is]
      rfl
def OE {α β : Type} (R : α → β → Prop) : Option α → Option β → Prop
  | none, none => True
  | some a, some b => R a b
  | _, _ => False
theorem OE.bind {α β γ δ : Type} {R : α → β → Prop} {S : γ → δ → Prop} {x : Option α} {y : Option β} {f : α → Option γ} {g : β → Option δ} (h : OE R x y) (hf : ∀ a b, R a b → OE S (f a) (g b)) : OE S (ob x f) (ob y g) := by
  cases x <;> cases y
  · exact h
  · exact h.elim
  · exact h.elim
  · exact hf _ _ h
theorem OE.same {α γ δ : Type} {S : γ → δ → Prop} {x : Option α} {f : α → Option γ} {g : α → Option δ} (hf : ∀ a, OE S (f a) (g a)) : OE S (ob x f) (ob x g) := by
  cases x with
  | none => trivial
  | some a => exact hf a
theorem OE.gd {γ δ : Type} {S : γ → δ → Prop} {b : Bool} {f : Option γ} {g : Option δ} (hf : OE S f g) : OE S (gd b f) (gd b g) := by
  cases b
  · trivial
  · exact hf
theorem OE.bsel {γ δ : Type} {S : γ → δ → Prop} {b : Bool} {f f' : Option γ} {g g' : Option δ} (hf : OE S f g) (hg : OE S f' g') : OE S (bsel b f f') (bsel b g g') := by
  cases b
  · exact hf
  · exact hg

theorem obV_is (x : Option Value) (k : Value → Option OR) : obV x k = ob x k := by cases x <;> rfl
theorem obN_is (x : Option NewV) (k : NewV → Option OR) : obN x k = ob x k := by cases x <;> rfl
theorem obP_is (x : Option (Value × St)) (k : Value × St → Option OR) : obP x k = ob x k := by cases x <;> rfl
theorem bselO_is (b : Bool) (f t : Option OR) : bselO b f t = bsel b f t := by cases b <;> rfl
theorem gdO_is (b : Bool) (t : Option OR) : gdO b t = gd b t := by cases b <;> rfl
theorem fzI_eq (n : Int) (kd : IntKind) (c : Value → Option OR) : fzI n kd c = c (.int kd n) := by
  cases n with
  | ofNat m => cases m <;> rfl
  | negSucc m => cases m <;> rfl
theorem fzO_is (v : Value) (k : Value → Option OR) : fzO v k = k v := by
  cases v with
  | bool b => cases b <;> rfl
  | int kd n => exact fzI_eq n kd k
  | _ => rfl
theorem fzNO_is (n : Nat) (k : Nat → Option OR) : fzNO n k = k n := by cases n <;> rfl
theorem fzSO_is (st : St) (k : St → Option OR) : fzSO st k = k st := by
  obtain ⟨⟨⟨l, r⟩, u⟩, nxt, low⟩ := st
  show fzNO nxt (fzSO1 low ⟨⟨l, r⟩, u⟩ k) = _
  rw [fzNO_is]
  show fzNO low (fzSO2 nxt ⟨⟨l, r⟩, u⟩ k) = _
  rw [fzNO_is]
  rfl
/-! ## one operation -/
section
variable {N : F3} {A : T Value} {E : Env} {st : St} {pt : PutF} {r : Bx KO}
theorem fzBo_eq (b : Bool) (c : Value → Option OR) : fzBo b c = c (.bool b) := by cases b <;> rfl
theorem nxZ_eq (v : Value) : nxZ pt r E N st v = r.v E (pt N ⟨v⟩) st := fzO_is v _
theorem kn_inj {k k' : IntKind} (h : kn k = kn k') : k = k' := by
  cases k <;> cases k' <;> first | rfl | (exfalso; revert h; decide)
theorem binA_int (c : Bool) (op : BinOp) (t : TypeId) (k k' : IntKind) (a b : Int) : binA c P op t (.int k a) (.int k' b) = binV P op t (.int k a) (.int k' b) := by
  have h0 : nilCmp P op t (.int k a) (.int k' b) = none := by
    unfold nilCmp
    cases ifaceT P t <;> rfl
  unfold binA
  rw [h0]
  cases c
  · rfl
  · show alt (binV P op t (.int k a) (.int k' b)) none = _
    cases binV P op t (.int k a) (.int k' b) <;> rfl
theorem kInt_eq {f : IntK} {op : BinOp} {t : TypeId} (hf : cIK op = some ⟨f⟩) {x y : F3 → Value} {p : F3 → Option Value} {c : Bool} (hp : p N = binA c P op t (x N) (y N)) : kInt f x y p pt r E N st = kPure p pt r E N st := by
  unfold kInt
  cases hx : x N with
  | int k a =>
    show kInt2 f y p pt r E N st k a = _
    unfold kInt2
    cases hy : y N with
    | int k' b =>
      show kInt3 f p pt r E N st k a k' b = _
      unfold kInt3
      by_cases hk : kn k = kn k'
      · obtain rfl := kn_inj hk
        rw [show Nat.beq (kn k) (kn k) = true from Nat.beq_refl _, bselO_is, bsel_true]
        unfold kPure
        rw [obV_is, hp, hx, hy, binA_int]
        cases op <;> simp only [cIK, Option.some.injEq, Bx.mk.injEq, reduceCtorEq] at hf <;> subst hf
        all_goals first
          | (show fzI _ k (nx pt r E N st) = ob (gd (kindEq k k) (some _)) (nxZ pt r E N st)
             rw [fzI_eq, kind_self]
             exact (nxZ_eq _).symm)
          | (show fzBo _ (nx pt r E N st) = ob (gd (kindEq k k) (some _)) (nxZ pt r E N st)
             rw [fzBo_eq, kind_self]
             exact (nxZ_eq _).symm)
      · have e : Nat.beq (kn k) (kn k') = false := by
          cases e : Nat.beq (kn k) (kn k') with
          | false => rfl
          | true => exact absurd (Nat.eq_of_beq_eq_true e) hk
        rw [e, bselO_is, bsel_false]
    | _ => rfl
  | _ => rfl
theorem ob_ob {α β γ : Type} (x : Option α) (f : α → Option β) (g : β → Option γ) : ob (ob x f) g = ob x fun a => ob (f a) g := by cases x <;> rfl
theorem kPure_eq (h : EnvR N A) (o : Op) (hc : cls P o = 0) : kPure (cPure P o).v pt r E N st = ob (evOp P o E A st) fun p => r.v E (pt N ⟨p.1⟩) p.2 := by
  unfold evOp
  rw [hc]
  show _ = ob (ob (evPure o P A) (mkVal st)) _
  rw [ob_ob, ← cPure_eq h]
  unfold kPure
  rw [obV_is]
  cases (cPure P o).v N with
  | none => rfl
  | some v => exact nxZ_eq v
theorem cCls_eq (h : EnvR N A) (o : Op) : (cCls P o (cls P o) pt r).v E N st = ob (evOp P o E A st) fun p => r.v E (pt N ⟨p.1⟩) p.2 := by
  match hc : cls P o with
  | 0 =>
    have hp := kPure_eq (E := E) (st := st) (pt := pt) (r := r) h o hc
    cases o with
    | move x =>
      rw [← hp]
      show fzB ((cF0 x).v N) (nxB pt r E N st) = obV (some ((cVal x).v N)) (nxZ pt r E N st)
      rw [obV_is]
      rw [cF0_eq h, cVal_eq h]
      exact (nxZ_eq _).symm
    | assign x =>
      rw [← hp]
      show fzB ((cF0 x).v N) (nxB pt r E N st) = obV (some ((cVal x).v N)) (nxZ pt r E N st)
      rw [obV_is]
      rw [cF0_eq h, cVal_eq h]
      exact (nxZ_eq _).symm
    | binOp op t x y q =>
      rw [← hp]
      show (kIntO (cIK op) (cVal x).v (cVal y).v (cPure P (.binOp op t x y q)).v pt r).v E N st = _
      cases hf : cIK op with
      | none => rfl
      | some f => obtain ⟨f⟩ := f; exact kInt_eq hf rfl
    | _ => exact hp
  | 1 =>
    show kNew (cNew P o).v pt r E N st = _
    unfold evOp
    rw [hc]
    show _ = ob (ob (evNew o P A) (mkNew st)) _
    rw [ob_ob, ← cNew_eq h]
    unfold kNew
    rw [obN_is]
    cases (cNew P o).v N with
    | none => rfl
    | some n =>
      show fzSO (st.push (n.b st.nxt)) (nxS pt r E N (n.v st.nxt)) = _
      rw [fzSO_is]
      rfl
  | 2 =>
    show kRead (cRead P o).v pt r E N st = _
    unfold evOp
    rw [hc]
    show _ = ob (ob (evRead o P A st) (mkVal st)) _
    rw [ob_ob, ← cRead_eq h]
    unfold kRead
    rw [obV_is]
    cases (cRead P o).v N st with
    | none => rfl
    | some v => exact nxZ_eq v
  | n + 3 =>
    show kGen (cGen P o).v pt r E N st = _
    unfold evOp
    rw [hc]
    show _ = ob (evGen o P E A st) _
    rw [← cGen_eq h]
    unfold kGen
    rw [obP_is]
    cases (cGen P o).v E N st with
    | none => rfl
    | some p =>
      show fzO p.1 (nxSF pt r E N p.2) = _
      rw [fzO_is]
      unfold nxSF
      rw [fzSO_is]
      rfl
theorem cGuard_eq (h : EnvR N A) (ops : Array Oper) (g : Nat × Bool) : (cGuard ops g).v N = wantedA ops A (some g) := by
  unfold cGuard
  show _ = wantedD A g.2 (dstOf ops g.1)
  cases dstOf ops g.1 with
  | none => rfl
  | some d =>
    show isB ((cVal (.tmp d)).v N) g.2 = isB (tg A d) g.2
    rw [cVal_eq h]
    rfl
theorem cOper_eq (h : EnvR N A) (ops : Array Oper) (o : Oper) : (cOper P ops o r).v E N st =
    if wantedA ops A o.guard = true then ob (evOp P o.op E A st) fun p => r.v E ((cDst o.dst).v N ⟨p.1⟩) p.2 else r.v E ((cDst o.dst).v N ⟨undef⟩) st := by
  unfold cOper
  cases hg : o.guard with
  | none =>
    show (cCls P o.op (cls P o.op) (cDst o.dst).v r).v E N st = _
    rw [cCls_eq h]
    exact (if_pos rfl).symm
  | some g =>
    show bselO ((cGuard ops g).v N) (r.v E ((cDst o.dst).v N w0) st) ((cCls P o.op (cls P o.op) (cDst o.dst).v r).v E N st) = _
    rw [bselO_is, cGuard_eq h, cCls_eq h]
    cases wantedA ops A (some g) <;> rfl
end
def ORel (r : OR) (s : OpsRes) : Prop := EnvR r.A s.A ∧ r.st = s.st
theorem cOps_eq {E : Env} {ops : Array Oper} : ∀ (l : List Oper) (_ : ∀ o ∈ l, dstOk o.dst) (N : F3) (A : T Value) (st : St), EnvR N A → OE ORel ((cOps P ops l).v E N st) (evOps P E ops l A st)
  | [], _, N, A, st, h => ⟨h, rfl⟩
  | o :: l, hd, N, A, st, h => by
    have hl := cOps_eq (E := E) (ops := ops) l (fun o ho => hd o (by simp [ho]))
    have hdo := hd o (by simp)
    show OE ORel ((cOper P ops o (cOps P ops l)).v E N st) _
    rw [cOper_eq h, evOps_is]
    by_cases hw : wantedA ops A o.guard = true
    · rw [if_pos hw, if_pos hw]
      exact OE.same fun p => hl _ _ _ (h.dst hdo _)
    · rw [if_neg hw, if_neg hw]
      exact hl _ _ _ (h.dst hdo _)

/-! ## regions that draw their order -/
theorem cAny_eq {N : F3} {A : T Value} (h : EnvR N A) (o : Op) (E : Env) (st : St) : (cAny P o (cls P o)).v E N st = evOp P o E A st := by
  unfold evOp
  match hc : cls P o with
  | 0 => show ob ((cPure P o).v N) (mkVal st) = ob (evPure o P A) (mkVal st); rw [cPure_eq h]
  | 1 => show ob ((cNew P o).v N) (mkNew st) = ob (evNew o P A) (mkNew st); rw [cNew_eq h]
  | 2 => show ob ((cRead P o).v N st) (mkVal st) = ob (evRead o P A st) (mkVal st); rw [cRead_eq h]
  | n + 3 => exact cGen_eq h o E st
def PendR (P : Program) (p : FPend) (q : Pend) : Prop := p.i = q.i ∧ p.v = q.v ∧ p.rd = (if cls P q.o = 2 then some (fun st => evRead q.o P q.A st) else none)
theorem fAgain_eq {st : St} {anc : Nat} {p : FPend} {q : Pend} (h : PendR P p q) : fAgain st anc p = again P st anc q := by
  obtain ⟨h1, h2, h3⟩ := h
  unfold fAgain again
  rw [h1, h2, h3]
  by_cases hc : cls P q.o = 2
  · rw [if_pos hc, hc]; rfl
  · rw [if_neg hc]
    have : (cls P q.o == 2) = false := by simpa using hc
    rw [this]
    rfl
inductive PendsR (P : Program) : List FPend → List Pend → Prop where
  | nil : PendsR P [] []
  | cons {p : FPend} {q : Pend} {l : List FPend} {m : List Pend} (h : PendR P p q) (hl : PendsR P l m) : PendsR P (p :: l) (q :: m)
theorem PendsR.all {st : St} {anc : Nat} {l : List FPend} {m : List Pend} (h : PendsR P l m) : l.all (fAgain st anc) = m.all (again P st anc) := by
  induction h with
  | nil => rfl
  | cons h _ ih => rw [List.all_cons, List.all_cons, fAgain_eq h, ih]
theorem PendsR.more {N : F3} {A : T Value} (h : EnvR N A) {l : List FPend} {m : List Pend} (hl : PendsR P l m) (i : Nat) (o : Op) (v : Value) :
    PendsR P (bsel (Nat.ble (cls P o) 0) (⟨i, rdOf (cls P o) (cRead P o).v N, v⟩ :: l) l) (bsel (Nat.ble (cls P o) 0) (⟨i, o, A, v⟩ :: m) m) := by
  cases Nat.ble (cls P o) 0 with
  | true => exact hl
  | false =>
    refine .cons ⟨rfl, rfl, ?_⟩ hl
    show rdOf (cls P o) (cRead P o).v N = if cls P o = 2 then some (fun st => evRead o P A st) else none
    match cls P o with
    | 0 => rfl
    | 1 => rfl
    | 2 => show some ((cRead P o).v N) = some _; rw [show (cRead P o).v N = fun st => evRead o P A st from funext fun st => cRead_eq h o st]
    | n + 3 => rfl
theorem cDraws_eq {E : Env} {ops : Array Oper} : ∀ (l : List (Oper × Nat)) (_ : ∀ o ∈ l, dstOk o.1.dst) (N : F3) (A : T Value) (st : St) (pf : List FPend) (pend : List Pend) (louds : List Nat), EnvR N A → PendsR P pf pend →
    OE ORel ((cDraws P ops l).v E N st pf louds) (evDraws P E ops l A st pend louds)
  | [], _, N, A, st, pf, pend, louds, h, _ => ⟨h, rfl⟩
  | oi :: l, hd, N, A, st, pf, pend, louds, h, hp => by
    have hl := cDraws_eq (E := E) (ops := ops) l (fun o ho => hd o (by simp [ho]))
    have hdo := hd oi (by simp)
    show OE ORel ((cDraw1 P ops oi.1 oi.2 (cDraws P ops l)).v E N st pf louds) (drawStep P E ops oi (evDraws P E ops l) A st pend louds)
    have key : OE ORel (dStep (cAny P oi.1.op (cls P oi.1.op)).v oi.2 (cls P oi.1.op) (ancAt ops oi.2) (cRead P oi.1.op).v (cDst oi.1.dst).v (cDraws P ops l) E N st pf louds) (ob (evOp P oi.1.op E A (setLow st st.nxt)) (drawK P ops oi (evDraws P E ops l) A st pend louds)) := by
      unfold dStep
      rw [obP_is, cAny_eq h]
      refine OE.same fun p => ?_
      unfold dStep2 drawK
      rw [gdO_is, bselO_is, gdO_is]
      refine OE.gd (OE.bsel ?_ ?_)
      · unfold drawQuiet
        rw [fzO_is, fz_is]
        unfold dQ1
        rw [fzSO_is, fzS_is]
        exact hl _ _ _ _ _ _ (h.dst hdo _) (hp.more h _ _ _)
      · unfold drawLoud
        rw [hp.all]
        refine OE.gd ?_
        rw [fzO_is, fz_is]
        unfold dL1
        rw [fzSO_is, fzS_is]
        exact hl _ _ _ _ _ _ (h.dst hdo _) hp
    unfold cDraw1 drawStep
    cases hg : oi.1.guard with
    | none => exact key
    | some g =>
      show OE ORel (bselO ((cGuard ops g).v N) ((cDraws P ops l).v E ((cDst oi.1.dst).v N w0) st pf louds) (dStep _ _ _ _ _ _ _ E N st pf louds)) _
      rw [bselO_is, cGuard_eq h]
      refine OE.bsel ?_ key
      exact hl _ _ _ _ _ _ (h.dst hdo _) hp
theorem cRegion_eq {E : Env} {ops : Array Oper} {draw : Bool} (hd : ∀ o ∈ ops.toList, dstOk o.dst) {N : F3} {A : T Value} (h : EnvR N A) (st : St) :
    OE ORel ((cRegion P ops draw).v E N st) (bsel draw (evOps P E ops ops.toList A st) (evDraws P E ops ops.toList.zipIdx A st [] [])) := by
  unfold cRegion
  cases draw with
  | false => exact cOps_eq _ hd _ _ _ h
  | true =>
    refine cDraws_eq _ (fun o ho => hd o.1 ?_) _ _ _ _ _ _ h .nil
    obtain ⟨i, hi⟩ := List.mem_iff_getElem?.1 ho
    rw [List.getElem?_zipIdx] at hi
    cases e : ops.toList[i]? with
    | none => rw [e] at hi; cases hi
    | some x =>
      rw [e] at hi
      cases hi
      exact List.mem_of_getElem? e

/-! ## code -/
def FRel (r : FRes) (s : Res) : Prop := r.ex = s.ex ∧ EnvR r.A s.A ∧ r.dm = s.dm ∧ r.st = s.st
theorem frSeq_eq {k : Bx FC} {g : CodeF} {E : Env} (hk : ∀ N A dm st, EnvR N A → OE FRel (k.v E N dm st) (g E A dm st)) {r : FRes} {s : Res} (h : FRel r s) : OE FRel (frSeq k E r) (seqK g E s) := by
  obtain ⟨ex, N, dm, st⟩ := r
  obtain ⟨ex', A, dm', st'⟩ := s
  obtain ⟨h1, h2, h3, h4⟩ := h
  simp only at h1 h2 h3 h4
  subst h1 h3 h4
  cases ex with
  | normal => exact hk _ _ _ _ h2
  | exit id => exact ⟨rfl, h2, rfl, rfl⟩
  | ret => exact ⟨rfl, h2, rfl, rfl⟩
theorem cCode_eq {n : Nat} (hn : n ≤ 512) {E : Env} : ∀ (c : Code), noRange c = true → codeOk P n c = true → ∀ (N : F3) (A : T Value) (dm : List Nat) (st : St), EnvR N A → OE FRel ((cCode P c).v E N dm st) (evCode P c E A dm st) := by
  intro c
  induction c with
  | skip => intro _ _ N A dm st h; exact ⟨rfl, h, rfl, rfl⟩
  | region id ops draw =>
    intro _ hok N A dm st h
    have hd : ∀ o ∈ ops.toList, dstOk o.dst := fun o ho k hk => by
      simp only [codeOk, Bool.and_eq_true] at hok
      have hop : operOk P n o = true := List.all_eq_true.1 hok.1 o ho
      have hlt : decide (k < n) = true := by
        unfold operOk at hop
        rw [Bool.and_eq_true] at hop
        have h3 := hop.2
        rw [hk] at h3
        exact h3
      exact Nat.lt_of_lt_of_le (of_decide_eq_true hlt) hn
    exact (cRegion_eq hd h st).bind fun a b hab => ⟨rfl, hab.1, rfl, hab.2⟩
  | seq a b iha ihb =>
    intro hr hok N A dm st h
    simp only [noRange, Bool.and_eq_true] at hr
    simp only [codeOk, Bool.and_eq_true] at hok
    exact (iha hr.1 hok.1 N A dm st h).bind fun r s hrs => frSeq_eq (fun N A dm st h => ihb hr.2 hok.2 N A dm st h) hrs
  | cond c a b iha ihb =>
    intro hr hok N A dm st h
    simp only [noRange, Bool.and_eq_true] at hr
    simp only [codeOk, Bool.and_eq_true] at hok
    show OE FRel (ob (asB ((cVal c).v N)) _) (ob (asB (ev A c)) _)
    rw [cVal_eq h]
    refine OE.same fun t => OE.bsel ?_ ?_
    · exact ihb hr.2 hok.2 N A dm st h
    · exact iha hr.1 hok.1.2 N A dm st h
  | block id b ih =>
    intro hr hok N A dm st h
    refine (ih hr hok N A dm st h).bind fun r s hrs => ?_
    obtain ⟨ex, N, dm, st⟩ := r
    obtain ⟨ex', A, dm', st'⟩ := s
    obtain ⟨h1, h2, h3, h4⟩ := hrs
    simp only at h1 h2 h3 h4
    subst h1 h3 h4
    cases ex with
    | normal => exact ⟨rfl, h2, rfl, rfl⟩
    | exit id' =>
      show OE FRel (bsel (Nat.beq id' id) _ _) (bsel (Nat.beq id' id) _ _)
      exact OE.bsel ⟨rfl, h2, rfl, rfl⟩ ⟨rfl, h2, rfl, rfl⟩
    | ret => exact ⟨rfl, h2, rfl, rfl⟩
  | loop b ih =>
    intro hr hok N A dm st h
    show OE FRel (fcLoopN (cCode P b) 1000000 E N dm st) (loopN (evCode P b) 1000000 E A dm st)
    generalize 1000000 = fuel
    induction fuel generalizing N A dm st with
    | zero => trivial
    | succ f ihf =>
      show OE FRel (ob ((cCode P b).v E N dm st) (frSeq ⟨fcLoopN (cCode P b) f⟩ E)) (ob (evCode P b E A dm st) (seqK (loopN (evCode P b) f) E))
      exact (ih hr hok N A dm st h).bind fun r s hrs => frSeq_eq (fun N A dm st h => ihf N A dm st h) hrs
  | rangeFunc f ps a b _ _ => intro hr; cases hr
  | exit id => intro _ _ N A dm st h; exact ⟨rfl, h, rfl, rfl⟩
  | scope b ih => intro hr hok N A dm st h; exact ih hr hok N A dm st h
  | label l => intro _ _ N A dm st h; exact ⟨rfl, h, rfl, rfl⟩
  | goto l => intro _ _ N A dm st h; trivial
  | ret => intro _ _ N A dm st h; exact ⟨rfl, h, rfl, rfl⟩
  | refuse w => intro _ _ N A dm st h; trivial

/-! ## calls -/
theorem cRVs_eq {N : F3} {A : T Value} (h : EnvR N A) (st : St) : ∀ l : List ResultVar, (cRVs P l).v N st = resAll P A st l
  | [] => rfl
  | r :: l => by
    show ob ((cRV P r).v N st) (rvs1 (cRVs P l) N st) = _
    have e : (cRV P r).v N st = resOne P A st r := by
      cases r with
      | tmp t => show some ((cVal (.tmp t)).v N) = _; rw [cVal_eq h]; rfl
      | cell a t => show ob (asP ((cVal (.tmp a)).v N)) _ = _; rw [cVal_eq h]; rfl
    rw [e]
    unfold resAll
    cases resOne P A st r with
    | none => rfl
    | some v =>
      show ob ((cRVs P l).v N st) (rvs2 v) = _
      rw [cRVs_eq h st l]
      rfl
theorem fRet_eq {rs : List ResultVar} {r : FRes} {s : Res} (h : FRel r s) : fRet (cRVs P rs) r = retK P rs s := by
  obtain ⟨ex, N, dm, st⟩ := r
  obtain ⟨ex', A, dm', st'⟩ := s
  obtain ⟨h1, h2, h3, h4⟩ := h
  simp only at h1 h2 h3 h4
  subst h1 h3 h4
  have key : ob (dropMarks dm st) (fRet1 (cRVs P rs) N) = ob (dropMarks dm st) fun st => ob (resAll P A st rs) fun l => some (oneOrTuple l, st) := by
    cases dropMarks dm st with
    | none => rfl
    | some st2 =>
      show ob ((cRVs P rs).v N st2) (fRet2 st2) = _
      rw [cRVs_eq h2]
      rfl
  cases ex with
  | normal => exact key
  | exit id => rfl
  | ret => exact key
theorem bindA_eq : ∀ (l : List Value) (i : Nat) (N : F3) (A : T Value), EnvR N A → i + l.length ≤ 512 → EnvR (bindA l i N) (fillT l i A)
  | [], _, N, A, h, _ => h
  | v :: l, i, N, A, h, hi => by
    simp only [List.length_cons] at hi
    exact bindA_eq l (i + 1) _ _ (h.put (by omega) v) (by omega)
theorem fillG_get {α : Type} : ∀ (l : List α) (i : Nat) (t : T α) (j : Nat), (fillG l i t).get j = if i ≤ j ∧ j < i + l.length then l[j - i]? else t.get j
  | [], i, t, j => by
    show t.get j = _
    rw [if_neg (by simp)]
  | v :: l, i, t, j => by
    show (fillG l (Nat.succ i) (t.put (some v) i)).get j = _
    rw [fillG_get l (Nat.succ i) _ j, get_put]
    simp only [List.length_cons]
    by_cases h1 : i + 1 ≤ j ∧ j < i + 1 + l.length
    · rw [if_pos h1, if_pos (by omega)]
      obtain ⟨k, hk⟩ : ∃ k, j - i = k + 1 := ⟨j - i - 1, by omega⟩
      rw [hk, List.getElem?_cons_succ]
      congr 1
      omega
    · rw [if_neg h1]
      by_cases e : j = i
      · subst e
        rw [if_pos rfl, if_pos (by omega)]
        simp
      · rw [if_neg e, if_neg (by omega)]
theorem fnTab_get (f : Nat) : (fnTab P).get f = P.funcs[f]? := by
  unfold fnTab
  rw [fillG_get]
  by_cases h : f < P.funcs.size
  · rw [if_pos (by simp; exact h)]
    simp
  · rw [if_neg (by simp; omega), Array.getElem?_eq_none (by omega)]
    rfl
/-- every function that is asked for has a text that is as it must be -/
def Good (P : Program) (good : Nat) : Prop := ∀ f fn c, good.testBit f = true → P.funcs[f]? = some fn → fn.body = some c → fnOk P fn c = true
theorem okTexts_good {good : Nat} : ∀ (l : List Func) (i : Nat), okTexts P good l i = true → ∀ (f : Nat) fn c, good.testBit (i + f) = true → l[f]? = some fn → fn.body = some c → fnOk P fn c = true
  | [], _, _, f, fn, c, _, hf, _ => by simp at hf
  | x :: l, i, h, f, fn, c, hg, hf, hb => by
    have h' : bsel (good.testBit i) (okTexts P good l (Nat.succ i)) (bsel (okText P x) false (okTexts P good l (Nat.succ i))) = true := h
    cases f with
    | zero =>
      simp at hf
      subst hf
      rw [Nat.add_zero] at hg
      rw [hg, bsel_true] at h'
      cases hx : okText P x with
      | false => rw [hx] at h'; cases h'
      | true =>
        unfold okText at hx
        rw [hb] at hx
        exact hx
    | succ f =>
      have hr : okTexts P good l (Nat.succ i) = true := by
        cases hgi : good.testBit i with
        | false => rw [hgi] at h'; exact h'
        | true =>
          rw [hgi, bsel_true] at h'
          cases hx : okText P x with
          | false => rw [hx] at h'; cases h'
          | true => rw [hx] at h'; exact h'
      exact okTexts_good l (i + 1) hr f fn c (by rw [show i + 1 + f = i + (f + 1) by omega]; exact hg) (by simpa using hf) hb
theorem good_of {good : Nat} (h : okTexts P good P.funcs.toList 0 = true) : Good P good := fun f fn c hg hf hb => okTexts_good _ 0 h f fn c (by rw [Nat.zero_add]; exact hg) (by simpa using hf) hb
/-- two masks together -/
theorem Good.or {a b : Nat} (ha : Good P a) (hb : Good P b) : Good P (a ||| b) := fun f fn c hg hf hbd => by
  rw [Nat.testBit_or, Bool.or_eq_true] at hg
  rcases hg with hg | hg
  · exact ha f fn c hg hf hbd
  · exact hb f fn c hg hf hbd
theorem cFn_eq {good : Nat} (hgood : Good P good) (call : CallF) (f : FuncId) (args : List Value) (st : St) : (cFn P good f).v call args st = callFn P call f args st := by
  unfold cFn callFn
  rw [fnTab_get]
  cases hf : P.funcs[f]? with
  | none => rfl
  | some fn =>
    show (cFn2 P good f fn).v call args st = ob fn.body _
    unfold cFn2
    cases hb : fn.body with
    | none => rfl
    | some c =>
      show (cFn1 P good f fn c).v call args st = gd (fnOk P fn c) _
      unfold cFn1
      cases hok : (good.testBit f && (Nat.ble fn.ntmps 512 && noRange c)) with
      | false =>
        show callFn P call f args st = _
        unfold callFn
        rw [hf]
        show ob fn.body _ = _
        rw [hb]
        rfl
      | true =>
        simp only [Bool.and_eq_true] at hok
        obtain ⟨h0, h2, h3⟩ := hok
        have h1 := hgood f fn c h0 hf hb
        have hn := Nat.le_of_ble_eq_true h2
        rw [h1]
        show gd (Nat.ble args.length fn.ntmps) _ = gd (Nat.ble args.length fn.ntmps) _
        cases ha : Nat.ble args.length fn.ntmps with
        | false => rfl
        | true =>
          have hc : codeOk P fn.ntmps c = true := by
            unfold fnOk at h1
            simp only [Bool.and_eq_true] at h1
            exact h1.1.1
          have hle := Nat.le_of_ble_eq_true ha
          have := cCode_eq hn (E := ⟨call, f, fn.ntmps, none⟩) c h3 hc (bindA args 0 w3) (fillT args 0 .lf) [] st (bindA_eq args 0 _ _ envR_empty (by omega))
          show ob ((cCode P c).v _ _ _ _) (fRet (cRVs P fn.results.toList)) = ob (evCode P c _ _ _ _) (retK P fn.results.toList)
          revert this
          cases (cCode P c).v ⟨call, f, fn.ntmps, none⟩ (bindA args 0 w3) [] st <;> cases evCode P c ⟨call, f, fn.ntmps, none⟩ (fillT args 0 .lf) [] st
          · exact fun _ => rfl
          · exact fun h => h.elim
          · exact fun h => h.elim
          · exact fun h => fRet_eq h
theorem callNF_eq {good : Nat} (hgood : Good P good) : ∀ d, callNF P good d = callN P d
  | 0 => rfl
  | d + 1 => by
    show callVF P good (callNF P good d) = callV P (callN P d)
    rw [callNF_eq hgood d]
    funext f args st
    have ho : ∀ g l s, callOF P good (callN P d) g l s = callO P (callN P d) g l s := fun g l s => by
      unfold callOF callO
      cases known P g l s with
      | none =>
        simp only
        cases OTab.nat g l s with
        | none => exact cFn_eq hgood _ _ _ _
        | some r => rfl
      | some z => rfl
    have hm : ∀ n l s, methVF P good (callN P d) n l s = methV P (callN P d) n l s := fun n l s => by
      cases l with
      | nil => rfl
      | cons v r =>
        cases v with
        | iface t z =>
          show ob (methF P t n) (fun f => callOF P good (callN P d) f (z :: r) s) = ob (methF P t n) (fun f => callO P (callN P d) f (z :: r) s)
          rw [funext fun f => ho f (z :: r) s]
        | _ => rfl
    unfold callVF callV
    split <;> simp_all
theorem runF_eq {good : Nat} (hgood : Good P good) (f : FuncId) (args : List Value) (st : St) : runF P good f args st = run P f args st := by
  unfold runF run
  rw [cFn_eq hgood, callNF_eq hgood]
end Go.Ev
