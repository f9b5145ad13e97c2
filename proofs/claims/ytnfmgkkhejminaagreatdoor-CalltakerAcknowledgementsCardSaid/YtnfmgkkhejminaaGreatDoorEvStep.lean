/-
  A part of the proof that the evaluator answers what the model answers, for every program that follows mixed orders; no other condition.
-/
import Derived.Test.YtnfmgkkhejminaaGreatDoorEvGen
namespace Go.Ev
set_option linter.unusedSectionVars false
variable [OTab] [OVal]
variable {P : Program}

/-! ## steps of a frame that runs -/
def evT (tmps : Array Value) : Operand → Value
  | .tmp t => tmps.getD t undef
  | .const v => v
  | .global g => .pointer (some ⟨g, 0, none⟩)
  | .func f => .func (.func f) #[] #[]
theorem eval_evT (fr : Frame) : fr.eval = evT fr.tmps := by
  funext x; cases x <;> rfl

section steps
variable {fr : Frame} {cs : List Frame} {w w' : World} {k : List Item}
theorem st_skip (hm : fr.mode = .run) (ht : fr.todo = .code .skip :: k) : step P (lone fr cs w) = .next (lone { fr with todo := k } cs w) := by
  obtain ⟨fn, tmps, todo, defers, mode, kind, ro⟩ := fr; simp only at hm ht; subst hm ht
  exact step_lone_go (by simp [stepG, stepG.exec])
theorem st_label {l : Nat} (hm : fr.mode = .run) (ht : fr.todo = .code (.label l) :: k) : step P (lone fr cs w) = .next (lone { fr with todo := k } cs w) := by
  obtain ⟨fn, tmps, todo, defers, mode, kind, ro⟩ := fr; simp only at hm ht; subst hm ht
  exact step_lone_go (by simp [stepG, stepG.exec])
theorem st_inBlock {id : Nat} (hm : fr.mode = .run) (ht : fr.todo = .inBlock id :: k) : step P (lone fr cs w) = .next (lone { fr with todo := k } cs w) := by
  obtain ⟨fn, tmps, todo, defers, mode, kind, ro⟩ := fr; simp only at hm ht; subst hm ht
  exact step_lone_go (by simp [stepG, stepG.exec])
theorem st_inScope {c : Code} (hm : fr.mode = .run) (ht : fr.todo = .inScope c :: k) : step P (lone fr cs w) = .next (lone { fr with todo := k } cs w) := by
  obtain ⟨fn, tmps, todo, defers, mode, kind, ro⟩ := fr; simp only at hm ht; subst hm ht
  exact step_lone_go (by simp [stepG, stepG.exec])
theorem st_seq {a b : Code} (hm : fr.mode = .run) (ht : fr.todo = .code (.seq a b) :: k) : step P (lone fr cs w) = .next (lone { fr with todo := .code a :: .code b :: k } cs w) := by
  obtain ⟨fn, tmps, todo, defers, mode, kind, ro⟩ := fr; simp only at hm ht; subst hm ht
  exact step_lone_go (by simp [stepG, stepG.exec])
theorem st_cond {c : Operand} {a b : Code} {t : Bool} (hm : fr.mode = .run) (ht : fr.todo = .code (.cond c a b) :: k) (hc : fr.eval c = .bool t) : step P (lone fr cs w) = .next (lone { fr with todo := .code (if t then a else b) :: k } cs w) := by
  obtain ⟨fn, tmps, todo, defers, mode, kind, ro⟩ := fr; simp only at hm ht; subst hm ht
  exact step_lone_go (by simp [stepG, stepG.exec, hc])
theorem st_block {id : Nat} {c : Code} (hm : fr.mode = .run) (ht : fr.todo = .code (.block id c) :: k) : step P (lone fr cs w) = .next (lone { fr with todo := .code c :: .inBlock id :: k } cs w) := by
  obtain ⟨fn, tmps, todo, defers, mode, kind, ro⟩ := fr; simp only at hm ht; subst hm ht
  exact step_lone_go (by simp [stepG, stepG.exec])
theorem st_loop {c : Code} (hm : fr.mode = .run) (ht : fr.todo = .code (.loop c) :: k ∨ fr.todo = .inLoop c :: k) : step P (lone fr cs w) = .next (lone { fr with todo := .code c :: .inLoop c :: k } cs w) := by
  obtain ⟨fn, tmps, todo, defers, mode, kind, ro⟩ := fr; simp only at hm ht; subst hm
  rcases ht with ht | ht <;> subst ht <;> exact step_lone_go (by simp [stepG, stepG.exec])
theorem st_scope {c : Code} (hm : fr.mode = .run) (ht : fr.todo = .code (.scope c) :: k) : step P (lone fr cs w) = .next (lone { fr with todo := .code c :: .inScope c :: k } cs w) := by
  obtain ⟨fn, tmps, todo, defers, mode, kind, ro⟩ := fr; simp only at hm ht; subst hm ht
  exact step_lone_go (by simp [stepG, stepG.exec])
theorem st_exit {id : Nat} {k' : List Item} (hm : fr.mode = .run) (ht : fr.todo = .code (.exit id) :: k) (he : exitTo id k = some k') : step P (lone fr cs w) = .next (lone { fr with todo := k' } cs w) := by
  obtain ⟨fn, tmps, todo, defers, mode, kind, ro⟩ := fr; simp only at hm ht; subst hm ht
  exact step_lone_go (by simp [stepG, stepG.exec, he])
theorem st_region {id : Nat} {ops : Array Oper} (hm : fr.mode = .run) (ht : fr.todo = .code (.region id ops false) :: k) : step P (lone fr cs w) = .next (lone { fr with todo := .inRegion ops (List.range ops.size) :: k } cs w) := by
  obtain ⟨fn, tmps, todo, defers, mode, kind, ro⟩ := fr; simp only at hm ht; subst hm ht
  exact step_lone_go (by simp [stepG, stepG.exec])
theorem st_regionDraw {id : Nat} {ops : Array Oper} (hm : fr.mode = .run) (ht : fr.todo = .code (.region id ops true) :: k) :
    step P (lone fr cs w) = .next (lone { fr with todo := .inRegion ops (Region.schedule (P.follows .mixedOrders) ops (w.tape w.drawn (.order fr.fn id))) :: k } cs { w with drawn := w.drawn + 1 }) := by
  obtain ⟨fn, tmps, todo, defers, mode, kind, ro⟩ := fr; simp only at hm ht; subst hm ht
  exact step_lone_go (by simp [stepG, stepG.exec, choose, Sem.run, Question.forced, Question.cut])
theorem st_regionEnd {ops : Array Oper} (hm : fr.mode = .run) (ht : fr.todo = .inRegion ops [] :: k) : step P (lone fr cs w) = .next (lone { fr with todo := k } cs w) := by
  obtain ⟨fn, tmps, todo, defers, mode, kind, ro⟩ := fr; simp only at hm ht; subst hm ht
  exact step_lone_go (by simp [stepG, stepG.exec])
theorem st_opSkip {ops : Array Oper} {i : Nat} {rest : List Nat} (hm : fr.mode = .run) (ht : fr.todo = .inRegion ops (i :: rest) :: k) (hw : ((ops[i]?).map (Region.wanted · (yielded ops fr.tmps))).getD false = false) :
    step P (lone fr cs w) = .next (lone (fr.finish undef) cs w) := by
  obtain ⟨fn, tmps, todo, defers, mode, kind, ro⟩ := fr; simp only at hm ht hw; subst hm ht
  exact step_lone_go (by simp [stepG, stepG.exec, hw])
theorem stepG_op' {ops : Array Oper} {i : Nat} {rest : List Nat} {o : Oper} (hm : fr.mode = .run) (ht : fr.todo = .inRegion ops (i :: rest) :: k) (ho : ops[i]? = some o) (hw : Region.wanted o (yielded ops fr.tmps) = true) (hd : ∀ c, o.op ≠ .defer c) :
    stepG P true { frame := fr, callers := cs, status := .running, dying := none } w = stepG.apply P true fr cs none (execOp fr.eval o) w := by
  obtain ⟨fn, tmps, todo, defers, mode, kind, ro⟩ := fr; simp only at hm ht hw; subst hm ht
  simp only [stepG, stepG.exec, ho, hw, Option.map_some, Option.getD_some, if_true, stepG.oper, Frame.oper?]
  split
  · rename_i h2; exact absurd h2 (hd _)
  · rfl
theorem st_opValue {ops : Array Oper} {i : Nat} {rest : List Nat} {o : Oper} {v : Value} (hm : fr.mode = .run) (ht : fr.todo = .inRegion ops (i :: rest) :: k) (ho : ops[i]? = some o) (hw : Region.wanted o (yielded ops fr.tmps) = true) (hd : ∀ c, o.op ≠ .defer c)
    (hr : (execOp fr.eval o).run P w = .ok (.value v) w') : step P (lone fr cs w) = .next (lone (fr.finish v) cs w') :=
  step_lone_go (by rw [stepG_op' hm ht ho hw hd]; simp [stepG.apply, hr])
theorem st_opUnit {ops : Array Oper} {i : Nat} {rest : List Nat} {o : Oper} (hm : fr.mode = .run) (ht : fr.todo = .inRegion ops (i :: rest) :: k) (ho : ops[i]? = some o) (hw : Region.wanted o (yielded ops fr.tmps) = true) (hd : ∀ c, o.op ≠ .defer c)
    (hr : (execOp fr.eval o).run P w = .ok .skip w') : step P (lone fr cs w) = .next (lone (fr.finish undef) cs w') :=
  step_lone_go (by rw [stepG_op' hm ht ho hw hd]; simp [stepG.apply, hr])
end steps

/-! ## calls -/
/-- the frame that a call goes on in -/
def Enters (P : Program) (nx : Next) (callee : Frame) : Prop :=
  (∃ f args, nx = .enter f args ∧ callee = Frame.enter P f args .normal) ∨ (∃ l f tmps a b, nx = .round l f tmps a b ∧ callee = Frame.round l f tmps a b .normal)

/-- the call of a function value hands back cv -/
def Invokes (P : Program) (cf : Value) (cargs : Array Value) (w : World) (cv : Value) (w' : World) : Prop :=
  ∃ nx callee, (do let d ← Deferred.ofValue cf cargs; invoke d.target d.args : Sem Next).run P w = .ok nx w ∧ Enters P nx callee ∧ ∀ fr0 cs, Steps P (lone callee (fr0 :: cs) w) (lone (fr0.finish cv) cs w')

def CallOk (P : Program) (call : CallF) : Prop :=
  ∀ f args st v st', call f args st = some (v, st') → ∀ (m : Map) (w : World) (cf : Value) (cargs : List Value), Rel P m st w → Free m st.nxt st'.nxt → conc m f = some cf → concL m args = some cargs →
    ∃ m' w' cv, Step P m st w m' st' w' ∧ conc m' v = some cv ∧ Invokes P cf ⟨cargs⟩ w cv w'

/-- an operation of a region, carried out -/
def Performs (P : Program) (o : Oper) (ρ : Operand → Value) (w : World) (cv : Value) (w' : World) : Prop :=
  ∀ (fr : Frame) (ops : Array Oper) (i : Nat) (rest : List Nat) (k : List Item) (cs : List Frame), fr.mode = .run → fr.todo = .inRegion ops (i :: rest) :: k → ops[i]? = some o → Region.wanted o (yielded ops fr.tmps) = true →
    fr.eval = ρ → Steps P (lone fr cs w) (lone (fr.finish cv) cs w')

theorem enter_apply {fr callee : Frame} {cs : List Frame} {w : World} {s : Sem Next} {nx : Next} (hn : ∀ d r sv k, fr.todo ≠ .call d true r sv :: k) (hr : s.run P w = .ok nx w) (he : Enters P nx callee) :
    (stepG.apply P true fr cs none s w).bare = .go { frame := callee, callers := fr :: cs, status := .running, dying := none } w := by
  rcases he with ⟨f, args, rfl, rfl⟩ | ⟨l, f, tmps, a, b, rfl, rfl⟩
  · simp [stepG.apply, hr]
  · simp [stepG.apply, hr]

theorem performs_value {o : Oper} {ρ : Operand → Value} {w w' : World} {cv : Value} (hd : ∀ c, o.op ≠ .defer c) (h : (execOp ρ o).run P w = .ok (.value cv) w' ∨ ((execOp ρ o).run P w = .ok .skip w' ∧ cv = undef)) : Performs P o ρ w cv w' := by
  intro fr ops i rest k cs hm ht ho hw he
  subst he
  rcases h with h | ⟨h, rfl⟩
  · exact .one (st_opValue hm ht ho hw hd h)
  · exact .one (st_opUnit hm ht ho hw hd h)

theorem performs_call {o : Oper} {ρ : Operand → Value} {c : Call} {f : Operand} {w w' : World} {cv : Value} (ho : o.op = .call c) (hc : c.callee = .value f) (h : Invokes P (ρ f) (c.args.map ρ) w cv w') : Performs P o ρ w cv w' := by
  intro fr ops i rest k cs hm ht hop hw he
  subst he
  obtain ⟨nx, callee, h1, h2, h3⟩ := h
  refine .head (step_lone_go ?_) (h3 fr cs)
  rw [stepG_op' hm ht hop hw (fun c => by rw [ho]; simp)]
  refine enter_apply (fun d r sv k => by rw [ht]; simp) ?_ h2
  simpa [execOp, ho, resolve, hc] using h1

theorem performs_invoke {o : Oper} {ρ : Operand → Value} {c : Call} {r : Operand} {n : String} {w w' : World} {cv : Value} (ho : o.op = .call c) (hc : c.callee = .invoke r n) (h : Invokes P (.func (.method n) #[] #[]) (#[ρ r] ++ c.args.map ρ) w cv w') : Performs P o ρ w cv w' := by
  intro fr ops i rest k cs hm ht hop hw he
  subst he
  obtain ⟨nx, callee, h1, h2, h3⟩ := h
  refine .head (step_lone_go ?_) (h3 fr cs)
  rw [stepG_op' hm ht hop hw (fun c => by rw [ho]; simp)]
  refine enter_apply (fun d r sv k => by rw [ht]; simp) ?_ h2
  simpa [execOp, ho, resolve, hc, Deferred.ofValue] using h1

/-! ## every operation -/
theorem pushNew_step {m : Map} {st : St} {w : World} {nv : NewV} {o : Oper} {ρ : Operand → Value} (h : Rel P m st w) (hn : m st.nxt = none) (hd : NewDoes P m ρ o nv) :
    ∃ m' w' cv, Step P m st w m' (st.push (nv.b st.nxt)) w' ∧ conc m' (nv.v st.nxt) = some cv ∧ (execOp ρ o).run P w = .ok (.value cv) w' := by
  obtain ⟨obj, lim, f, h1, h2⟩ := hd
  obtain ⟨g2, g3⟩ := h2 st.nxt (upd m st.nxt ⟨w.heap.size, 0, lim⟩) w.heap.size (sub_upd _ hn) (upd_same _ _ _)
  exact ⟨_, w.alloc obj, f w.heap.size, push_step (o := obj) h hn rfl rfl rfl rfl (g3 _ (by show (w.heap.push obj)[w.heap.size]? = _; simp)), g2, h1 w⟩

theorem byCls_0 : byCls 0 = byPure := rfl
theorem byCls_1 : byCls 1 = byNew := rfl
theorem byCls_2 : byCls 2 = byRead := rfl
theorem byCls_3 (n : Nat) : byCls (n + 3) = evGen := rfl

theorem evOp_noDefer {E : Env} {A : T Value} {st : St} {o : Op} {r : Value × St} (h : evOp P o E A st = some r) : ∀ c, o ≠ .defer c := by
  intro c e
  subst e
  have : evOp P (.defer c) E A st = none := rfl
  rw [this] at h
  cases h

theorem op_sound {m : Map} {st st' : St} {w : World} {o : Oper} {ρ : Operand → Value} {A : T Value} {E : Env} {v : Value} (hcall : CallOk P E.call) (h : Rel P m st w) (hf : Free m st.nxt st'.nxt)
    (hops : ∀ x ∈ o.op.operands.toList, conc m (ev A x) = some (ρ x)) (he : evOp P o.op E A st = some (v, st')) :
    ∃ m' w' cv, Step P m st w m' st' w' ∧ conc m' v = some cv ∧ Performs P o ρ w cv w' := by
  have hnd := evOp_noDefer he
  unfold evOp at he
  match hc : cls P o.op with
  | 0 =>
    rw [hc, byCls_0] at he
    obtain ⟨u, h1, h2⟩ := ob_some he
    cases h2
    obtain ⟨cv, g1, g2⟩ := pure_sound (P := P) (m := m) (ρ := ρ) hops h1
    exact ⟨m, w, cv, Step.refl h, g1, performs_value hnd (.inl (g2 w))⟩
  | 1 =>
    rw [hc, byCls_1] at he
    obtain ⟨nv, h1, h2⟩ := ob_some he
    cases h2
    obtain ⟨m', w', cv, g1, g2, g3⟩ := pushNew_step h (hf _ (Nat.le_refl _) (Nat.lt_succ_self _)) (new_sound (P := P) (m := m) (ρ := ρ) hops h1)
    exact ⟨m', w', cv, g1, g2, performs_value hnd (.inl g3)⟩
  | 2 =>
    rw [hc, byCls_2] at he
    obtain ⟨u, h1, h2⟩ := ob_some he
    cases h2
    obtain ⟨cv, g1, g2⟩ := read_sound (P := P) h hc hops h1
    exact ⟨m, w, cv, Step.refl h, g1, performs_value hnd (.inl g2)⟩
  | n + 3 =>
    rw [hc, byCls_3] at he
    by_cases hcl : ∃ c f, o.op = .call c ∧ c.callee = .value f
    · obtain ⟨c, f, ho, hcf⟩ := hcl
      rw [ho] at he
      have he' : callGen P c E A st = some (v, st') := he
      unfold callGen at he'
      rw [hcf] at he'
      simp only at he'
      have hfo : conc m (ev A f) = some (ρ f) := hops f (by rw [ho]; simp [Op.operands, Call.operands, hcf])
      have hargs : concL m (c.args.toList.map (ev A)) = some (c.args.toList.map ρ) := args_conc (fun x hx => hops x (by rw [ho]; simp [Op.operands, Call.operands] at hx ⊢; exact .inr hx))
      obtain ⟨m', w', cv, g1, g2, g3⟩ := hcall _ _ _ _ _ he' m w _ _ h hf hfo hargs
      refine ⟨m', w', cv, g1, g2, performs_call ho hcf ?_⟩
      have e : c.args.map ρ = ⟨c.args.toList.map ρ⟩ := by apply Array.ext'; simp
      rw [e]
      exact g3
    · by_cases hcl2 : ∃ c r n, o.op = .call c ∧ c.callee = .invoke r n
      · obtain ⟨c, r, nm, ho, hcf⟩ := hcl2
        rw [ho] at he
        have he' : callGen P c E A st = some (v, st') := he
        unfold callGen at he'
        rw [hcf] at he'
        simp only at he'
        have hro : conc m (ev A r) = some (ρ r) := hops r (by rw [ho]; simp [Op.operands, Call.operands, hcf])
        have hargs : concL m (c.args.toList.map (ev A)) = some (c.args.toList.map ρ) := args_conc (fun x hx => hops x (by rw [ho]; simp [Op.operands, Call.operands] at hx ⊢; exact .inr hx))
        have hfo : conc m (.func (.method nm) #[] #[]) = some (.func (.method nm) #[] #[]) := by
          show conc m (.func (.method nm) ⟨[]⟩ ⟨[]⟩) = _
          simp [conc]
        obtain ⟨m', w', cv, g1, g2, g3⟩ := hcall _ _ _ _ _ he' m w _ _ h hf hfo (concL_cons' hro hargs)
        refine ⟨m', w', cv, g1, g2, performs_invoke ho hcf ?_⟩
        have e : #[ρ r] ++ c.args.map ρ = ⟨ρ r :: c.args.toList.map ρ⟩ := by apply Array.ext'; simp
        rw [e]
        exact g3
      · obtain ⟨m', w', cv, g1, g2, g3⟩ := gen_sound (P := P) h hf (fun c f h1 h2 => hcl ⟨c, f, h1, h2⟩) (fun c r n h1 h2 => hcl2 ⟨c, r, n, h1, h2⟩) hops he
        exact ⟨m', w', cv, g1, g2, performs_value hnd g3⟩
end Go.Ev
