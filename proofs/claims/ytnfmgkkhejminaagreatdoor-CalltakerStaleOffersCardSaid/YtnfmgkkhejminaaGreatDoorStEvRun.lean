/-
  A part of the proof that the evaluator answers what the model answers, for every program that follows mixed orders; no other condition.
-/
import Derived.Test.YtnfmgkkhejminaaGreatDoorStEvDraw
import Derived.RangeFuncNested
import Derived.Conc.MuLone
import Derived.Below
namespace Go.Ev
set_option linter.unusedSectionVars false
variable [OTab] [OVal]
variable {P : Program}

/-! ## steps -/
section steps
variable {fr : Frame} {cs : List Frame} {w w' : World} {k : List Item}
theorem st_leave (hm : fr.mode = .run) (hr : fr.roundOf = none) (ht : fr.todo = [] ∨ ∃ k, fr.todo = .code .ret :: k) : step P (lone fr cs w) = .next (lone { fr with mode := .returning } cs w) := by
  obtain ⟨fn, tmps, todo, defers, mode, kind, ro⟩ := fr
  simp only at hm ht hr
  subst hm hr
  rcases ht with ht | ⟨k, ht⟩ <;> subst ht <;> exact step_lone_go (by simp [stepG, stepG.exec])
theorem st_collected {b : Nat} {ds : List Deferred} (hm : fr.mode = .returning) (hd : fr.defers = { target := .collected b, args := #[] } :: ds) (h : (Instr.takeDeferred b).run P w = .ok [] w') :
    step P (lone fr cs w) = .next (lone { fr with defers := ds } cs w') := by
  obtain ⟨fn, tmps, todo, defers, mode, kind, ro⟩ := fr
  simp only at hm hd
  subst hm hd
  exact step_lone_go (by simp [stepG, unwind, Sem.runT_eq, h])
theorem st_beginRound {l : Nat} (hm : fr.mode = .run) (hr : fr.roundOf = some l) (ht : fr.todo = .beginRound :: k) (h : (Instr.beginRound l).run P w = .ok () w') :
    step P (lone fr cs w) = .next (lone { fr with todo := k } cs w') := by
  obtain ⟨fn, tmps, todo, defers, mode, kind, ro⟩ := fr
  simp only at hm ht hr
  subst hm hr ht
  exact step_lone_go (by simp [stepG, stepG.exec, stepG.apply, Sem.runT_eq, h, Result.andThen, Frame.finish])
theorem st_roundEnd {l : Nat} {c : Frame} {v : Value} (hm : fr.mode = .run) (hk : fr.kind = .normal) (hr : fr.roundOf = some l) (ht : fr.todo = []) (h : (Instr.endRound l none).run P w = .ok v w') :
    step P (lone fr (c :: cs) w) = .next (lone (c.finish v) cs w') := by
  obtain ⟨fn, tmps, todo, defers, mode, kind, ro⟩ := fr
  simp only at hm ht hr hk
  subst hm hr ht hk
  exact step_lone_go (by simp [stepG, stepG.exec, Sem.runT_eq, h, doReturn])
theorem st_roundRet {l : Nat} {c : Frame} {v : Value} (hm : fr.mode = .run) (hk : fr.kind = .normal) (hr : fr.roundOf = some l) (ht : fr.todo = .code .ret :: k) (h : (Instr.endRound l (some .ret)).run P w = .ok v w') :
    step P (lone fr (c :: cs) w) = .next (lone (c.finish v) cs w') := by
  obtain ⟨fn, tmps, todo, defers, mode, kind, ro⟩ := fr
  simp only at hm ht hr hk
  subst hm hr ht hk
  exact step_lone_go (by simp [stepG, stepG.exec, Sem.runT_eq, h, doReturn])
theorem st_roundExit {l id : Nat} {c : Frame} {v : Value} (hm : fr.mode = .run) (hk : fr.kind = .normal) (hr : fr.roundOf = some l) (ht : fr.todo = .code (.exit id) :: k) (hx : exitTo id k = none) (h : (Instr.endRound l (some (.exit id))).run P w = .ok v w') :
    step P (lone fr (c :: cs) w) = .next (lone (c.finish v) cs w') := by
  obtain ⟨fn, tmps, todo, defers, mode, kind, ro⟩ := fr
  simp only at hm ht hr hk
  subst hm hr ht hk
  exact step_lone_go (by simp [stepG, stepG.exec, hx, Sem.runT_eq, h, doReturn])
theorem st_endRangeFunc {l : Nat} {jump : Option Code} (hm : fr.mode = .run) (ht : fr.todo = .endRangeFunc l :: k) (h : (Instr.endLoop l).run P w = .ok jump w') :
    step P (lone fr cs w) = .next (lone { fr with todo := (jump.map Item.code).toList ++ k } cs w') := by
  obtain ⟨fn, tmps, todo, defers, mode, kind, ro⟩ := fr
  simp only at hm ht
  subst hm ht
  exact step_lone_go (by simp [stepG, stepG.exec, Sem.runT_eq, h])
theorem st_rangeFunc {f : Operand} {params : Array Tmp} {assign body : Code} {l : Nat} {mark : List Deferred} {nx : Next} {callee : Frame} (hm : fr.mode = .run) (ht : fr.todo = .code (.rangeFunc f params assign body) :: k)
    (h : (Instr.enterLoop fr.fn fr.tmps params assign body fr.roundOf).run P w = .ok (l, mark) w')
    (hi : (do let d ← Deferred.ofValue (fr.eval f) #[.func (.yield l) #[] #[]]; invoke d.target d.args : Sem Next).run P w' = .ok nx w') (he : Enters P nx callee) :
    step P (lone fr cs w) = .next (lone callee ({ fr with todo := .inRangeFunc l :: k, defers := mark ++ fr.defers } :: cs) w') := by
  obtain ⟨fn, tmps, todo, defers, mode, kind, ro⟩ := fr
  simp only at hm ht h
  subst hm ht
  refine step_lone_go ?_
  simp only [stepG, stepG.exec, Sem.runT_eq, h, GStep.bare_after]
  refine enter_apply (fr := { fn := fn, tmps := tmps, todo := .inRangeFunc l :: k, defers := mark ++ defers, mode := .run, kind := kind, roundOf := ro }) (fun d r sv k' => by simp) ?_ he
  simpa [resolve, Frame.eval] using hi
end steps

/-! ## what is kept of a frame -/
def DefRel (m : Map) : List Nat → List Deferred → Prop
  | [], [] => True
  | r :: rs, d :: ds => (∃ x, m r = some x ∧ d = { target := .collected x.blk, args := #[] }) ∧ DefRel m rs ds
  | _, _ => False
theorem DefRel.mono {m m' : Map} (hm : Sub m m') : ∀ {l : List Nat} {d : List Deferred}, DefRel m l d → DefRel m' l d
  | [], [], _ => trivial
  | _ :: _, _ :: _, h => ⟨h.1.imp fun _ e => ⟨hm _ _ e.1, e.2⟩, DefRel.mono hm h.2⟩
  | [], _ :: _, h => h.elim
  | _ :: _, [], h => h.elim
def RndRel (m : Map) : Option Nat → Option Nat → Prop
  | none, r => r = none
  | some l, r => ∃ x, m l = some x ∧ x.sh = 0 ∧ r = some x.blk
theorem RndRel.mono {m m' : Map} (hm : Sub m m') {a b : Option Nat} (h : RndRel m a b) : RndRel m' a b := by
  cases a with
  | none => exact h
  | some l => exact h.imp fun _ e => ⟨hm _ _ e.1, e.2⟩

def Ends : Ex → List Item → List Item → Prop
  | .normal, k, t => t = k
  | .exit id, k, t => ∃ k', t = .code (.exit id) :: k' ∧ exitTo id k' = exitTo id k
  | .ret, _, t => ∃ k', t = .code .ret :: k'

/-- a frame that stands at a code, and the abstract temporaries and memory -/
structure At (P : Program) (E : Env) (m : Map) (st : St) (w : World) (A : T Value) (dm : List Nat) (fr : Frame) : Prop where
  rel : Rel P m st w
  tm : TmRel m A fr.tmps
  size : fr.tmps.size = E.n
  defs : DefRel m dm fr.defers
  rnd : RndRel m E.rnd fr.roundOf
  fn : fr.fn = E.fn
  mode : fr.mode = .run

def Goes (P : Program) (E : Env) (m : Map) (st : St) (w : World) (fr : Frame) (cs : List Frame) (k : List Item) (r : Res) : Prop :=
  ∃ m' w' tmps' D' todo', Step P m st w m' r.st w' ∧ At P E m' r.st w' r.A r.dm { fr with tmps := tmps', defers := D', todo := todo' } ∧ Ends r.ex k todo' ∧
    Steps P (lone fr cs w) (lone { fr with tmps := tmps', defers := D', todo := todo' } cs w')

def CodeOk (P : Program) (E : Env) (start : Frame → List Item → Prop) (f : CodeF) : Prop :=
  ∀ A dm st r, f E A dm st = some r → ∀ m w fr k cs, At P E m st w A dm fr → Free m st.nxt r.st.nxt → start fr k → Goes P E m st w fr cs k r

theorem At.todo {E : Env} {m : Map} {st : St} {w : World} {A : T Value} {dm : List Nat} {fr : Frame} (h : At P E m st w A dm fr) (t : List Item) : At P E m st w A dm { fr with todo := t } :=
  ⟨h.rel, h.tm, h.size, h.defs, h.rnd, h.fn, h.mode⟩

theorem At.with {E : Env} {m : Map} {st : St} {w : World} {A : T Value} {dm : List Nat} {fr : Frame} (h : At P E m st w A dm fr) {m' : Map} {st' : St} {w' : World} (hs : Step P m st w m' st' w') {A' : T Value} {tmps' : Array Value} {dm' : List Nat} {D' : List Deferred} {todo' : List Item} (ht : TmRel m' A' tmps') (hn : tmps'.size = E.n) (hd : DefRel m' dm' D') :
    At P E m' st' w' A' dm' { fr with tmps := tmps', defers := D', todo := todo' } :=
  ⟨hs.rel, ht, hn, hd, h.rnd.mono hs.sub, h.fn, h.mode⟩

/-- one step ahead of the rest -/
theorem Goes.head {E : Env} {m : Map} {st : St} {w : World} {fr : Frame} {cs : List Frame} {k : List Item} {r : Res} {t : List Item} (hs : step P (lone fr cs w) = .next (lone { fr with todo := t } cs w)) (h : Goes P E m st w { fr with todo := t } cs k r) : Goes P E m st w fr cs k r := by
  obtain ⟨m', w', tmps', D', todo', h1, h2, h3, h4⟩ := h
  exact ⟨m', w', tmps', D', todo', h1, h2, h3, .head hs h4⟩

theorem goes_stay {E : Env} {m : Map} {st : St} {w : World} {A : T Value} {dm : List Nat} {fr : Frame} {cs : List Frame} {k : List Item} {ex : Ex} (h : At P E m st w A dm fr) (he : Ends ex k fr.todo) : Goes P E m st w fr cs k ⟨ex, A, dm, st⟩ := by
  refine ⟨m, w, fr.tmps, fr.defers, fr.todo, Step.refl h.rel, ?_, he, .refl _ _⟩
  exact h

/-- what follows a part that ended: the rest, or what it jumps to -/
theorem goes_seq {E : Env} {m : Map} {st : St} {w : World} {fr : Frame} {cs : List Frame} {k1 k : List Item} {r1 r : Res} {g : CodeF} {start : Frame → List Item → Prop} (h1 : Goes P E m st w fr cs k1 r1) (hf : Free m st.nxt r.st.nxt) (hg : CodeOk P E start g) (_hgaf : ∀ r', g E r1.A r1.dm r1.st = some r' → AF r1.st r'.st)
    (hst : ∀ fr' : Frame, fr'.todo = k1 → start fr' k) (hx : ∀ id, exitTo id k1 = exitTo id k) (h : seqK g E r1 = some r) : Goes P E m st w fr cs k r := by
  obtain ⟨m1, w1, tmps1, D1, todo1, s1, a1, e1, t1⟩ := h1
  unfold seqK at h
  cases hex : r1.ex with
  | normal =>
    rw [hex] at h
    have h' : g E r1.A r1.dm r1.st = some r := h
    rw [hex] at e1
    have e1' : todo1 = k1 := e1
    obtain ⟨m2, w2, tmps2, D2, todo2, s2, a2, e2, t2⟩ := hg _ _ _ _ h' m1 w1 { fr with tmps := tmps1, defers := D1, todo := todo1 } k cs a1 (s1.free hf) (hst _ e1')
    exact ⟨m2, w2, tmps2, D2, todo2, s1.trans s2, a2, e2, t1.trans t2⟩
  | exit id =>
    rw [hex] at h
    have h' : some r1 = some r := h
    cases h'
    rw [hex] at e1
    obtain ⟨k', q1, q2⟩ := e1
    refine ⟨m1, w1, tmps1, D1, todo1, s1, a1, ?_, t1⟩
    rw [hex]
    exact ⟨k', q1, by rw [q2, hx]⟩
  | ret =>
    rw [hex] at h
    have h' : some r1 = some r := h
    cases h'
    rw [hex] at e1
    refine ⟨m1, w1, tmps1, D1, todo1, s1, a1, ?_, t1⟩
    rw [hex]
    exact e1

theorem goes_loop {E : Env} {c : Code} {body : CodeF} (haf : CodeAF body) (hcaf : CallAF E.call) (hb : CodeOk P E (fun fr k => fr.todo = .code c :: k) body) : ∀ n, CodeOk P E (fun fr k => fr.todo = .code (.loop c) :: k ∨ fr.todo = .inLoop c :: k) (loopN body n)
  | 0 => fun A dm st r h => by cases h
  | n + 1 => fun A dm st r h m w fr k cs ha hf ht => by
    have h' : ob (body E A dm st) (seqK (loopN body n) E) = some r := h
    obtain ⟨r1, h1, h2⟩ := ob_some h'
    have af2 : AF r1.st r.st := seqK_af (loopN_af haf n) hcaf h2
    refine Goes.head (t := .code c :: .inLoop c :: k) (st_loop ha.mode ht) ?_
    have g1 := hb _ _ _ _ h1 m w { fr with todo := .code c :: .inLoop c :: k } (.inLoop c :: k) cs (ha.todo _) (hf.sub (Nat.le_refl _) af2.nxt) rfl
    exact goes_seq g1 hf (goes_loop haf hcaf hb n) (fun r' hr' => loopN_af haf n _ _ _ _ _ hcaf hr') (fun fr' e => .inr e) (fun id => rfl) h2

/-! ## range over a function -/
theorem rel_loop {m : Map} {st : St} {w : World} (h : Rel P m st w) {b : Nat} {l : ALoop} {x : M} (hb : m b = some x) (hk : st.mem.get b = some (.loop l)) : x.sh = 0 ∧ ∃ c, w.heap[x.blk]? = some (.loop c) ∧ LoopRel m l c := h.blks b x _ hb hk
theorem rel_defd {m : Map} {st : St} {w : World} (h : Rel P m st w) {b : Nat} {x : M} (hb : m b = some x) (hk : st.mem.get b = some .defd) : x.sh = 0 ∧ w.heap[x.blk]? = some (.deferred (some [])) := h.blks b x _ hb hk

/-- behind the iterator's return -/
theorem goes_endLoop {E : Env} {m : Map} {st : St} {w : World} {A : T Value} {dm : List Nat} {fr : Frame} {cs : List Frame} {k : List Item} {r : Res} {l : Nat} {v : Value} {x : M} (ha : At P E m st w A dm fr) (hl : m l = some x) (ht : fr.todo = .endRangeFunc x.blk :: k) (h : endLoopK l A dm (v, st) = some r) : Goes P E m st w fr cs k r := by
  unfold endLoopK at h
  obtain ⟨b, hb, h1⟩ := ob_some h
  split at h1
  · rename_i o
    simp only at hb
    obtain ⟨x0, c, hc, hL⟩ := rel_loop ha.rel hl hb
    split at h1
    · cases h1
    · rename_i hbusy
      have hbusy' : c.state ≠ .busy := by rw [hL.state]; intro e; rw [e] at hbusy; exact hbusy rfl
      have hrun := run_endLoop (P := P) hc hbusy'
      have hstep := set_obj (k := .loop { o with state := .exhausted }) (obj := .loop { c with state := .exhausted }) ha.rel hl hb rfl hc (fun w' hw => ⟨x0, _, hw, ⟨rfl, hL.pending, hL.fn, hL.tmps, hL.ntm, hL.params, hL.assign, hL.body, hL.defers⟩⟩)
      have hst := st_endRangeFunc (P := P) (cs := cs) ha.mode ht hrun
      have fin : ∀ (ex : Ex) (t : List Item), Ends ex k t → (o.pending.map Item.code).toList ++ k = t → Goes P E m st w fr cs k ⟨ex, A, dm, st.setB l (.loop { o with state := .exhausted })⟩ := fun ex t he e => by
        refine ⟨m, _, fr.tmps, fr.defers, t, hstep, ha.with hstep ha.tm ha.size ha.defs, he, .one ?_⟩
        rw [← e, ← hL.pending]
        exact hst
      split at h1
      · rename_i hp; cases h1; exact fin .normal k rfl (by rw [hp]; rfl)
      · rename_i hp; cases h1; exact fin .ret (.code .ret :: k) ⟨k, rfl⟩ (by rw [hp]; rfl)
      · rename_i id hp; cases h1; exact fin (.exit id) (.code (.exit id) :: k) ⟨k, rfl, rfl⟩ (by rw [hp]; rfl)
      · cases h1
  · cases h1

theorem goes_rangeFn {E : Env} (hcall : CallOk P E.call) (haf : CallAF E.call) {f : Operand} {params : Array Tmp} {assign body : Code} (hok : opndOk P f = true) : CodeOk P E (fun fr k => fr.todo = .code (.rangeFunc f params assign body) :: k) (rangeFn f params assign body) := by
  intro A dm st r h m w fr k cs ha hf ht
  unfold rangeFn at h
  have hfc := opnd_conc ha.rel ha.tm hok
  -- the steps from the loop's record on
  have key : ∀ (m1 : Map) (st1 st2 : St) (w1 : World) (v : Value) (dm1 : List Nat) (mark : List Deferred) (l : Nat) (x : M), Step P m st w m1 st1 w1 → m1 l = some x → x.sh = 0 → DefRel m1 dm1 (mark ++ fr.defers) →
      (Instr.enterLoop fr.fn fr.tmps params assign body fr.roundOf).run P w = .ok (x.blk, mark) w1 → E.call (ev A f) [.func (.yield l) #[] #[]] st1 = some (v, st2) → endLoopK l A dm1 (v, st2) = some r → Goes P E m st w fr cs k r := by
    intro m1 st1 st2 w1 v dm1 mark l x hs hl hx0 hd hrun hc he
    have af3 := endLoopK_af he
    have af2 := haf _ _ _ _ _ hc
    have hy : conc m1 (.func (.yield l) #[] #[]) = some (.func (.yield x.blk) #[] #[]) := by simp [conc, hl]
    obtain ⟨m2, w2, cv, g1, g2, nx, callee, q1, q2, q3⟩ := hcall _ _ _ _ _ hc m1 w1 _ _ { fr with todo := .inRangeFunc x.blk :: k, defers := mark ++ fr.defers } cs hs.rel ((hs.free hf).sub (Nat.le_refl _) af3.nxt) (conc_mono hs.sub _ _ hfc) (concL_cons' hy (concL_nil m1))
    have hstep := st_rangeFunc (P := P) (cs := cs) ha.mode ht hrun (by rw [eval_evT]; exact q1) q2
    have hsteps := q3
    have hfin : ({ fr with todo := .inRangeFunc x.blk :: k, defers := mark ++ fr.defers } : Frame).finish cv = { fr with todo := .endRangeFunc x.blk :: k, defers := mark ++ fr.defers } := rfl
    simp only [hfin] at hsteps
    have hs2 := hs.trans g1
    have ha2 : At P E m2 st2 w2 A dm1 { fr with todo := .endRangeFunc x.blk :: k, defers := mark ++ fr.defers } :=
      ⟨g1.rel, (ha.tm.mono hs2.sub), ha.size, hd.mono g1.sub, ha.rnd.mono hs2.sub, ha.fn, ha.mode⟩
    obtain ⟨m3, w3, tmps3, D3, todo3, p1, p2, p3, p4⟩ := goes_endLoop (cs := cs) (k := k) ha2 (g1.sub _ _ hl) rfl he
    exact ⟨m3, w3, tmps3, D3, todo3, hs2.trans p1, p2, p3, .head hstep (hsteps.trans p4)⟩
  split at h
  · -- outermost
    rename_i hrn
    have hro : fr.roundOf = none := by have := ha.rnd; rw [hrn] at this; exact this
    obtain ⟨p, h1, h2⟩ := ob_some h
    obtain ⟨v, st2⟩ := p
    have af2 := haf _ _ _ _ _ h1
    have af3 := endLoopK_af h2
    have hle : st.nxt + 2 ≤ r.st.nxt := by
      have q1 := af2.nxt
      have q2 := af3.nxt
      have : ((st.push .defd).push (.loop ⟨.ready, none, E.fn, A, E.n, params.toList, assign, body, st.nxt⟩)).nxt = st.nxt + 2 := rfl
      omega
    have hn0 : m st.nxt = none := hf _ (Nat.le_refl _) (by omega)
    let w1 : World := w.alloc (.deferred (some []))
    have s1 := push_step (P := P) (w' := w1) (k := .defd) (o := .deferred (some [])) (lim := 0) ha.rel hn0 rfl rfl rfl rfl ⟨rfl, by show (w.heap.push _)[w.heap.size]? = _; simp⟩
    have hsz1 : w1.heap.size = w.heap.size + 1 := by show (w.heap.push _).size = _; simp
    have hn1 : upd m st.nxt ⟨w.heap.size, 0, 0⟩ (st.push .defd).nxt = none := by
      show upd m st.nxt _ (st.nxt + 1) = none
      rw [upd_other _ _ (by omega)]
      exact hf _ (by omega) (by omega)
    have hsub2 := sub_upd (⟨w1.heap.size, 0, 0⟩ : M) hn1
    have s2 := push_step (P := P) (w' := w1.alloc (.loop { state := .ready, pending := none, fn := fr.fn, tmps := fr.tmps, params := params, assign := assign, body := body, defers := w.heap.size }))
      (k := .loop ⟨.ready, none, E.fn, A, E.n, params.toList, assign, body, st.nxt⟩) (lim := 0) s1.rel hn1 rfl rfl rfl rfl
      ⟨rfl, _, World.alloc_heap_new w1 _, ⟨rfl, rfl, ha.fn, fun t => conc_mono (s1.sub.trans hsub2) _ _ (ha.tm t), ha.size, rfl, rfl, rfl, ⟨⟨w.heap.size, 0, 0⟩, hsub2 _ _ (upd_same _ _ _), rfl⟩⟩⟩
    refine key _ _ st2 _ v (st.nxt :: dm) [{ target := .collected w.heap.size, args := #[] }] (st.nxt + 1) ⟨w1.heap.size, 0, 0⟩ (s1.trans s2) (upd_same _ _ _) rfl ?_ ?_ h1 h2
    · exact ⟨⟨⟨w.heap.size, 0, 0⟩, hsub2 _ _ (upd_same _ _ _), rfl⟩, ha.defs.mono (s1.trans s2).sub⟩
    · rw [hro, hsz1]
      exact run_enterLoop_outer fr.fn fr.tmps params assign body
  · -- inside a round
    rename_i l0 hrn
    obtain ⟨b, hb, h0⟩ := ob_some h
    split at h0
    · rename_i o
      obtain ⟨p, h1, h2⟩ := ob_some h0
      obtain ⟨v, st2⟩ := p
      have af2 := haf _ _ _ _ _ h1
      have af3 := endLoopK_af h2
      have hle : st.nxt + 1 ≤ r.st.nxt := by
        have q1 := af2.nxt
        have q2 := af3.nxt
        have : (st.push (.loop ⟨.ready, none, E.fn, A, E.n, params.toList, assign, body, o.defers⟩)).nxt = st.nxt + 1 := rfl
        omega
      have hro := ha.rnd
      rw [hrn] at hro
      obtain ⟨x0, hx0, _, hro⟩ := hro
      obtain ⟨_, c0, hc0, hL0⟩ := rel_loop ha.rel hx0 hb
      have hn0 : m st.nxt = none := hf _ (Nat.le_refl _) (by omega)
      have hsub := sub_upd (⟨w.heap.size, 0, 0⟩ : M) hn0
      obtain ⟨xd, hxd, hde⟩ := hL0.defers
      have s1 := push_step (P := P) (w' := w.alloc (.loop { state := .ready, pending := none, fn := fr.fn, tmps := fr.tmps, params := params, assign := assign, body := body, defers := c0.defers }))
        (k := .loop ⟨.ready, none, E.fn, A, E.n, params.toList, assign, body, o.defers⟩) (lim := 0) ha.rel hn0 rfl rfl rfl rfl
        ⟨rfl, _, World.alloc_heap_new w _, ⟨rfl, rfl, ha.fn, fun t => conc_mono hsub _ _ (ha.tm t), ha.size, rfl, rfl, rfl, ⟨xd, hsub _ _ hxd, hde⟩⟩⟩
      refine key _ _ st2 _ v dm [] st.nxt ⟨w.heap.size, 0, 0⟩ s1 (upd_same _ _ _) rfl (ha.defs.mono s1.sub) ?_ h1 h2
      rw [hro]
      exact run_enterLoop_inner hc0 fr.fn fr.tmps params assign body
    · cases h0

/-! ## all code -/
theorem code_sound {E : Env} (hmix : P.follows .mixedOrders = true) (hcall : CallOk P E.call) (haf : CallAF E.call) : ∀ c : Code, codeOk P E.n c = true → CodeOk P E (fun fr k => fr.todo = .code c :: k) (evCode P c)
  | .skip, _ => fun A dm st r h m w fr k cs ha hf ht => by
    have h' : some (⟨.normal, A, dm, st⟩ : Res) = some r := h
    cases h'
    exact Goes.head (st_skip ha.mode ht) (goes_stay (ha.todo k) rfl)
  | .label l, _ => fun A dm st r h m w fr k cs ha hf ht => by
    have h' : some (⟨.normal, A, dm, st⟩ : Res) = some r := h
    cases h'
    exact Goes.head (st_label ha.mode ht) (goes_stay (ha.todo k) rfl)
  | .exit id, _ => fun A dm st r h m w fr k cs ha hf ht => by
    have h' : some (⟨.exit id, A, dm, st⟩ : Res) = some r := h
    cases h'
    exact goes_stay ha ⟨k, ht, rfl⟩
  | .ret, _ => fun A dm st r h m w fr k cs ha hf ht => by
    have h' : some (⟨.ret, A, dm, st⟩ : Res) = some r := h
    cases h'
    exact goes_stay ha ⟨k, ht⟩
  | .goto _, _ => fun A dm st r h => by cases h
  | .refuse _, _ => fun A dm st r h => by cases h
  | .seq a b, hok => fun A dm st r h m w fr k cs ha hf ht => by
    obtain ⟨r1, h1, h2⟩ := ob_some (show ob (evCode P a E A dm st) (seqK (evCode P b) E) = some r from h)
    simp only [codeOk, Bool.and_eq_true] at hok
    have af2 : AF r1.st r.st := seqK_af (evCode_af b) haf h2
    refine Goes.head (t := .code a :: .code b :: k) (st_seq ha.mode ht) ?_
    have g1 := code_sound hmix hcall haf a hok.1 _ _ _ _ h1 m w { fr with todo := .code a :: .code b :: k } (.code b :: k) cs (ha.todo _) (hf.sub (Nat.le_refl _) af2.nxt) rfl
    exact goes_seq g1 hf (code_sound hmix hcall haf b hok.2) (fun r' hr' => evCode_af b _ _ _ _ _ haf hr') (fun fr' e => e) (fun id => rfl) h2
  | .cond c a b, hok => fun A dm st r h m w fr k cs ha hf ht => by
    obtain ⟨t, h1, h2⟩ := ob_some (show ob (asB (ev A c)) (condK (evCode P a) (evCode P b) E A dm st) = some r from h)
    simp only [codeOk, Bool.and_eq_true] at hok
    have hc := opnd_conc ha.rel ha.tm hok.1.1
    have hb : ev A c = .bool t := by
      cases hv : ev A c with
      | bool u => rw [hv] at h1; cases h1; rfl
      | _ => rw [hv] at h1; cases h1
    rw [hb, conc_bool] at hc
    have hev : fr.eval c = .bool t := by rw [eval_evT]; exact (Option.some.inj hc).symm
    refine Goes.head (st_cond ha.mode ht hev) ?_
    unfold condK at h2
    cases t with
    | false => exact code_sound hmix hcall haf b hok.2 _ _ _ _ h2 m w _ k cs (ha.todo _) hf rfl
    | true => exact code_sound hmix hcall haf a hok.1.2 _ _ _ _ h2 m w _ k cs (ha.todo _) hf rfl
  | .block id b, hok => fun A dm st r h m w fr k cs ha hf ht => by
    obtain ⟨r1, h1, h2⟩ := ob_some (show ob (evCode P b E A dm st) (blockK id) = some r from h)
    have hok' : codeOk P E.n b = true := hok
    refine Goes.head (t := .code b :: .inBlock id :: k) (st_block ha.mode ht) ?_
    have hst : r.st = r1.st := by
      unfold blockK at h2
      cases hx : r1.ex with
      | normal => rw [hx] at h2; have h' : some r1 = some r := h2; cases h'; rfl
      | ret => rw [hx] at h2; have h' : some r1 = some r := h2; cases h'; rfl
      | exit id' =>
        rw [hx] at h2
        have h' : bsel (Nat.beq id' id) (some r1) (some ⟨.normal, r1.A, r1.dm, r1.st⟩) = some r := h2
        cases hb : Nat.beq id' id <;> rw [hb] at h' <;> cases h' <;> rfl
    obtain ⟨m1, w1, tmps1, D1, todo1, s1, a1, e1, t1⟩ := code_sound hmix hcall haf b hok' _ _ _ _ h1 m w { fr with todo := .code b :: .inBlock id :: k } (.inBlock id :: k) cs (ha.todo _) (by rw [← hst]; exact hf) rfl
    unfold blockK at h2
    cases hx : r1.ex with
    | normal =>
      rw [hx] at h2 e1
      have h' : some r1 = some r := h2
      cases h'
      have e1' : todo1 = .inBlock id :: k := e1
      subst e1'
      refine ⟨m1, w1, tmps1, D1, k, s1, a1.todo k, by rw [hx]; rfl, t1.trans (.one (st_inBlock a1.mode rfl))⟩
    | ret =>
      rw [hx] at h2 e1
      have h' : some r1 = some r := h2
      cases h'
      refine ⟨m1, w1, tmps1, D1, todo1, s1, a1, by rw [hx]; exact e1, t1⟩
    | exit id' =>
      rw [hx] at h2 e1
      have h' : bsel (Nat.beq id' id) (some r1) (some ⟨.normal, r1.A, r1.dm, r1.st⟩) = some r := h2
      obtain ⟨k', q1, q2⟩ := e1
      cases hb : Nat.beq id' id with
      | false =>
        rw [hb] at h'
        cases h'
        refine ⟨m1, w1, tmps1, D1, todo1, s1, a1, ?_, t1⟩
        rw [hx]
        refine ⟨k', q1, ?_⟩
        rw [q2]
        show (if id == id' then some k else exitTo id' k) = _
        rw [if_neg]
        intro e
        have : id = id' := by simpa using e
        subst this
        rw [Nat.beq_refl] at hb; cases hb
      | true =>
        rw [hb] at h'
        cases h'
        have : id' = id := Nat.eq_of_beq_eq_true hb
        subst this
        subst q1
        have q2' : exitTo id' k' = some k := by rw [q2]; simp [exitTo]
        exact ⟨m1, w1, tmps1, D1, k, s1, a1.todo k, rfl, t1.trans (.one (st_exit a1.mode rfl q2'))⟩
  | .loop b, hok => fun A dm st r h m w fr k cs ha hf ht =>
    goes_loop (evCode_af b) haf (code_sound hmix hcall haf b hok) 1000000 A dm st r h m w fr k cs ha hf (.inl ht)
  | .rangeFunc f params assign body, hok => by
    simp only [codeOk, Bool.and_eq_true] at hok
    exact goes_rangeFn hcall haf hok.1.1.1
  | .scope b, hok => fun A dm st r h m w fr k cs ha hf ht => by
    refine Goes.head (t := .code b :: .inScope b :: k) (st_scope ha.mode ht) ?_
    obtain ⟨m1, w1, tmps1, D1, todo1, s1, a1, e1, t1⟩ := code_sound hmix hcall haf b hok _ _ _ _ h m w { fr with todo := .code b :: .inScope b :: k } (.inScope b :: k) cs (ha.todo _) hf rfl
    cases hx : r.ex with
    | normal =>
      rw [hx] at e1
      have e1' : todo1 = .inScope b :: k := e1
      subst e1'
      exact ⟨m1, w1, tmps1, D1, k, s1, a1.todo k, by rw [hx]; rfl, t1.trans (.one (st_inScope a1.mode rfl))⟩
    | ret => rw [hx] at e1; exact ⟨m1, w1, tmps1, D1, todo1, s1, a1, by rw [hx]; exact e1, t1⟩
    | exit id => rw [hx] at e1; exact ⟨m1, w1, tmps1, D1, todo1, s1, a1, by rw [hx]; exact e1, t1⟩
  | .region id ops draw, hok => fun A dm st r h m w fr k cs ha hf ht => by
    have h' : evRegion P ops draw E A dm st = some r := h
    unfold evRegion at h'
    obtain ⟨q, h1, h2⟩ := ob_some h'
    cases h2
    simp only [codeOk, Bool.and_eq_true] at hok
    have hops : ∀ o ∈ ops.toList, operOk P E.n o = true := List.all_eq_true.1 hok.1
    cases draw with
    | false =>
      have h1' : evOps P E ops ops.toList A st = some q := h1
      have hst := st_region (P := P) (cs := cs) (w := w) ha.mode ht
      obtain ⟨m', w', tmps', p1, p2, p3, p4⟩ := ops_sound (n := E.n) hcall haf ops.toList 0 A st q (fun j => by simp) hops h1' m w { fr with todo := .inRegion ops (List.range ops.size) :: k } k cs ha.rel hf ha.tm ha.size ha.mode (by simp [List.range_eq_range'])
      exact ⟨m', w', tmps', fr.defers, k, p1, ha.with p1 p2 p3 (ha.defs.mono p1.sub), rfl, .head hst p4⟩
    | true =>
      have h1' : evDraws P E ops ops.toList.zipIdx A st [] [] = some q := h1
      have hd : drawB ops = true := by simpa using hok.2
      obtain ⟨m', w', tmps', p1, p2, p3, p4⟩ := draws_sound cs (N := E.n) hmix hcall haf hops hd h1' ha.rel hf ha.tm ha.size ha.mode ht
      exact ⟨m', w', tmps', fr.defers, k, p1, ha.with p1 p2 p3 (ha.defs.mono p1.sub), rfl, p4⟩
end Go.Ev

namespace Go.Ev
set_option linter.unusedSectionVars false
variable [OTab] [OVal]
variable {P : Program}

/-! ## a function's run -/
theorem enter_tm {m : Map} {args cargs : List Value} {n : Nat} (h : concL m args = some cargs) (hn : args.length ≤ n) :
    TmRel m (fillT args 0 .lf) ((⟨cargs⟩ : Array Value) ++ Array.replicate (n - cargs.length) undef) ∧ ((⟨cargs⟩ : Array Value) ++ Array.replicate (n - cargs.length) undef).size = n := by
  have hl := concL_len h
  refine ⟨fun t => ?_, by simp; omega⟩
  unfold tg
  rw [fillT_get]
  by_cases ht : 0 ≤ t ∧ t < 0 + args.length
  · rw [if_pos ht]
    have ht' : t < args.length := by omega
    obtain ⟨cv, h1, h2⟩ := concL_get h t args[t] (List.getElem?_eq_getElem ht')
    rw [Nat.sub_zero, List.getElem?_eq_getElem ht']
    show conc m args[t] = _
    rw [h1]
    congr 1
    rw [Array.getD_eq_getD_getElem?, Array.getElem?_append_left (by simp; omega)]
    simp [h2]
  · rw [if_neg ht]
    show conc m undef = _
    rw [conc_undef]
    congr 1
    rw [Array.getD_eq_getD_getElem?, Array.getElem?_append_right (by simp; omega), Array.getElem?_replicate]
    split <;> rfl

theorem marks_sound : ∀ (l : List Nat) (st st' : St), dropMarks l st = some st' → ∀ (m : Map) (w : World) (fr : Frame) (cs : List Frame), Rel P m st w → DefRel m l fr.defers → fr.mode = .returning →
    ∃ w', Step P m st w m st' w' ∧ Steps P (lone fr cs w) (lone { fr with defers := [] } cs w')
  | [], st, st', h, m, w, fr, cs, hr, hd, hm => by
    cases h
    have : fr.defers = [] := by
      cases hf : fr.defers with
      | nil => rfl
      | cons d ds => rw [hf] at hd; exact hd.elim
    refine ⟨w, Step.refl hr, ?_⟩
    have e : ({ fr with defers := [] } : Frame) = fr := by rw [← this]
    rw [e]
    exact .refl _ _
  | r :: rs, st, st', h, m, w, fr, cs, hr, hd, hm => by
    unfold dropMarks at h
    obtain ⟨b, hb, h1⟩ := ob_some h
    split at h1
    · cases hf : fr.defers with
      | nil => rw [hf] at hd; exact hd.elim
      | cons d ds =>
        rw [hf] at hd
        obtain ⟨⟨x, hx, rfl⟩, hd2⟩ := hd
        obtain ⟨x0, hw⟩ := rel_defd hr hx hb
        have hrun := run_takeDeferred (P := P) hw
        have hlt := hr.inb r x hx
        have s1 : Step P m st w m (st.kill r) (w.putObj x.blk (.deferred none)) := set_step (vo := none) hr hx hb rfl (fun B hB => World.putObj_heap_other hB) (by simp) rfl rfl rfl (fun k e => by cases e)
        obtain ⟨w', s2, t2⟩ := marks_sound rs (st.kill r) st' h1 m _ { fr with defers := ds } cs s1.rel hd2 hm
        exact ⟨w', s1.trans s2, .head (st_collected hm hf hrun) t2⟩
    · cases h1

theorem res_sound {m : Map} {st : St} {w : World} {A : T Value} {tmps : Array Value} (hr : Rel P m st w) (ht : TmRel m A tmps) : ∀ (rs : List ResultVar) (l : List Value), resAll P A st rs = some l →
    ∃ l', concL m l = some l' ∧ (rs.mapM (fun | .tmp t => pure (tmps.getD t undef) | .cell a t => do loadVar t (← asAddr (tmps.getD a undef)) : ResultVar → Sem Value)).run P w = .ok l' w
  | [], l, h => by
    cases h
    exact ⟨[], by simp, by simp⟩
  | r :: rs, l, h => by
    unfold resAll at h
    obtain ⟨v, hv, h1⟩ := ob_some h
    obtain ⟨l1, hl1, h2⟩ := ob_some h1
    cases h2
    obtain ⟨l', g1, g2⟩ := res_sound hr ht rs l1 hl1
    have hone : ∃ cv, conc m v = some cv ∧ ((fun | .tmp t => pure (tmps.getD t undef) | .cell a t => do loadVar t (← asAddr (tmps.getD a undef)) : ResultVar → Sem Value) r).run P w = .ok cv w := by
      unfold resOne at hv
      split at hv
      · cases hv
        exact ⟨_, ht _, by simp⟩
      · rename_i a t
        obtain ⟨ad, ha, hv⟩ := ob_some hv
        have e := asP_some ha
        have hc := ht a
        rw [e] at hc
        obtain ⟨cv, q1, b, q2, q3⟩ := loadV_sound (P := P) hr hc hv
        exact ⟨cv, q1, by simp only [q2, asAddr, Sem.run_bind]; simp [q3]⟩
    obtain ⟨cv, q1, q2⟩ := hone
    refine ⟨cv :: l', concL_cons' q1 g1, ?_⟩
    simp only [List.mapM_cons, Sem.run_bind, q2, Result.andThen_ok, g2, Sem.run_pure]

theorem run_results {fn : Func} {tmps : Array Value} {w : World} {l : List Value} (h : (fn.results.toList.mapM (fun | .tmp t => pure (tmps.getD t undef) | .cell a t => do loadVar t (← asAddr (tmps.getD a undef)) : ResultVar → Sem Value)).run P w = .ok l w) :
    (results fn tmps).run P w = .ok (oneOrTuple l) w := by
  have e : results fn tmps = (do let vs ← fn.results.mapM (fun | .tmp t => pure (tmps.getD t undef) | .cell a t => do loadVar t (← asAddr (tmps.getD a undef)) : ResultVar → Sem Value); pure (if h : vs.size = 1 then vs[0] else .tuple vs)) := rfl
  rw [e, show fn.results = ⟨fn.results.toList⟩ from rfl]
  simp only [List.mapM_toArray, Sem.run_bind, Sem.run_map, h, Result.andThen_ok, Sem.run_pure]
  match l with
  | [] => rfl
  | [v] => rfl
  | _ :: _ :: _ => rfl

theorem oneOrTuple_conc {m : Map} : ∀ {l l' : List Value}, concL m l = some l' → conc m (oneOrTuple l) = some (oneOrTuple l')
  | [], _, h => by simp at h; subst h; exact conc_tuple' (concL_nil m)
  | [v], _, h => by
    obtain ⟨c, r, h1, h2, rfl⟩ := concL_cons h
    simp at h2; subst h2; exact h1
  | v :: u :: l, _, h => by
    obtain ⟨c, r, h1, h2, rfl⟩ := concL_cons h
    obtain ⟨c2, r2, h3, h4, rfl⟩ := concL_cons h2
    exact conc_tuple' h

/-- a function comes to its end -/
theorem fn_sound (cs : List Frame) {call : CallF} (hmix : P.follows .mixedOrders = true) (hcall : CallOk P call) (haf : CallAF call) {f : FuncId} {args : List Value} {st st' : St} {v : Value} (h : callFn P call f args st = some (v, st')) {m : Map} {w : World} {cargs : List Value} (hr : Rel P m st w) (hf : Free m st.nxt st'.nxt) (ha : concL m args = some cargs) :
    ∃ m' w' cv, Step P m st w m' st' w' ∧ conc m' v = some cv ∧ (∃ fn c, P.funcs[f]? = some fn ∧ fn.body = some c ∧ (fn.name == "runtime.NumGoroutine") = false) ∧
      ∃ fr, Steps P (lone (Frame.enter P f ⟨cargs⟩ .normal) cs w) (lone fr cs w') ∧ fr.fn = f ∧ fr.leaving P w' (.returned cv) := by
  unfold callFn at h
  obtain ⟨fn, hfn, h1⟩ := ob_some h
  obtain ⟨c, hc, h2⟩ := ob_some h1
  obtain ⟨hok, h3⟩ := gd_some h2
  obtain ⟨hn, h4⟩ := gd_some h3
  obtain ⟨r, h5, h6⟩ := ob_some h4
  clear h h1 h2 h3 h4
  unfold fnOk at hok
  simp only [Bool.and_eq_true, Bool.not_eq_true'] at hok
  obtain ⟨⟨hcode, hname⟩, _⟩ := hok
  have hn' := Nat.le_of_ble_eq_true hn
  obtain ⟨t1, t2⟩ := enter_tm (n := fn.ntmps) ha hn'
  let E : Env := ⟨call, f, fn.ntmps, none⟩
  have h7 : r.ex = .normal ∨ r.ex = .ret := by
    unfold retK at h6
    cases hx : r.ex with
    | normal => exact .inl rfl
    | ret => exact .inr rfl
    | exit id => rw [hx] at h6; cases h6
  have h8 : ob (dropMarks r.dm r.st) (fun st => ob (resAll P r.A st fn.results.toList) fun l => some (oneOrTuple l, st)) = some (v, st') := by
    unfold retK at h6
    rcases h7 with hx | hx <;> rw [hx] at h6 <;> exact h6
  obtain ⟨st2, hd, h9⟩ := ob_some h8
  obtain ⟨l, hl, h10⟩ := ob_some h9
  cases h10
  have afd := dropMarks_af _ _ _ hd
  have henter : Frame.enter P f ⟨cargs⟩ .normal = { fn := f, tmps := (⟨cargs⟩ : Array Value) ++ Array.replicate (fn.ntmps - cargs.length) undef, todo := [.code c], defers := [], mode := .run, kind := .normal } := by
    simp [Frame.enter, hfn, hc]
  have hat : At P E m st w (fillT args 0 .lf) [] { fn := f, tmps := (⟨cargs⟩ : Array Value) ++ Array.replicate (fn.ntmps - cargs.length) undef, todo := [.code c], defers := [], mode := .run, kind := .normal } :=
    ⟨hr, t1, t2, trivial, rfl, rfl, rfl⟩
  obtain ⟨m1, w1, tmps1, D1, todo1, s1, a1, e1, q1⟩ := code_sound (E := E) hmix hcall haf c hcode _ _ _ _ h5 m w _ [] cs hat (hf.sub (Nat.le_refl _) afd.nxt) rfl
  have htodo : todo1 = [] ∨ ∃ k, todo1 = .code .ret :: k := by
    rcases h7 with hx | hx <;> rw [hx] at e1
    · exact .inl e1
    · exact .inr e1
  obtain ⟨w2, s2, q2⟩ := marks_sound (P := P) r.dm r.st st' hd m1 w1 { fn := f, tmps := tmps1, todo := todo1, defers := D1, mode := .returning, kind := .normal } cs s1.rel a1.defs rfl
  obtain ⟨l', g1, g2⟩ := res_sound (P := P) s2.rel a1.tm fn.results.toList l hl
  refine ⟨m1, w2, oneOrTuple l', s1.trans s2, oneOrTuple_conc g1, ⟨fn, c, hfn, hc, hname⟩, ⟨{ fn := f, tmps := tmps1, todo := todo1, defers := [], mode := .returning, kind := .normal }, ?_, rfl, rfl, rfl, rfl, fn, hfn, run_results g2⟩⟩
  rw [henter]
  exact q1.trans (.head (st_leave rfl rfl htodo) q2)

/-! ## a round of a loop -/
theorem params_tm {m : Map} {n : Nat} : ∀ (ps : List Tmp) (vs cvs : List Value) (A : T Value) (tmps : Array Value), concL m vs = some cvs → TmRel m A tmps → tmps.size = n → ps.all (fun t => decide (t < n)) = true →
    TmRel m (setParams ps vs A) ((ps.zip cvs).foldl (fun tmps p => tmps.setIfInBounds p.1 p.2) tmps) ∧ ((ps.zip cvs).foldl (fun tmps p => tmps.setIfInBounds p.1 p.2) tmps).size = n
  | [], vs, cvs, A, tmps, _, ht, hs, _ => by
    simp only [List.zip_nil_left, List.foldl_nil]
    cases vs <;> exact ⟨ht, hs⟩
  | p :: ps, [], cvs, A, tmps, hc, ht, hs, _ => by
    simp at hc
    subst hc
    simp only [List.zip_nil_right, List.foldl_nil]
    exact ⟨ht, hs⟩
  | p :: ps, v :: vs, cvs, A, tmps, hc, ht, hs, hp => by
    obtain ⟨cv, r, h1, h2, rfl⟩ := concL_cons hc
    simp only [List.all_cons, Bool.and_eq_true, decide_eq_true_eq] at hp
    simp only [List.zip_cons_cons, List.foldl_cons]
    have h3 := TmRel.put ht hs (dst := some p) (fun d e => by cases e; exact hp.1) h1
    exact params_tm ps vs r _ _ h2 h3 (by simp [hs]) hp.2

theorem yield_sound (fr0 : Frame) (cs : List Frame) {call : CallF} (hmix : P.follows .mixedOrders = true) (hcall : CallOk P call) (haf : CallAF call) {l : Nat} {args : List Value} {st st' : St} {v : Value} (h : yieldFn P call l args st = some (v, st')) {m : Map} {w : World} {cargs : List Value} {x : M} (hr : Rel P m st w) (hf : Free m st.nxt st'.nxt) (hl : m l = some x) (ha : concL m args = some cargs) :
    ∃ m' w' cv, Step P m st w m' st' w' ∧ conc m' v = some cv ∧ ∃ f tmps a b, (Instr.yield x.blk ⟨cargs⟩).run P w = .ok (.round x.blk f tmps a b) w ∧
      Steps P (lone (Frame.round x.blk f tmps a b .normal) (fr0 :: cs) w) (lone (fr0.finish cv) cs w') := by
  unfold yieldFn at h
  obtain ⟨bk, hb, h1⟩ := ob_some h
  split at h1
  · rename_i o
    obtain ⟨hlen, h2⟩ := gd_some h1
    obtain ⟨hok, h3⟩ := gd_some h2
    obtain ⟨r, h4, h5⟩ := ob_some h3
    clear h h1 h2 h3
    have hlen' : args.length = o.params.length := Nat.eq_of_beq_eq_true hlen
    unfold loopOk at hok
    simp only [Bool.and_eq_true] at hok
    obtain ⟨⟨hoa, hob⟩, hop⟩ := hok
    obtain ⟨x0, c, hc, hL⟩ := rel_loop hr hl hb
    have hcl := concL_len ha
    have hyield := run_yield (P := P) (args := ⟨cargs⟩) hc (by rw [hL.params]; show cargs.length = o.params.length; omega)
    unfold roundBody at h5
    split at h5
    · rename_i hex
      obtain ⟨b2, hb2, h6⟩ := ob_some h5
      split at h6
      · rename_i o'
        split at h6
        · rename_i hready
          obtain ⟨r2, h7, h8⟩ := ob_some h6
          clear h5 h6
          let E : Env := ⟨call, o.fn, o.ntm, some l⟩
          have af2 : AF (r.st.setB l (.loop { o' with state := .busy })) r2.st := evCode_af _ _ _ _ _ _ haf h7
          -- behind the body
          have h9 : r2.dm = [] := by
            unfold roundK at h8
            cases hdm : r2.dm with
            | nil => rfl
            | cons a b => rw [hdm] at h8; cases h8
          unfold roundK at h8
          rw [h9] at h8
          simp only at h8
          obtain ⟨b3, hb3, h10⟩ := ob_some h8
          split at h10
          · rename_i o3
            have hst' : ∃ o4 : ALoop, st' = r2.st.setB l (.loop o4) := by
              split at h10 <;> cases h10 <;> exact ⟨_, rfl⟩
            have hnx : st'.nxt = r2.st.nxt := by obtain ⟨o4, e⟩ := hst'; rw [e]; rfl
            -- the temporaries of the round
            obtain ⟨t1, t2⟩ := params_tm (n := o.ntm) o.params args cargs o.tm c.tmps ha hL.tmps hL.ntm hop
            have hfold : (c.params.zip (⟨cargs⟩ : Array Value)).foldl (fun tmps (t, a) => tmps.setIfInBounds t a) c.tmps = (o.params.zip cargs).foldl (fun tmps p => tmps.setIfInBounds p.1 p.2) c.tmps := by
              rw [hL.params]
              rw [← Array.foldl_toList]
              simp
            rw [hfold] at hyield
            generalize htm : (o.params.zip cargs).foldl (fun tmps p => tmps.setIfInBounds p.1 p.2) c.tmps = tmps0 at hyield t1 t2
            let fr : Frame := Frame.round x.blk c.fn tmps0 c.assign c.body .normal
            have hat : At P E m st w (setParams o.params args o.tm) [] fr := ⟨hr, t1, t2, trivial, ⟨x, hl, x0, rfl⟩, hL.fn, rfl⟩
            obtain ⟨m1, w1, tmps1, D1, todo1, s1, a1, e1, q1⟩ := code_sound (E := E) hmix hcall haf o.assign hoa _ _ _ _ h4 m w fr [.beginRound, .code c.body] (fr0 :: cs) hat (hf.sub (Nat.le_refl _) (by rw [hnx]; exact af2.nxt)) (by show [Item.code c.assign, _, _] = _; rw [hL.assign])
            rw [hex] at e1
            have e1' : todo1 = [.beginRound, .code c.body] := e1
            subst e1'
            -- it begins
            obtain ⟨_, c1, hc1, hL1⟩ := rel_loop s1.rel (s1.sub _ _ hl) hb2
            have hbr := run_beginRound (P := P) hc1 (by rw [hL1.state]; exact hready)
            have s2 := set_obj (k := .loop { o' with state := .busy }) (obj := .loop { c1 with state := .busy }) s1.rel (s1.sub _ _ hl) hb2 rfl hc1 (fun w' hw => ⟨x0, _, hw, ⟨rfl, hL1.pending, hL1.fn, hL1.tmps, hL1.ntm, hL1.params, hL1.assign, hL1.body, hL1.defers⟩⟩)
            have st2 := st_beginRound (P := P) (cs := fr0 :: cs) (fr := { fr with tmps := tmps1, defers := D1, todo := [.beginRound, .code c.body] }) (k := [.code c.body]) (l := x.blk) rfl rfl rfl hbr
            have s12 := s1.trans s2
            have hat2 : At P E m1 (r.st.setB l (.loop { o' with state := .busy })) (w1.putObj x.blk (.loop { c1 with state := .busy })) r.A r.dm { fr with tmps := tmps1, defers := D1, todo := [.code c.body] } :=
              ⟨s2.rel, a1.tm, a1.size, a1.defs, a1.rnd, a1.fn, a1.mode⟩
            obtain ⟨m3, w3, tmps3, D3, todo3, s3, a3, e3, q3⟩ := code_sound (E := E) hmix hcall haf o.body hob _ _ _ _ h7 m1 _ _ [] (fr0 :: cs) hat2 ((s12.free hf).sub (Nat.le_refl _) (by rw [hnx]; exact Nat.le_refl _)) (by show [Item.code c.body] = _; rw [hL.body])
            have s123 := s12.trans s3
            obtain ⟨_, c3, hc3, hL3⟩ := rel_loop s3.rel (s123.sub _ _ hl) hb3
            have steps0 : Steps P (lone fr (fr0 :: cs) w) (lone { fr with tmps := tmps3, defers := D3, todo := todo3 } (fr0 :: cs) w3) := q1.trans (.head st2 q3)
            have fin : ∀ (jump : Option Code) (v' : Value), v' = .bool jump.isNone → st' = r2.st.setB l (.loop { o3 with state := if jump.isNone then .ready else .done, pending := jump }) →
                (∀ (w' : World), (Instr.endRound x.blk jump).run P w3 = .ok v' w' → step P (lone { fr with tmps := tmps3, defers := D3, todo := todo3 } (fr0 :: cs) w3) = .next (lone (fr0.finish v') cs w')) →
                ∃ m' w' cv, Step P m st w m' st' w' ∧ conc m' v' = some cv ∧ ∃ f tmps a b, (Instr.yield x.blk ⟨cargs⟩).run P w = .ok (.round x.blk f tmps a b) w ∧
                  Steps P (lone (Frame.round x.blk f tmps a b .normal) (fr0 :: cs) w) (lone (fr0.finish cv) cs w') := by
              intro jump v' hv' hs' hst
              have her := run_endRound (P := P) jump hc3
              have s4 := set_obj (k := .loop { o3 with state := if jump.isNone then .ready else .done, pending := jump }) (obj := .loop { c3 with state := if jump.isNone then .ready else .done, pending := jump }) s3.rel (s123.sub _ _ hl) hb3 rfl hc3
                (fun w' hw => ⟨x0, _, hw, ⟨rfl, rfl, hL3.fn, hL3.tmps, hL3.ntm, hL3.params, hL3.assign, hL3.body, hL3.defers⟩⟩)
              subst hv'
              rw [hs']
              exact ⟨m3, _, _, s123.trans s4, conc_bool m3 _, c.fn, tmps0, c.assign, c.body, hyield, steps0.trans (.one (hst _ her))⟩
            split at h10
            · rename_i hx3
              cases h10
              rw [hx3] at e3
              have e3' : todo3 = [] := e3
              exact fin none _ rfl rfl (fun w' hrun => st_roundEnd rfl rfl rfl e3' hrun)
            · rename_i hx3
              cases h10
              rw [hx3] at e3
              obtain ⟨k', e3'⟩ := e3
              exact fin (some .ret) _ rfl rfl (fun w' hrun => st_roundRet rfl rfl rfl e3' hrun)
            · rename_i id hx3
              cases h10
              rw [hx3] at e3
              obtain ⟨k', e3', e4⟩ := e3
              exact fin (some (.exit id)) _ rfl rfl (fun w' hrun => st_roundExit rfl rfl rfl e3' (by rw [e4]; rfl) hrun)
          · cases h10
        · cases h6
      · cases h6
    · cases h5
  · cases h1

/-! ## calls whose answer is known -/
open Go.RowKit in
theorem below_step {m : Map} {st : St} {w w' : World} (h : Rel P m st w) (hb : Below w.heap.size w w') : Step P m st w m st w' where
  sub := Sub.refl m
  rel := ⟨h.glob, fun b x hx => Nat.lt_of_lt_of_le (h.inb b x hx) hb.size, fun b x k hx hk => (h.blks b x k hx hk).heap (hb.block _ (h.inb b x hx)), h.dist, h.wf, ⟨fun B hB => ⟨Nat.lt_of_lt_of_le (h.kept.same B hB).1 hb.size, (hb.block _ (h.kept.same B hB).1).trans (h.kept.same B hB).2⟩, h.kept.off⟩⟩
  os := hb.os
  tape := hb.tape
  output := hb.output
  size := hb.size
  nxt := Nat.le_refl _
  low := Nat.le_refl _
  newm := fun _ _ h => .inl h
  chk := fun _ _ _ _ hc => ⟨hc.1, Nat.le_trans hc.2.1 hb.size, fun B hB => (hb.block B (Nat.lt_of_lt_of_le hB hc.2.1)).trans (hc.2.2 B hB)⟩

/-- the table lies in that world -/
def Tab.In (t : Tab) (w : World) : Prop :=
  ∃ (arr : Array Value) (e : TypeId) (lo hi : Nat), w.heap[t.g]? = some (.cells arr e (lo, hi)) ∧ t.vals.length ≤ arr.size ∧ (∀ i, i < arr.size → ¬ (lo ≤ i ∧ i < hi)) ∧ ∀ i, i < t.vals.length → arr[i]? = t.vals[i]?

def CRule.Holds (P : Program) (val : Nat → Value) (r : CRule) : Prop :=
  ∀ w : World, P.globals.size ≤ w.heap.size → (∀ t ∈ r.need, t.In w) →
    (∃ fn c, P.funcs[r.f]? = some fn ∧ fn.body = some c ∧ (fn.name == "runtime.NumGoroutine") = false) ∧
    ∀ cs, ∃ w', Go.RowKit.Below w.heap.size w w' ∧ ∃ fr, Steps P (lone (Frame.enter P r.f ⟨r.args.map (con val)⟩ .normal) cs w) (lone fr cs w') ∧ fr.fn = r.f ∧ fr.leaving P w' (.returned (con val r.z))

theorem takeT_at {c : T Value} : ∀ (n i : Nat) (l : List Value), takeT c n i = some l → ∀ j, j < n → c.get (i + j) = l[j]?
  | 0, _, _, _, j, hj => by omega
  | n + 1, i, l, h, j, hj => by
    have h' : ob (c.get i) (fun v => ob (takeT c n (Nat.succ i)) fun l => some (v :: l)) = some l := h
    obtain ⟨v, hv, h1⟩ := ob_some h'
    obtain ⟨l1, hl1, h2⟩ := ob_some h1
    cases h2
    cases j with
    | zero => simpa using hv
    | succ j =>
      have := takeT_at n (i + 1) l1 hl1 j (by omega)
      rw [show i + (j + 1) = i + 1 + j by omega, this]
      simp

theorem hasTab_in {m : Map} {st : St} {w : World} {t : Tab} (hr : Rel P m st w) (hg : t.g < P.globals.size) (h : hasTab st t = true) : t.In w := by
  unfold hasTab at h
  split at h
  · rename_i n c hk
    split at h
    · rename_i l hl
      simp only [Bool.and_eq_true] at h
      have hn := Nat.le_of_ble_eq_true h.1.1
      obtain ⟨rfl, _⟩ := sEqL_eq h.1.2
      obtain ⟨lim, hm⟩ := hr.glob t.g hg
      obtain ⟨arr, e, lo, hi, q1, q2, q3, q4, q5, _⟩ := hr.blks t.g _ _ hm hk
      refine ⟨arr, e, lo, hi, q1, ?_, q4 h.2, fun i hi' => ?_⟩
      · have q2' : 0 + lim ≤ arr.size := q2
        have q3' : n ≤ lim := q3
        omega
      · obtain ⟨v, cv, r1, r2, r3⟩ := q5 i (by omega)
        have := takeT_at _ 0 _ hl i hi'
        rw [Nat.zero_add, r1] at this
        have r3' : arr[0 + i]? = some cv := r3
        rw [Nat.zero_add] at r3'
        rw [r3', ← this]
        have hv : ∃ z, v = .int t.k z := by
          have hi2 : t.vals[i]? = some v := this.symm
          simp only [Tab.vals, List.getElem?_map, Option.map_eq_some_iff] at hi2
          obtain ⟨z, _, e⟩ := hi2
          exact ⟨z, e.symm⟩
        obtain ⟨z, rfl⟩ := hv
        rw [conc_int] at r2
        rw [← r2]
    · cases h
  · cases h

theorem findC_some {f : Nat} {args : List Value} {st : St} {z : Value} : ∀ {l : List CRule}, findC P f args st l = some z →
    ∃ r ∈ l, r.f = f ∧ r.args = args ∧ (∀ t ∈ r.need, t.g < P.globals.size ∧ hasTab st t = true) ∧ r.z = z ∧ plainS z = true ∧ ∀ v ∈ args, plainS v = true
  | [], h => by cases h
  | r :: rs, h => by
    unfold findC at h
    cases hb : (Nat.beq r.f f && sEqL r.args args && r.need.all (fun t => Nat.blt t.g P.globals.size && hasTab st t) && plainS r.z) with
    | false =>
      rw [hb, bsel_false] at h
      obtain ⟨r', hr, q⟩ := findC_some h
      exact ⟨r', by simp [hr], q⟩
    | true =>
      rw [hb, bsel_true] at h
      cases h
      simp only [Bool.and_eq_true, List.all_eq_true] at hb
      obtain ⟨⟨⟨h1, h2⟩, h3⟩, h4⟩ := hb
      obtain ⟨e2, p2⟩ := sEqL_eq h2
      exact ⟨r, by simp, Nat.eq_of_beq_eq_true h1, e2, fun t ht => ⟨Nat.le_of_ble_eq_true (h3 t ht).1, (h3 t ht).2⟩, rfl, h4, p2⟩

/-- the rules for calls: those of the list, and those of the pure functions -/
def Known (r : CRule) : Prop := r ∈ OTab.calls ∨ (OTab.gen r.f r.args = some r.z ∧ r.need = [])
/-- what is asked of a function whose contract is known -/
def NatDoes (P : Program) (f : FuncId) (st st' : St) (v : Value) (m : Map) (w : World) (cargs : List Value) : Prop :=
  (∃ fn c, P.funcs[f]? = some fn ∧ fn.body = some c ∧ (fn.name == "runtime.NumGoroutine") = false) ∧
    ∀ cs, ∃ m' w' cv, Step P m st w m' st' w' ∧ conc m' v = some cv ∧ ∃ fr, Steps P (lone (Frame.enter P f ⟨cargs⟩ .normal) cs w) (lone fr cs w') ∧ fr.fn = f ∧ fr.leaving P w' (.returned cv)
def NatOk (P : Program) : Prop := ∀ f args st r st' v, OTab.nat f args st = some r → pushes r st = some (v, st') → ∀ (m : Map) (w : World) (cargs : List Value), Rel P m st w → Free m st.nxt st'.nxt → concL m args = some cargs → NatDoes P f st st' v m w cargs
def CallsOk (P : Program) : Prop := (∀ r : CRule, Known r → CRule.Holds P OVal.val r) ∧ NatOk P
theorem known_some {f : Nat} {args : List Value} {st : St} {z : Value} (h : known P f args st = some z) :
    ∃ r, Known r ∧ r.f = f ∧ r.args = args ∧ (∀ t ∈ r.need, t.g < P.globals.size ∧ hasTab st t = true) ∧ r.z = z ∧ plainS z = true ∧ ∀ v ∈ args, plainS v = true := by
  unfold known at h
  cases hg : OTab.gen f args with
  | none =>
    rw [hg] at h
    obtain ⟨r, hr, q⟩ := findC_some h
    exact ⟨r, .inl hr, q⟩
  | some y =>
    rw [hg] at h
    have h' : bsel (args.all plainS && plainS y) none (some y) = some z := h
    cases hb : (args.all plainS && plainS y) with
    | false => rw [hb] at h'; cases h'
    | true =>
      rw [hb] at h'
      cases h'
      rw [Bool.and_eq_true] at hb
      exact ⟨⟨f, args, [], z⟩, .inr ⟨hg, rfl⟩, rfl, rfl, (fun t ht => by cases ht), rfl, hb.2, fun v hv => List.all_eq_true.1 hb.1 v hv⟩
theorem concL_scal (m : Map) : ∀ (l : List Value), (∀ v ∈ l, plainS v = true) → concL m l = some (l.map (con OVal.val))
  | [], _ => by simp
  | v :: l, h => concL_cons' (conc_plain m (h v (by simp))) (concL_scal m l fun u hu => h u (by simp [hu]))

/-! ## every call -/
theorem callO_ok (fr0 : Frame) (cs : List Frame) {call : CallF} (hmix : P.follows .mixedOrders = true) (hC : CallsOk P) (hcall : CallOk P call) (haf : CallAF call) {f : FuncId} {args : List Value} {st st' : St} {v : Value} (h' : callO P call f args st = some (v, st')) {m : Map} {w : World} {cargs : List Value} (hr : Rel P m st w) (hf : Free m st.nxt st'.nxt) (hca : concL m args = some cargs) :
    ∃ m' w' cv, Step P m st w m' st' w' ∧ conc m' v = some cv ∧ (∀ w1, (callFunc f ⟨cargs⟩).run P w1 = .ok (.enter f ⟨cargs⟩) w1) ∧ Steps P (lone (Frame.enter P f ⟨cargs⟩ .normal) (fr0 :: cs) w) (lone (fr0.finish cv) cs w') := by
  unfold callO at h'
  split at h'
  · rename_i z hz
    cases h'
    obtain ⟨r, hr', rfl, ea, hneed, rfl, pz, pa⟩ := known_some hz
    have hcc' := concL_scal m _ pa
    have eqa : cargs = r.args.map (con OVal.val) := by
      rw [ea]
      exact Option.some.inj (hca.symm.trans hcc')
    have hsz : P.globals.size ≤ w.heap.size := by
      cases hg : P.globals.size with
      | zero => omega
      | succ g =>
        obtain ⟨l, hl⟩ := hr.glob g (by omega)
        have : g < w.heap.size := hr.inb g _ hl
        omega
    obtain ⟨⟨fn, c, q1, q2, q3⟩, q4⟩ := hC.1 r hr' w hsz (fun t ht => hasTab_in hr (hneed t ht).1 (hneed t ht).2)
    obtain ⟨w', hb, fr, p1, p2, p3⟩ := q4 (fr0 :: cs)
    refine ⟨m, w', con OVal.val r.z, below_step hr hb, conc_plain m pz, fun w1 => MuLone.run_callFunc_enter q1 q3 q2 ⟨cargs⟩ w1, ?_⟩
    rw [eqa]
    exact p1.trans (.one (step_leave_returned p3))
  · have key : NatDoes P f st st' v m w cargs := by
      split at h'
      · rename_i r hn
        exact hC.2 f args st r st' v hn h' m w cargs hr hf hca
      · obtain ⟨_, _, _, _, _, q, _⟩ := fn_sound (fr0 :: cs) hmix hcall haf h' hr hf hca
        refine ⟨q, fun cs' => ?_⟩
        obtain ⟨m', w', cv, s, hv, _, q'⟩ := fn_sound cs' hmix hcall haf h' hr hf hca
        exact ⟨m', w', cv, s, hv, q'⟩
    obtain ⟨⟨fn, c, q1, q2, q3⟩, q4⟩ := key
    obtain ⟨m', w', cv, s, hv, fr, p1, p2, p3⟩ := q4 (fr0 :: cs)
    refine ⟨m', w', cv, s, hv, fun w1 => MuLone.run_callFunc_enter q1 q3 q2 ⟨cargs⟩ w1, ?_⟩
    exact p1.trans (.one (step_leave_returned p3))
theorem callN_ok (hmix : P.follows .mixedOrders = true) (hC : CallsOk P) : ∀ n, CallOk P (callN P n)
  | 0 => fun f args st v st' h => by cases h
  | n + 1 => fun f args st v st' h m w cf cargs fr0 cs hr hf hcf hca => by
    have h' : callV P (callN P n) f args st = some (v, st') := h
    unfold callV at h'
    split at h'
    · rename_i f first cap
      obtain ⟨first⟩ := first
      obtain ⟨cap⟩ := cap
      simp only [conc] at hcf
      split at hcf
      · rename_i cfirst ccap g1 g2
        cases hcf
        obtain ⟨m', w', cv, s, hv, q1, q2⟩ := callO_ok fr0 cs hmix hC (callN_ok hmix hC n) (callN_af n) h' hr hf (concL_append (concL_append g1 hca) g2)
        refine ⟨m', w', cv, s, hv, .enter f ⟨cfirst ++ cargs ++ ccap⟩, _, ?_, .inl ⟨_, _, rfl, rfl⟩, q2⟩
        simpa [Deferred.ofValue, invoke] using q1 w
      · cases hcf
    · rename_i l first cap
      obtain ⟨first⟩ := first
      obtain ⟨cap⟩ := cap
      match first, cap, hcf with
      | [], [], hcf =>
        simp only [conc, Option.map_eq_some_iff] at hcf
        obtain ⟨x, hx, rfl⟩ := hcf
        obtain ⟨m', w', cv, s, hv, f, tmps, a, b, q1, q2⟩ := yield_sound fr0 cs hmix (callN_ok hmix hC n) (callN_af n) h' hr hf hx (by simpa using hca)
        refine ⟨m', w', cv, s, hv, _, _, ?_, .inr ⟨_, _, _, _, _, rfl, rfl⟩, q2⟩
        simpa [Deferred.ofValue, invoke] using q1
      | [], _ :: _, hcf => simp [conc] at hcf
      | _ :: _, _, hcf => simp [conc] at hcf
    · rename_i nm first cap
      obtain ⟨first⟩ := first
      obtain ⟨cap⟩ := cap
      simp only [conc] at hcf
      split at hcf
      · rename_i cfirst ccap g1 g2
        cases hcf
        have hcc := concL_append g1 hca
        unfold methV at h'
        split at h'
        · rename_i t z rest e
          obtain ⟨g, hg, h2⟩ := ob_some h'
          simp only at e
          rw [e] at hcc
          obtain ⟨c0, cr, k1, k2, k3⟩ := concL_cons hcc
          simp only [conc, Option.map_eq_some_iff] at k1
          obtain ⟨z', hz', rfl⟩ := k1
          obtain ⟨m', w', cv, s, hv, q1, q2⟩ := callO_ok fr0 cs hmix hC (callN_ok hmix hC n) (callN_af n) h2 hr hf (concL_cons' hz' k2)
          refine ⟨m', w', cv, s, hv, .enter g ⟨z' :: cr⟩, _, ?_, .inl ⟨_, _, rfl, rfl⟩, q2⟩
          have ea : (⟨cfirst⟩ : Array Value) ++ ⟨cargs⟩ = ⟨.iface t z' :: cr⟩ := by
            apply Array.ext'
            simpa using k3
          have ex : (⟨.iface t z' :: cr⟩ : Array Value).extract 1 (cr.length + 1) = ⟨cr⟩ := by
            apply Array.ext'
            simp
          have hm := method_of hg (w := w) z'
          have hq := q1 w
          simp [Deferred.ofValue, invoke, ea, callMethod, ex, hm, hq]
        · cases h'
      · cases hcf
    · cases h'

/-- THE EVALUATOR IS RIGHT: what it answers is what the function answers, whatever is drawn; nothing that was there turns -/
theorem run_sound (cs : List Frame) (hmix : P.follows .mixedOrders = true) (hC : CallsOk P) {f : FuncId} {args : List Value} {st st' : St} {v : Value} (h : run P f args st = some (v, st')) {m : Map} {w : World} {cargs : List Value} (hr : Rel P m st w) (hf : Free m st.nxt st'.nxt) (ha : concL m args = some cargs) :
    ∃ m' w' cv, Step P m st w m' st' w' ∧ conc m' v = some cv ∧ (∃ fn c, P.funcs[f]? = some fn ∧ fn.body = some c ∧ (fn.name == "runtime.NumGoroutine") = false) ∧ ∃ fr, Steps P (lone (Frame.enter P f ⟨cargs⟩ .normal) cs w) (lone fr cs w') ∧ fr.fn = f ∧ fr.leaving P w' (.returned cv) :=
  fn_sound cs hmix (callN_ok hmix hC 999) (callN_af 999) h hr hf ha
end Go.Ev
