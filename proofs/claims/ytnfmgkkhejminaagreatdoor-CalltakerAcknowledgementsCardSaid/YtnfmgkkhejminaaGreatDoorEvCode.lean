/-
  A part of the proof that the evaluator answers what the model answers, for every program that follows mixed orders; no other condition.
-/
import Derived.Test.YtnfmgkkhejminaaGreatDoorEvDraw2
import Derived.RangeFuncNested
import Derived.Conc.MuLone
namespace Go.Ev
set_option linter.unusedSectionVars false
variable [OTab] [OVal]
variable {P : Program}

/-! ## steps -/
section steps
variable {fr : Frame} {cs : List Frame} {w w' : World} {k : List Item}
theorem st_leave (hm : fr.mode = .run) (hr : fr.roundOf = none) (ht : fr.todo = [] ∨ ∃ k, fr.todo = .code .ret :: k) : step P (lone fr cs w) = .next (lone { fr with mode := .returning } cs w) := by
  obtain ⟨fn, tmps, todo, defers, mode, kind, ro⟩ := fr
  simp only at hm ht hr
  subst hm hr
  rcases ht with ht | ⟨k, ht⟩ <;> subst ht <;> exact step_lone_go (by simp [stepG, stepG.exec])
theorem st_collected {b : Nat} {ds : List Deferred} (hm : fr.mode = .returning) (hd : fr.defers = { target := .collected b, args := #[] } :: ds) (h : (Instr.takeDeferred b).run P w = .ok [] w') :
    step P (lone fr cs w) = .next (lone { fr with defers := ds } cs w') := by
  obtain ⟨fn, tmps, todo, defers, mode, kind, ro⟩ := fr
  simp only at hm hd
  subst hm hd
  exact step_lone_go (by simp [stepG, unwind, Sem.runT_eq, h])
theorem st_beginRound {l : Nat} (hm : fr.mode = .run) (hr : fr.roundOf = some l) (ht : fr.todo = .beginRound :: k) (h : (Instr.beginRound l).run P w = .ok () w') :
    step P (lone fr cs w) = .next (lone { fr with todo := k } cs w') := by
  obtain ⟨fn, tmps, todo, defers, mode, kind, ro⟩ := fr
  simp only at hm ht hr
  subst hm hr ht
  exact step_lone_go (by simp [stepG, stepG.exec, stepG.apply, Sem.runT_eq, h, Result.andThen, Frame.finish])
theorem st_roundEnd {l : Nat} {c : Frame} {v : Value} (hm : fr.mode = .run) (hk : fr.kind = .normal) (hr : fr.roundOf = some l) (ht : fr.todo = []) (h : (Instr.endRound l none).run P w = .ok v w') :
    step P (lone fr (c :: cs) w) = .next (lone (c.finish v) cs w') := by
  obtain ⟨fn, tmps, todo, defers, mode, kind, ro⟩ := fr
  simp only at hm ht hr hk
  subst hm hr ht hk
  exact step_lone_go (by simp [stepG, stepG.exec, Sem.runT_eq, h, doReturn])
theorem st_roundRet {l : Nat} {c : Frame} {v : Value} (hm : fr.mode = .run) (hk : fr.kind = .normal) (hr : fr.roundOf = some l) (ht : fr.todo = .code .ret :: k) (h : (Instr.endRound l (some .ret)).run P w = .ok v w') :
    step P (lone fr (c :: cs) w) = .next (lone (c.finish v) cs w') := by
  obtain ⟨fn, tmps, todo, defers, mode, kind, ro⟩ := fr
  simp only at hm ht hr hk
  subst hm hr ht hk
  exact step_lone_go (by simp [stepG, stepG.exec, Sem.runT_eq, h, doReturn])
theorem st_roundExit {l id : Nat} {c : Frame} {v : Value} (hm : fr.mode = .run) (hk : fr.kind = .normal) (hr : fr.roundOf = some l) (ht : fr.todo = .code (.exit id) :: k) (hx : exitTo id k = none) (h : (Instr.endRound l (some (.exit id))).run P w = .ok v w') :
    step P (lone fr (c :: cs) w) = .next (lone (c.finish v) cs w') := by
  obtain ⟨fn, tmps, todo, defers, mode, kind, ro⟩ := fr
  simp only at hm ht hr hk
  subst hm hr ht hk
  exact step_lone_go (by simp [stepG, stepG.exec, hx, Sem.runT_eq, h, doReturn])
theorem st_endRangeFunc {l : Nat} {jump : Option Code} (hm : fr.mode = .run) (ht : fr.todo = .endRangeFunc l :: k) (h : (Instr.endLoop l).run P w = .ok jump w') :
    step P (lone fr cs w) = .next (lone { fr with todo := (jump.map Item.code).toList ++ k } cs w') := by
  obtain ⟨fn, tmps, todo, defers, mode, kind, ro⟩ := fr
  simp only at hm ht
  subst hm ht
  exact step_lone_go (by simp [stepG, stepG.exec, Sem.runT_eq, h])
theorem st_rangeFunc {f : Operand} {params : Array Tmp} {assign body : Code} {l : Nat} {mark : List Deferred} {nx : Next} {callee : Frame} (hm : fr.mode = .run) (ht : fr.todo = .code (.rangeFunc f params assign body) :: k)
    (h : (Instr.enterLoop fr.fn fr.tmps params assign body fr.roundOf).run P w = .ok (l, mark) w')
    (hi : (do let d ← Deferred.ofValue (fr.eval f) #[.func (.yield l) #[] #[]]; invoke d.target d.args : Sem Next).run P w' = .ok nx w') (he : Enters P nx callee) :
    step P (lone fr cs w) = .next (lone callee ({ fr with todo := .inRangeFunc l :: k, defers := mark ++ fr.defers } :: cs) w') := by
  obtain ⟨fn, tmps, todo, defers, mode, kind, ro⟩ := fr
  simp only at hm ht h
  subst hm ht
  refine step_lone_go ?_
  simp only [stepG, stepG.exec, Sem.runT_eq, h, GStep.bare_after]
  refine enter_apply (fr := { fn := fn, tmps := tmps, todo := .inRangeFunc l :: k, defers := mark ++ defers, mode := .run, kind := kind, roundOf := ro }) (fun d r sv k' => by simp) ?_ he
  simpa [resolve, Frame.eval] using hi
end steps

/-! ## what is kept of a frame -/
def DefRel (m : Map) : List Nat → List Deferred → Prop
  | [], [] => True
  | r :: rs, d :: ds => (∃ x, m r = some x ∧ d = { target := .collected x.blk, args := #[] }) ∧ DefRel m rs ds
  | _, _ => False
theorem DefRel.mono {m m' : Map} (hm : Sub m m') : ∀ {l : List Nat} {d : List Deferred}, DefRel m l d → DefRel m' l d
  | [], [], _ => trivial
  | _ :: _, _ :: _, h => ⟨h.1.imp fun _ e => ⟨hm _ _ e.1, e.2⟩, DefRel.mono hm h.2⟩
  | [], _ :: _, h => h.elim
  | _ :: _, [], h => h.elim
def RndRel (m : Map) : Option Nat → Option Nat → Prop
  | none, r => r = none
  | some l, r => ∃ x, m l = some x ∧ x.sh = 0 ∧ r = some x.blk
theorem RndRel.mono {m m' : Map} (hm : Sub m m') {a b : Option Nat} (h : RndRel m a b) : RndRel m' a b := by
  cases a with
  | none => exact h
  | some l => exact h.imp fun _ e => ⟨hm _ _ e.1, e.2⟩

def Ends : Ex → List Item → List Item → Prop
  | .normal, k, t => t = k
  | .exit id, k, t => ∃ k', t = .code (.exit id) :: k' ∧ exitTo id k' = exitTo id k
  | .ret, _, t => ∃ k', t = .code .ret :: k'

/-- a frame that stands at a code, and the abstract temporaries and memory -/
structure At (P : Program) (E : Env) (m : Map) (st : St) (w : World) (A : T Value) (dm : List Nat) (fr : Frame) : Prop where
  rel : Rel P m st w
  tm : TmRel m A fr.tmps
  size : fr.tmps.size = E.n
  defs : DefRel m dm fr.defers
  rnd : RndRel m E.rnd fr.roundOf
  fn : fr.fn = E.fn
  mode : fr.mode = .run

def Goes (P : Program) (E : Env) (m : Map) (st : St) (w : World) (fr : Frame) (k : List Item) (r : Res) : Prop :=
  ∃ m' w' tmps' D' todo', Step P m st w m' r.st w' ∧ At P E m' r.st w' r.A r.dm { fr with tmps := tmps', defers := D', todo := todo' } ∧ Ends r.ex k todo' ∧
    ∀ cs, Steps P (lone fr cs w) (lone { fr with tmps := tmps', defers := D', todo := todo' } cs w')

def CodeOk (P : Program) (E : Env) (start : Frame → List Item → Prop) (f : CodeF) : Prop :=
  ∀ A dm st r, f E A dm st = some r → ∀ m w fr k, At P E m st w A dm fr → Free m st.nxt r.st.nxt → start fr k → Goes P E m st w fr k r

theorem At.todo {E : Env} {m : Map} {st : St} {w : World} {A : T Value} {dm : List Nat} {fr : Frame} (h : At P E m st w A dm fr) (t : List Item) : At P E m st w A dm { fr with todo := t } :=
  ⟨h.rel, h.tm, h.size, h.defs, h.rnd, h.fn, h.mode⟩

theorem At.with {E : Env} {m : Map} {st : St} {w : World} {A : T Value} {dm : List Nat} {fr : Frame} (h : At P E m st w A dm fr) {m' : Map} {st' : St} {w' : World} (hs : Step P m st w m' st' w') {A' : T Value} {tmps' : Array Value} {dm' : List Nat} {D' : List Deferred} {todo' : List Item} (ht : TmRel m' A' tmps') (hn : tmps'.size = E.n) (hd : DefRel m' dm' D') :
    At P E m' st' w' A' dm' { fr with tmps := tmps', defers := D', todo := todo' } :=
  ⟨hs.rel, ht, hn, hd, h.rnd.mono hs.sub, h.fn, h.mode⟩

/-- one step ahead of the rest -/
theorem Goes.head {E : Env} {m : Map} {st : St} {w : World} {fr : Frame} {k : List Item} {r : Res} {t : List Item} (hs : ∀ cs, step P (lone fr cs w) = .next (lone { fr with todo := t } cs w)) (h : Goes P E m st w { fr with todo := t } k r) : Goes P E m st w fr k r := by
  obtain ⟨m', w', tmps', D', todo', h1, h2, h3, h4⟩ := h
  exact ⟨m', w', tmps', D', todo', h1, h2, h3, fun cs => .head (hs cs) (h4 cs)⟩

theorem goes_stay {E : Env} {m : Map} {st : St} {w : World} {A : T Value} {dm : List Nat} {fr : Frame} {k : List Item} {ex : Ex} (h : At P E m st w A dm fr) (he : Ends ex k fr.todo) : Goes P E m st w fr k ⟨ex, A, dm, st⟩ := by
  refine ⟨m, w, fr.tmps, fr.defers, fr.todo, Step.refl h.rel, ?_, he, fun _ => .refl _ _⟩
  exact h

/-- what follows a part that ended: the rest, or what it jumps to -/
theorem goes_seq {E : Env} {m : Map} {st : St} {w : World} {fr : Frame} {k1 k : List Item} {r1 r : Res} {g : CodeF} {start : Frame → List Item → Prop} (h1 : Goes P E m st w fr k1 r1) (hf : Free m st.nxt r.st.nxt) (hg : CodeOk P E start g) (_hgaf : ∀ r', g E r1.A r1.dm r1.st = some r' → AF r1.st r'.st)
    (hst : ∀ fr' : Frame, fr'.todo = k1 → start fr' k) (hx : ∀ id, exitTo id k1 = exitTo id k) (h : seqK g E r1 = some r) : Goes P E m st w fr k r := by
  obtain ⟨m1, w1, tmps1, D1, todo1, s1, a1, e1, t1⟩ := h1
  unfold seqK at h
  cases hex : r1.ex with
  | normal =>
    rw [hex] at h
    have h' : g E r1.A r1.dm r1.st = some r := h
    rw [hex] at e1
    have e1' : todo1 = k1 := e1
    obtain ⟨m2, w2, tmps2, D2, todo2, s2, a2, e2, t2⟩ := hg _ _ _ _ h' m1 w1 { fr with tmps := tmps1, defers := D1, todo := todo1 } k a1 (s1.free hf) (hst _ e1')
    exact ⟨m2, w2, tmps2, D2, todo2, s1.trans s2, a2, e2, fun cs => (t1 cs).trans (t2 cs)⟩
  | exit id =>
    rw [hex] at h
    have h' : some r1 = some r := h
    cases h'
    rw [hex] at e1
    obtain ⟨k', q1, q2⟩ := e1
    refine ⟨m1, w1, tmps1, D1, todo1, s1, a1, ?_, t1⟩
    rw [hex]
    exact ⟨k', q1, by rw [q2, hx]⟩
  | ret =>
    rw [hex] at h
    have h' : some r1 = some r := h
    cases h'
    rw [hex] at e1
    refine ⟨m1, w1, tmps1, D1, todo1, s1, a1, ?_, t1⟩
    rw [hex]
    exact e1

theorem goes_loop {E : Env} {c : Code} {body : CodeF} (haf : CodeAF body) (hcaf : CallAF E.call) (hb : CodeOk P E (fun fr k => fr.todo = .code c :: k) body) : ∀ n, CodeOk P E (fun fr k => fr.todo = .code (.loop c) :: k ∨ fr.todo = .inLoop c :: k) (loopN body n)
  | 0 => fun A dm st r h => by cases h
  | n + 1 => fun A dm st r h m w fr k ha hf ht => by
    have h' : ob (body E A dm st) (seqK (loopN body n) E) = some r := h
    obtain ⟨r1, h1, h2⟩ := ob_some h'
    have af2 : AF r1.st r.st := seqK_af (loopN_af haf n) hcaf h2
    refine Goes.head (t := .code c :: .inLoop c :: k) (fun _ => st_loop ha.mode ht) ?_
    have g1 := hb _ _ _ _ h1 m w { fr with todo := .code c :: .inLoop c :: k } (.inLoop c :: k) (ha.todo _) (hf.sub (Nat.le_refl _) af2.nxt) rfl
    exact goes_seq g1 hf (goes_loop haf hcaf hb n) (fun r' hr' => loopN_af haf n _ _ _ _ _ hcaf hr') (fun fr' e => .inr e) (fun id => rfl) h2

/-! ## range over a function -/
theorem rel_loop {m : Map} {st : St} {w : World} (h : Rel P m st w) {b : Nat} {l : ALoop} {x : M} (hb : m b = some x) (hk : st.mem.get b = some (.loop l)) : x.sh = 0 ∧ ∃ c, w.heap[x.blk]? = some (.loop c) ∧ LoopRel m l c := h.blks b x _ hb hk
theorem rel_defd {m : Map} {st : St} {w : World} (h : Rel P m st w) {b : Nat} {x : M} (hb : m b = some x) (hk : st.mem.get b = some .defd) : x.sh = 0 ∧ w.heap[x.blk]? = some (.deferred (some [])) := h.blks b x _ hb hk

/-- behind the iterator's return -/
theorem goes_endLoop {E : Env} {m : Map} {st : St} {w : World} {A : T Value} {dm : List Nat} {fr : Frame} {k : List Item} {r : Res} {l : Nat} {v : Value} {x : M} (ha : At P E m st w A dm fr) (hl : m l = some x) (ht : fr.todo = .endRangeFunc x.blk :: k) (h : endLoopK l A dm (v, st) = some r) : Goes P E m st w fr k r := by
  unfold endLoopK at h
  obtain ⟨b, hb, h1⟩ := ob_some h
  split at h1
  · rename_i o
    simp only at hb
    obtain ⟨x0, c, hc, hL⟩ := rel_loop ha.rel hl hb
    split at h1
    · cases h1
    · rename_i hbusy
      have hbusy' : c.state ≠ .busy := by rw [hL.state]; intro e; rw [e] at hbusy; exact hbusy rfl
      have hrun := run_endLoop (P := P) hc hbusy'
      have hstep := set_obj (k := .loop { o with state := .exhausted }) (obj := .loop { c with state := .exhausted }) ha.rel hl hb hc (fun w' hw => ⟨x0, _, hw, ⟨rfl, hL.pending, hL.fn, hL.tmps, hL.ntm, hL.params, hL.assign, hL.body, hL.defers⟩⟩)
      have hst := fun cs => st_endRangeFunc (P := P) (cs := cs) ha.mode ht hrun
      have fin : ∀ (ex : Ex) (t : List Item), Ends ex k t → (o.pending.map Item.code).toList ++ k = t → Goes P E m st w fr k ⟨ex, A, dm, st.setB l (.loop { o with state := .exhausted })⟩ := fun ex t he e => by
        refine ⟨m, _, fr.tmps, fr.defers, t, hstep, ha.with hstep ha.tm ha.size ha.defs, he, fun cs => .one ?_⟩
        rw [← e, ← hL.pending]
        exact hst cs
      split at h1
      · rename_i hp; cases h1; exact fin .normal k rfl (by rw [hp]; rfl)
      · rename_i hp; cases h1; exact fin .ret (.code .ret :: k) ⟨k, rfl⟩ (by rw [hp]; rfl)
      · rename_i id hp; cases h1; exact fin (.exit id) (.code (.exit id) :: k) ⟨k, rfl, rfl⟩ (by rw [hp]; rfl)
      · cases h1
  · cases h1

theorem goes_rangeFn {E : Env} (hcall : CallOk P E.call) (haf : CallAF E.call) {f : Operand} {params : Array Tmp} {assign body : Code} (hok : opndOk P f = true) : CodeOk P E (fun fr k => fr.todo = .code (.rangeFunc f params assign body) :: k) (rangeFn f params assign body) := by
  intro A dm st r h m w fr k ha hf ht
  unfold rangeFn at h
  have hfc := opnd_conc ha.rel ha.tm hok
  -- the steps from the loop's record on
  have key : ∀ (m1 : Map) (st1 st2 : St) (w1 : World) (v : Value) (dm1 : List Nat) (mark : List Deferred) (l : Nat) (x : M), Step P m st w m1 st1 w1 → m1 l = some x → x.sh = 0 → DefRel m1 dm1 (mark ++ fr.defers) →
      (Instr.enterLoop fr.fn fr.tmps params assign body fr.roundOf).run P w = .ok (x.blk, mark) w1 → E.call (ev A f) [.func (.yield l) #[] #[]] st1 = some (v, st2) → endLoopK l A dm1 (v, st2) = some r → Goes P E m st w fr k r := by
    intro m1 st1 st2 w1 v dm1 mark l x hs hl hx0 hd hrun hc he
    have af3 := endLoopK_af he
    have af2 := haf _ _ _ _ _ hc
    have hy : conc m1 (.func (.yield l) #[] #[]) = some (.func (.yield x.blk) #[] #[]) := by simp [conc, hl]
    obtain ⟨m2, w2, cv, g1, g2, nx, callee, q1, q2, q3⟩ := hcall _ _ _ _ _ hc m1 w1 _ _ hs.rel ((hs.free hf).sub (Nat.le_refl _) af3.nxt) (conc_mono hs.sub _ _ hfc) (concL_cons' hy (concL_nil m1))
    have hstep := fun cs => st_rangeFunc (P := P) (cs := cs) ha.mode ht hrun (by rw [eval_evT]; exact q1) q2
    have hsteps := fun cs => q3 { fr with todo := .inRangeFunc x.blk :: k, defers := mark ++ fr.defers } cs
    have hfin : ({ fr with todo := .inRangeFunc x.blk :: k, defers := mark ++ fr.defers } : Frame).finish cv = { fr with todo := .endRangeFunc x.blk :: k, defers := mark ++ fr.defers } := rfl
    simp only [hfin] at hsteps
    have hs2 := hs.trans g1
    have ha2 : At P E m2 st2 w2 A dm1 { fr with todo := .endRangeFunc x.blk :: k, defers := mark ++ fr.defers } :=
      ⟨g1.rel, (ha.tm.mono hs2.sub), ha.size, hd.mono g1.sub, ha.rnd.mono hs2.sub, ha.fn, ha.mode⟩
    obtain ⟨m3, w3, tmps3, D3, todo3, p1, p2, p3, p4⟩ := goes_endLoop (k := k) ha2 (g1.sub _ _ hl) rfl he
    exact ⟨m3, w3, tmps3, D3, todo3, hs2.trans p1, p2, p3, fun cs => .head (hstep cs) ((hsteps cs).trans (p4 cs))⟩
  split at h
  · -- outermost
    rename_i hrn
    have hro : fr.roundOf = none := by have := ha.rnd; rw [hrn] at this; exact this
    obtain ⟨p, h1, h2⟩ := ob_some h
    obtain ⟨v, st2⟩ := p
    have af2 := haf _ _ _ _ _ h1
    have af3 := endLoopK_af h2
    have hle : st.nxt + 2 ≤ r.st.nxt := by
      have q1 := af2.nxt
      have q2 := af3.nxt
      have : ((st.push .defd).push (.loop ⟨.ready, none, E.fn, A, E.n, params.toList, assign, body, st.nxt⟩)).nxt = st.nxt + 2 := rfl
      omega
    have hn0 : m st.nxt = none := hf _ (Nat.le_refl _) (by omega)
    let w1 : World := w.alloc (.deferred (some []))
    have s1 := push_step (P := P) (w' := w1) (k := .defd) (o := .deferred (some [])) (lim := 0) ha.rel hn0 rfl rfl rfl rfl ⟨rfl, by show (w.heap.push _)[w.heap.size]? = _; simp⟩
    have hsz1 : w1.heap.size = w.heap.size + 1 := by show (w.heap.push _).size = _; simp
    have hn1 : upd m st.nxt ⟨w.heap.size, 0, 0⟩ (st.push .defd).nxt = none := by
      show upd m st.nxt _ (st.nxt + 1) = none
      rw [upd_other _ _ (by omega)]
      exact hf _ (by omega) (by omega)
    have hsub2 := sub_upd (⟨w1.heap.size, 0, 0⟩ : M) hn1
    have s2 := push_step (P := P) (w' := w1.alloc (.loop { state := .ready, pending := none, fn := fr.fn, tmps := fr.tmps, params := params, assign := assign, body := body, defers := w.heap.size }))
      (k := .loop ⟨.ready, none, E.fn, A, E.n, params.toList, assign, body, st.nxt⟩) (lim := 0) s1.rel hn1 rfl rfl rfl rfl
      ⟨rfl, _, World.alloc_heap_new w1 _, ⟨rfl, rfl, ha.fn, fun t => conc_mono (s1.sub.trans hsub2) _ _ (ha.tm t), ha.size, rfl, rfl, rfl, ⟨⟨w.heap.size, 0, 0⟩, hsub2 _ _ (upd_same _ _ _), rfl⟩⟩⟩
    refine key _ _ st2 _ v (st.nxt :: dm) [{ target := .collected w.heap.size, args := #[] }] (st.nxt + 1) ⟨w1.heap.size, 0, 0⟩ (s1.trans s2) (upd_same _ _ _) rfl ?_ ?_ h1 h2
    · exact ⟨⟨⟨w.heap.size, 0, 0⟩, hsub2 _ _ (upd_same _ _ _), rfl⟩, ha.defs.mono (s1.trans s2).sub⟩
    · rw [hro, hsz1]
      exact run_enterLoop_outer fr.fn fr.tmps params assign body
  · -- inside a round
    rename_i l0 hrn
    obtain ⟨b, hb, h0⟩ := ob_some h
    split at h0
    · rename_i o
      obtain ⟨p, h1, h2⟩ := ob_some h0
      obtain ⟨v, st2⟩ := p
      have af2 := haf _ _ _ _ _ h1
      have af3 := endLoopK_af h2
      have hle : st.nxt + 1 ≤ r.st.nxt := by
        have q1 := af2.nxt
        have q2 := af3.nxt
        have : (st.push (.loop ⟨.ready, none, E.fn, A, E.n, params.toList, assign, body, o.defers⟩)).nxt = st.nxt + 1 := rfl
        omega
      have hro := ha.rnd
      rw [hrn] at hro
      obtain ⟨x0, hx0, _, hro⟩ := hro
      obtain ⟨_, c0, hc0, hL0⟩ := rel_loop ha.rel hx0 hb
      have hn0 : m st.nxt = none := hf _ (Nat.le_refl _) (by omega)
      have hsub := sub_upd (⟨w.heap.size, 0, 0⟩ : M) hn0
      obtain ⟨xd, hxd, hde⟩ := hL0.defers
      have s1 := push_step (P := P) (w' := w.alloc (.loop { state := .ready, pending := none, fn := fr.fn, tmps := fr.tmps, params := params, assign := assign, body := body, defers := c0.defers }))
        (k := .loop ⟨.ready, none, E.fn, A, E.n, params.toList, assign, body, o.defers⟩) (lim := 0) ha.rel hn0 rfl rfl rfl rfl
        ⟨rfl, _, World.alloc_heap_new w _, ⟨rfl, rfl, ha.fn, fun t => conc_mono hsub _ _ (ha.tm t), ha.size, rfl, rfl, rfl, ⟨xd, hsub _ _ hxd, hde⟩⟩⟩
      refine key _ _ st2 _ v dm [] st.nxt ⟨w.heap.size, 0, 0⟩ s1 (upd_same _ _ _) rfl (ha.defs.mono s1.sub) ?_ h1 h2
      rw [hro]
      exact run_enterLoop_inner hc0 fr.fn fr.tmps params assign body
    · cases h0

/-! ## all code -/
theorem code_sound {E : Env} (hmix : P.follows .mixedOrders = true) (hcall : CallOk P E.call) (haf : CallAF E.call) : ∀ c : Code, codeOk P E.n c = true → CodeOk P E (fun fr k => fr.todo = .code c :: k) (evCode P c)
  | .skip, _ => fun A dm st r h m w fr k ha hf ht => by
    have h' : some (⟨.normal, A, dm, st⟩ : Res) = some r := h
    cases h'
    exact Goes.head (fun _ => st_skip ha.mode ht) (goes_stay (ha.todo k) rfl)
  | .label l, _ => fun A dm st r h m w fr k ha hf ht => by
    have h' : some (⟨.normal, A, dm, st⟩ : Res) = some r := h
    cases h'
    exact Goes.head (fun _ => st_label ha.mode ht) (goes_stay (ha.todo k) rfl)
  | .exit id, _ => fun A dm st r h m w fr k ha hf ht => by
    have h' : some (⟨.exit id, A, dm, st⟩ : Res) = some r := h
    cases h'
    exact goes_stay ha ⟨k, ht, rfl⟩
  | .ret, _ => fun A dm st r h m w fr k ha hf ht => by
    have h' : some (⟨.ret, A, dm, st⟩ : Res) = some r := h
    cases h'
    exact goes_stay ha ⟨k, ht⟩
  | .goto _, _ => fun A dm st r h => by cases h
  | .refuse _, _ => fun A dm st r h => by cases h
  | .seq a b, hok => fun A dm st r h m w fr k ha hf ht => by
    obtain ⟨r1, h1, h2⟩ := ob_some (show ob (evCode P a E A dm st) (seqK (evCode P b) E) = some r from h)
    simp only [codeOk, Bool.and_eq_true] at hok
    have af2 : AF r1.st r.st := seqK_af (evCode_af b) haf h2
    refine Goes.head (t := .code a :: .code b :: k) (fun _ => st_seq ha.mode ht) ?_
    have g1 := code_sound hmix hcall haf a hok.1 _ _ _ _ h1 m w { fr with todo := .code a :: .code b :: k } (.code b :: k) (ha.todo _) (hf.sub (Nat.le_refl _) af2.nxt) rfl
    exact goes_seq g1 hf (code_sound hmix hcall haf b hok.2) (fun r' hr' => evCode_af b _ _ _ _ _ haf hr') (fun fr' e => e) (fun id => rfl) h2
  | .cond c a b, hok => fun A dm st r h m w fr k ha hf ht => by
    obtain ⟨t, h1, h2⟩ := ob_some (show ob (asB (ev A c)) (condK (evCode P a) (evCode P b) E A dm st) = some r from h)
    simp only [codeOk, Bool.and_eq_true] at hok
    have hc := opnd_conc ha.rel ha.tm hok.1.1
    have hb : ev A c = .bool t := by
      cases hv : ev A c with
      | bool u => rw [hv] at h1; cases h1; rfl
      | _ => rw [hv] at h1; cases h1
    rw [hb, conc_bool] at hc
    have hev : fr.eval c = .bool t := by rw [eval_evT]; exact (Option.some.inj hc).symm
    refine Goes.head (fun _ => st_cond ha.mode ht hev) ?_
    unfold condK at h2
    cases t with
    | false => exact code_sound hmix hcall haf b hok.2 _ _ _ _ h2 m w _ k (ha.todo _) hf rfl
    | true => exact code_sound hmix hcall haf a hok.1.2 _ _ _ _ h2 m w _ k (ha.todo _) hf rfl
  | .block id b, hok => fun A dm st r h m w fr k ha hf ht => by
    obtain ⟨r1, h1, h2⟩ := ob_some (show ob (evCode P b E A dm st) (blockK id) = some r from h)
    have hok' : codeOk P E.n b = true := hok
    refine Goes.head (t := .code b :: .inBlock id :: k) (fun _ => st_block ha.mode ht) ?_
    have hst : r.st = r1.st := by
      unfold blockK at h2
      cases hx : r1.ex with
      | normal => rw [hx] at h2; have h' : some r1 = some r := h2; cases h'; rfl
      | ret => rw [hx] at h2; have h' : some r1 = some r := h2; cases h'; rfl
      | exit id' =>
        rw [hx] at h2
        have h' : bsel (Nat.beq id' id) (some r1) (some ⟨.normal, r1.A, r1.dm, r1.st⟩) = some r := h2
        cases hb : Nat.beq id' id <;> rw [hb] at h' <;> cases h' <;> rfl
    obtain ⟨m1, w1, tmps1, D1, todo1, s1, a1, e1, t1⟩ := code_sound hmix hcall haf b hok' _ _ _ _ h1 m w { fr with todo := .code b :: .inBlock id :: k } (.inBlock id :: k) (ha.todo _) (by rw [← hst]; exact hf) rfl
    unfold blockK at h2
    cases hx : r1.ex with
    | normal =>
      rw [hx] at h2 e1
      have h' : some r1 = some r := h2
      cases h'
      have e1' : todo1 = .inBlock id :: k := e1
      subst e1'
      refine ⟨m1, w1, tmps1, D1, k, s1, a1.todo k, by rw [hx]; rfl, fun cs => (t1 cs).trans (.one (st_inBlock a1.mode rfl))⟩
    | ret =>
      rw [hx] at h2 e1
      have h' : some r1 = some r := h2
      cases h'
      refine ⟨m1, w1, tmps1, D1, todo1, s1, a1, by rw [hx]; exact e1, t1⟩
    | exit id' =>
      rw [hx] at h2 e1
      have h' : bsel (Nat.beq id' id) (some r1) (some ⟨.normal, r1.A, r1.dm, r1.st⟩) = some r := h2
      obtain ⟨k', q1, q2⟩ := e1
      cases hb : Nat.beq id' id with
      | false =>
        rw [hb] at h'
        cases h'
        refine ⟨m1, w1, tmps1, D1, todo1, s1, a1, ?_, t1⟩
        rw [hx]
        refine ⟨k', q1, ?_⟩
        rw [q2]
        show (if id == id' then some k else exitTo id' k) = _
        rw [if_neg]
        intro e
        have : id = id' := by simpa using e
        subst this
        rw [Nat.beq_refl] at hb; cases hb
      | true =>
        rw [hb] at h'
        cases h'
        have : id' = id := Nat.eq_of_beq_eq_true hb
        subst this
        subst q1
        have q2' : exitTo id' k' = some k := by rw [q2]; simp [exitTo]
        exact ⟨m1, w1, tmps1, D1, k, s1, a1.todo k, rfl, fun cs => (t1 cs).trans (.one (st_exit a1.mode rfl q2'))⟩
  | .loop b, hok => fun A dm st r h m w fr k ha hf ht =>
    goes_loop (evCode_af b) haf (code_sound hmix hcall haf b hok) 1000000 A dm st r h m w fr k ha hf (.inl ht)
  | .rangeFunc f params assign body, hok => by
    simp only [codeOk, Bool.and_eq_true] at hok
    exact goes_rangeFn hcall haf hok.1.1.1
  | .scope b, hok => fun A dm st r h m w fr k ha hf ht => by
    refine Goes.head (t := .code b :: .inScope b :: k) (fun _ => st_scope ha.mode ht) ?_
    obtain ⟨m1, w1, tmps1, D1, todo1, s1, a1, e1, t1⟩ := code_sound hmix hcall haf b hok _ _ _ _ h m w { fr with todo := .code b :: .inScope b :: k } (.inScope b :: k) (ha.todo _) hf rfl
    cases hx : r.ex with
    | normal =>
      rw [hx] at e1
      have e1' : todo1 = .inScope b :: k := e1
      subst e1'
      exact ⟨m1, w1, tmps1, D1, k, s1, a1.todo k, by rw [hx]; rfl, fun cs => (t1 cs).trans (.one (st_inScope a1.mode rfl))⟩
    | ret => rw [hx] at e1; exact ⟨m1, w1, tmps1, D1, todo1, s1, a1, by rw [hx]; exact e1, t1⟩
    | exit id => rw [hx] at e1; exact ⟨m1, w1, tmps1, D1, todo1, s1, a1, by rw [hx]; exact e1, t1⟩
  | .region id ops draw, hok => fun A dm st r h m w fr k ha hf ht => by
    have h' : evRegion P ops draw E A dm st = some r := h
    unfold evRegion at h'
    obtain ⟨q, h1, h2⟩ := ob_some h'
    cases h2
    simp only [codeOk, Bool.and_eq_true] at hok
    have hops : ∀ o ∈ ops.toList, operOk P E.n o = true := List.all_eq_true.1 hok.1
    cases draw with
    | false =>
      have h1' : evOps P E ops ops.toList A st = some q := h1
      have hst := fun cs => st_region (P := P) (cs := cs) (w := w) ha.mode ht
      obtain ⟨m', w', tmps', p1, p2, p3, p4⟩ := ops_sound (n := E.n) hcall haf ops.toList 0 A st q (fun j => by simp) hops h1' m w { fr with todo := .inRegion ops (List.range ops.size) :: k } k ha.rel hf ha.tm ha.size ha.mode (by simp [List.range_eq_range'])
      exact ⟨m', w', tmps', fr.defers, k, p1, ha.with p1 p2 p3 (ha.defs.mono p1.sub), rfl, fun cs => .head (hst cs) (p4 cs)⟩
    | true =>
      have h1' : evDraws P E ops ops.toList.zipIdx A st [] [] = some q := h1
      have hd : drawB ops = true := by simpa using hok.2
      obtain ⟨m', w', tmps', p1, p2, p3, p4⟩ := draws_sound (N := E.n) hmix hcall haf hops hd h1' ha.rel hf ha.tm ha.size ha.mode ht
      exact ⟨m', w', tmps', fr.defers, k, p1, ha.with p1 p2 p3 (ha.defs.mono p1.sub), rfl, p4⟩
end Go.Ev
