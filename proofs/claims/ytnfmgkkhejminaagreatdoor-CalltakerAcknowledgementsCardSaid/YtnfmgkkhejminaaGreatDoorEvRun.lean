/-
  A part of the proof that the evaluator answers what the model answers, for every program that follows mixed orders; no other condition.
-/
import Derived.Test.YtnfmgkkhejminaaGreatDoorEvCode
import Derived.Below
namespace Go.Ev
set_option linter.unusedSectionVars false
variable [OTab] [OVal]
variable {P : Program}

/-! ## a function's run -/
theorem enter_tm {m : Map} {args cargs : List Value} {n : Nat} (h : concL m args = some cargs) (hn : args.length ≤ n) :
    TmRel m (fillT args 0 .lf) ((⟨cargs⟩ : Array Value) ++ Array.replicate (n - cargs.length) undef) ∧ ((⟨cargs⟩ : Array Value) ++ Array.replicate (n - cargs.length) undef).size = n := by
  have hl := concL_len h
  refine ⟨fun t => ?_, by simp; omega⟩
  unfold tg
  rw [fillT_get]
  by_cases ht : 0 ≤ t ∧ t < 0 + args.length
  · rw [if_pos ht]
    have ht' : t < args.length := by omega
    obtain ⟨cv, h1, h2⟩ := concL_get h t args[t] (List.getElem?_eq_getElem ht')
    rw [Nat.sub_zero, List.getElem?_eq_getElem ht']
    show conc m args[t] = _
    rw [h1]
    congr 1
    rw [Array.getD_eq_getD_getElem?, Array.getElem?_append_left (by simp; omega)]
    simp [h2]
  · rw [if_neg ht]
    show conc m undef = _
    rw [conc_undef]
    congr 1
    rw [Array.getD_eq_getD_getElem?, Array.getElem?_append_right (by simp; omega), Array.getElem?_replicate]
    split <;> rfl

theorem marks_sound : ∀ (l : List Nat) (st st' : St), dropMarks l st = some st' → ∀ (m : Map) (w : World) (fr : Frame), Rel P m st w → DefRel m l fr.defers → fr.mode = .returning →
    ∃ w', Step P m st w m st' w' ∧ ∀ cs, Steps P (lone fr cs w) (lone { fr with defers := [] } cs w')
  | [], st, st', h, m, w, fr, hr, hd, hm => by
    cases h
    have : fr.defers = [] := by
      cases hf : fr.defers with
      | nil => rfl
      | cons d ds => rw [hf] at hd; exact hd.elim
    refine ⟨w, Step.refl hr, ?_⟩
    have e : ({ fr with defers := [] } : Frame) = fr := by rw [← this]
    rw [e]
    exact fun _ => .refl _ _
  | r :: rs, st, st', h, m, w, fr, hr, hd, hm => by
    unfold dropMarks at h
    obtain ⟨b, hb, h1⟩ := ob_some h
    split at h1
    · cases hf : fr.defers with
      | nil => rw [hf] at hd; exact hd.elim
      | cons d ds =>
        rw [hf] at hd
        obtain ⟨⟨x, hx, rfl⟩, hd2⟩ := hd
        obtain ⟨x0, hw⟩ := rel_defd hr hx hb
        have hrun := run_takeDeferred (P := P) hw
        have hlt := hr.inb r x hx
        have s1 : Step P m st w m (st.kill r) (w.putObj x.blk (.deferred none)) := set_step (vo := none) hr hx hb (fun B hB => World.putObj_heap_other hB) (by simp) rfl rfl rfl (fun k e => by cases e)
        obtain ⟨w', s2, t2⟩ := marks_sound rs (st.kill r) st' h1 m _ { fr with defers := ds } s1.rel hd2 hm
        exact ⟨w', s1.trans s2, fun cs => .head (st_collected hm hf hrun) (t2 cs)⟩
    · cases h1

theorem res_sound {m : Map} {st : St} {w : World} {A : T Value} {tmps : Array Value} (hr : Rel P m st w) (ht : TmRel m A tmps) : ∀ (rs : List ResultVar) (l : List Value), resAll P A st rs = some l →
    ∃ l', concL m l = some l' ∧ (rs.mapM (fun | .tmp t => pure (tmps.getD t undef) | .cell a t => do loadVar t (← asAddr (tmps.getD a undef)) : ResultVar → Sem Value)).run P w = .ok l' w
  | [], l, h => by
    cases h
    exact ⟨[], by simp, by simp⟩
  | r :: rs, l, h => by
    unfold resAll at h
    obtain ⟨v, hv, h1⟩ := ob_some h
    obtain ⟨l1, hl1, h2⟩ := ob_some h1
    cases h2
    obtain ⟨l', g1, g2⟩ := res_sound hr ht rs l1 hl1
    have hone : ∃ cv, conc m v = some cv ∧ ((fun | .tmp t => pure (tmps.getD t undef) | .cell a t => do loadVar t (← asAddr (tmps.getD a undef)) : ResultVar → Sem Value) r).run P w = .ok cv w := by
      unfold resOne at hv
      split at hv
      · cases hv
        exact ⟨_, ht _, by simp⟩
      · rename_i a t
        obtain ⟨ad, ha, hv⟩ := ob_some hv
        have e := asP_some ha
        have hc := ht a
        rw [e] at hc
        obtain ⟨cv, q1, b, q2, q3⟩ := loadV_sound (P := P) hr hc hv
        exact ⟨cv, q1, by simp only [q2, asAddr, Sem.run_bind]; simp [q3]⟩
    obtain ⟨cv, q1, q2⟩ := hone
    refine ⟨cv :: l', concL_cons' q1 g1, ?_⟩
    simp only [List.mapM_cons, Sem.run_bind, q2, Result.andThen_ok, g2, Sem.run_pure]

theorem run_results {fn : Func} {tmps : Array Value} {w : World} {l : List Value} (h : (fn.results.toList.mapM (fun | .tmp t => pure (tmps.getD t undef) | .cell a t => do loadVar t (← asAddr (tmps.getD a undef)) : ResultVar → Sem Value)).run P w = .ok l w) :
    (results fn tmps).run P w = .ok (oneOrTuple l) w := by
  have e : results fn tmps = (do let vs ← fn.results.mapM (fun | .tmp t => pure (tmps.getD t undef) | .cell a t => do loadVar t (← asAddr (tmps.getD a undef)) : ResultVar → Sem Value); pure (if h : vs.size = 1 then vs[0] else .tuple vs)) := rfl
  rw [e, show fn.results = ⟨fn.results.toList⟩ from rfl]
  simp only [List.mapM_toArray, Sem.run_bind, Sem.run_map, h, Result.andThen_ok, Sem.run_pure]
  match l with
  | [] => rfl
  | [v] => rfl
  | _ :: _ :: _ => rfl

theorem oneOrTuple_conc {m : Map} : ∀ {l l' : List Value}, concL m l = some l' → conc m (oneOrTuple l) = some (oneOrTuple l')
  | [], _, h => by simp at h; subst h; exact conc_tuple' (concL_nil m)
  | [v], _, h => by
    obtain ⟨c, r, h1, h2, rfl⟩ := concL_cons h
    simp at h2; subst h2; exact h1
  | v :: u :: l, _, h => by
    obtain ⟨c, r, h1, h2, rfl⟩ := concL_cons h
    obtain ⟨c2, r2, h3, h4, rfl⟩ := concL_cons h2
    exact conc_tuple' h

/-- a function comes to its end -/
theorem fn_sound {call : CallF} (hmix : P.follows .mixedOrders = true) (hcall : CallOk P call) (haf : CallAF call) {f : FuncId} {args : List Value} {st st' : St} {v : Value} (h : callFn P call f args st = some (v, st')) {m : Map} {w : World} {cargs : List Value} (hr : Rel P m st w) (hf : Free m st.nxt st'.nxt) (ha : concL m args = some cargs) :
    ∃ m' w' cv, Step P m st w m' st' w' ∧ conc m' v = some cv ∧ (∃ fn c, P.funcs[f]? = some fn ∧ fn.body = some c ∧ (fn.name == "runtime.NumGoroutine") = false) ∧
      ∀ cs, ∃ fr, Steps P (lone (Frame.enter P f ⟨cargs⟩ .normal) cs w) (lone fr cs w') ∧ fr.fn = f ∧ fr.leaving P w' (.returned cv) := by
  unfold callFn at h
  obtain ⟨fn, hfn, h1⟩ := ob_some h
  obtain ⟨c, hc, h2⟩ := ob_some h1
  obtain ⟨hok, h3⟩ := gd_some h2
  obtain ⟨hn, h4⟩ := gd_some h3
  obtain ⟨r, h5, h6⟩ := ob_some h4
  clear h h1 h2 h3 h4
  unfold fnOk at hok
  simp only [Bool.and_eq_true, Bool.not_eq_true'] at hok
  obtain ⟨⟨hcode, hname⟩, _⟩ := hok
  have hn' := Nat.le_of_ble_eq_true hn
  obtain ⟨t1, t2⟩ := enter_tm (n := fn.ntmps) ha hn'
  let E : Env := ⟨call, f, fn.ntmps, none⟩
  have h7 : r.ex = .normal ∨ r.ex = .ret := by
    unfold retK at h6
    cases hx : r.ex with
    | normal => exact .inl rfl
    | ret => exact .inr rfl
    | exit id => rw [hx] at h6; cases h6
  have h8 : ob (dropMarks r.dm r.st) (fun st => ob (resAll P r.A st fn.results.toList) fun l => some (oneOrTuple l, st)) = some (v, st') := by
    unfold retK at h6
    rcases h7 with hx | hx <;> rw [hx] at h6 <;> exact h6
  obtain ⟨st2, hd, h9⟩ := ob_some h8
  obtain ⟨l, hl, h10⟩ := ob_some h9
  cases h10
  have afd := dropMarks_af _ _ _ hd
  have henter : Frame.enter P f ⟨cargs⟩ .normal = { fn := f, tmps := (⟨cargs⟩ : Array Value) ++ Array.replicate (fn.ntmps - cargs.length) undef, todo := [.code c], defers := [], mode := .run, kind := .normal } := by
    simp [Frame.enter, hfn, hc]
  have hat : At P E m st w (fillT args 0 .lf) [] { fn := f, tmps := (⟨cargs⟩ : Array Value) ++ Array.replicate (fn.ntmps - cargs.length) undef, todo := [.code c], defers := [], mode := .run, kind := .normal } :=
    ⟨hr, t1, t2, trivial, rfl, rfl, rfl⟩
  obtain ⟨m1, w1, tmps1, D1, todo1, s1, a1, e1, q1⟩ := code_sound (E := E) hmix hcall haf c hcode _ _ _ _ h5 m w _ [] hat (hf.sub (Nat.le_refl _) afd.nxt) rfl
  have htodo : todo1 = [] ∨ ∃ k, todo1 = .code .ret :: k := by
    rcases h7 with hx | hx <;> rw [hx] at e1
    · exact .inl e1
    · exact .inr e1
  obtain ⟨w2, s2, q2⟩ := marks_sound (P := P) r.dm r.st st' hd m1 w1 { fn := f, tmps := tmps1, todo := todo1, defers := D1, mode := .returning, kind := .normal } s1.rel a1.defs rfl
  obtain ⟨l', g1, g2⟩ := res_sound (P := P) s2.rel a1.tm fn.results.toList l hl
  refine ⟨m1, w2, oneOrTuple l', s1.trans s2, oneOrTuple_conc g1, ⟨fn, c, hfn, hc, hname⟩, fun cs => ⟨{ fn := f, tmps := tmps1, todo := todo1, defers := [], mode := .returning, kind := .normal }, ?_, rfl, rfl, rfl, rfl, fn, hfn, run_results g2⟩⟩
  rw [henter]
  exact (q1 cs).trans (.head (st_leave rfl rfl htodo) (q2 cs))

/-! ## a round of a loop -/
theorem params_tm {m : Map} {n : Nat} : ∀ (ps : List Tmp) (vs cvs : List Value) (A : T Value) (tmps : Array Value), concL m vs = some cvs → TmRel m A tmps → tmps.size = n → ps.all (fun t => decide (t < n)) = true →
    TmRel m (setParams ps vs A) ((ps.zip cvs).foldl (fun tmps p => tmps.setIfInBounds p.1 p.2) tmps) ∧ ((ps.zip cvs).foldl (fun tmps p => tmps.setIfInBounds p.1 p.2) tmps).size = n
  | [], vs, cvs, A, tmps, _, ht, hs, _ => by
    simp only [List.zip_nil_left, List.foldl_nil]
    cases vs <;> exact ⟨ht, hs⟩
  | p :: ps, [], cvs, A, tmps, hc, ht, hs, _ => by
    simp at hc
    subst hc
    simp only [List.zip_nil_right, List.foldl_nil]
    exact ⟨ht, hs⟩
  | p :: ps, v :: vs, cvs, A, tmps, hc, ht, hs, hp => by
    obtain ⟨cv, r, h1, h2, rfl⟩ := concL_cons hc
    simp only [List.all_cons, Bool.and_eq_true, decide_eq_true_eq] at hp
    simp only [List.zip_cons_cons, List.foldl_cons]
    have h3 := TmRel.put ht hs (dst := some p) (fun d e => by cases e; exact hp.1) h1
    exact params_tm ps vs r _ _ h2 h3 (by simp [hs]) hp.2

theorem yield_sound {call : CallF} (hmix : P.follows .mixedOrders = true) (hcall : CallOk P call) (haf : CallAF call) {l : Nat} {args : List Value} {st st' : St} {v : Value} (h : yieldFn P call l args st = some (v, st')) {m : Map} {w : World} {cargs : List Value} {x : M} (hr : Rel P m st w) (hf : Free m st.nxt st'.nxt) (hl : m l = some x) (ha : concL m args = some cargs) :
    ∃ m' w' cv, Step P m st w m' st' w' ∧ conc m' v = some cv ∧ ∃ f tmps a b, (Instr.yield x.blk ⟨cargs⟩).run P w = .ok (.round x.blk f tmps a b) w ∧
      ∀ fr0 cs, Steps P (lone (Frame.round x.blk f tmps a b .normal) (fr0 :: cs) w) (lone (fr0.finish cv) cs w') := by
  unfold yieldFn at h
  obtain ⟨bk, hb, h1⟩ := ob_some h
  split at h1
  · rename_i o
    obtain ⟨hlen, h2⟩ := gd_some h1
    obtain ⟨hok, h3⟩ := gd_some h2
    obtain ⟨r, h4, h5⟩ := ob_some h3
    clear h h1 h2 h3
    have hlen' : args.length = o.params.length := Nat.eq_of_beq_eq_true hlen
    unfold loopOk at hok
    simp only [Bool.and_eq_true] at hok
    obtain ⟨⟨hoa, hob⟩, hop⟩ := hok
    obtain ⟨x0, c, hc, hL⟩ := rel_loop hr hl hb
    have hcl := concL_len ha
    have hyield := run_yield (P := P) (args := ⟨cargs⟩) hc (by rw [hL.params]; show cargs.length = o.params.length; omega)
    unfold roundBody at h5
    split at h5
    · rename_i hex
      obtain ⟨b2, hb2, h6⟩ := ob_some h5
      split at h6
      · rename_i o'
        split at h6
        · rename_i hready
          obtain ⟨r2, h7, h8⟩ := ob_some h6
          clear h5 h6
          let E : Env := ⟨call, o.fn, o.ntm, some l⟩
          have af2 : AF (r.st.setB l (.loop { o' with state := .busy })) r2.st := evCode_af _ _ _ _ _ _ haf h7
          -- behind the body
          have h9 : r2.dm = [] := by
            unfold roundK at h8
            cases hdm : r2.dm with
            | nil => rfl
            | cons a b => rw [hdm] at h8; cases h8
          unfold roundK at h8
          rw [h9] at h8
          simp only at h8
          obtain ⟨b3, hb3, h10⟩ := ob_some h8
          split at h10
          · rename_i o3
            have hst' : ∃ o4 : ALoop, st' = r2.st.setB l (.loop o4) := by
              split at h10 <;> cases h10 <;> exact ⟨_, rfl⟩
            have hnx : st'.nxt = r2.st.nxt := by obtain ⟨o4, e⟩ := hst'; rw [e]; rfl
            -- the temporaries of the round
            obtain ⟨t1, t2⟩ := params_tm (n := o.ntm) o.params args cargs o.tm c.tmps ha hL.tmps hL.ntm hop
            have hfold : (c.params.zip (⟨cargs⟩ : Array Value)).foldl (fun tmps (t, a) => tmps.setIfInBounds t a) c.tmps = (o.params.zip cargs).foldl (fun tmps p => tmps.setIfInBounds p.1 p.2) c.tmps := by
              rw [hL.params]
              rw [← Array.foldl_toList]
              simp
            rw [hfold] at hyield
            generalize htm : (o.params.zip cargs).foldl (fun tmps p => tmps.setIfInBounds p.1 p.2) c.tmps = tmps0 at hyield t1 t2
            let fr : Frame := Frame.round x.blk c.fn tmps0 c.assign c.body .normal
            have hat : At P E m st w (setParams o.params args o.tm) [] fr := ⟨hr, t1, t2, trivial, ⟨x, hl, x0, rfl⟩, hL.fn, rfl⟩
            obtain ⟨m1, w1, tmps1, D1, todo1, s1, a1, e1, q1⟩ := code_sound (E := E) hmix hcall haf o.assign hoa _ _ _ _ h4 m w fr [.beginRound, .code c.body] hat (hf.sub (Nat.le_refl _) (by rw [hnx]; exact af2.nxt)) (by show [Item.code c.assign, _, _] = _; rw [hL.assign])
            rw [hex] at e1
            have e1' : todo1 = [.beginRound, .code c.body] := e1
            subst e1'
            -- it begins
            obtain ⟨_, c1, hc1, hL1⟩ := rel_loop s1.rel (s1.sub _ _ hl) hb2
            have hbr := run_beginRound (P := P) hc1 (by rw [hL1.state]; exact hready)
            have s2 := set_obj (k := .loop { o' with state := .busy }) (obj := .loop { c1 with state := .busy }) s1.rel (s1.sub _ _ hl) hb2 hc1 (fun w' hw => ⟨x0, _, hw, ⟨rfl, hL1.pending, hL1.fn, hL1.tmps, hL1.ntm, hL1.params, hL1.assign, hL1.body, hL1.defers⟩⟩)
            have st2 := fun cs => st_beginRound (P := P) (cs := cs) (fr := { fr with tmps := tmps1, defers := D1, todo := [.beginRound, .code c.body] }) (k := [.code c.body]) (l := x.blk) rfl rfl rfl hbr
            have s12 := s1.trans s2
            have hat2 : At P E m1 (r.st.setB l (.loop { o' with state := .busy })) (w1.putObj x.blk (.loop { c1 with state := .busy })) r.A r.dm { fr with tmps := tmps1, defers := D1, todo := [.code c.body] } :=
              ⟨s2.rel, a1.tm, a1.size, a1.defs, a1.rnd, a1.fn, a1.mode⟩
            obtain ⟨m3, w3, tmps3, D3, todo3, s3, a3, e3, q3⟩ := code_sound (E := E) hmix hcall haf o.body hob _ _ _ _ h7 m1 _ _ [] hat2 ((s12.free hf).sub (Nat.le_refl _) (by rw [hnx]; exact Nat.le_refl _)) (by show [Item.code c.body] = _; rw [hL.body])
            have s123 := s12.trans s3
            obtain ⟨_, c3, hc3, hL3⟩ := rel_loop s3.rel (s123.sub _ _ hl) hb3
            have steps0 : ∀ cs, Steps P (lone fr cs w) (lone { fr with tmps := tmps3, defers := D3, todo := todo3 } cs w3) := fun cs => (q1 cs).trans (.head (st2 cs) (q3 cs))
            have fin : ∀ (jump : Option Code) (v' : Value), v' = .bool jump.isNone → st' = r2.st.setB l (.loop { o3 with state := if jump.isNone then .ready else .done, pending := jump }) →
                (∀ (w' : World) (fr0 : Frame) (cs : List Frame), (Instr.endRound x.blk jump).run P w3 = .ok v' w' → step P (lone { fr with tmps := tmps3, defers := D3, todo := todo3 } (fr0 :: cs) w3) = .next (lone (fr0.finish v') cs w')) →
                ∃ m' w' cv, Step P m st w m' st' w' ∧ conc m' v' = some cv ∧ ∃ f tmps a b, (Instr.yield x.blk ⟨cargs⟩).run P w = .ok (.round x.blk f tmps a b) w ∧
                  ∀ fr0 cs, Steps P (lone (Frame.round x.blk f tmps a b .normal) (fr0 :: cs) w) (lone (fr0.finish cv) cs w') := by
              intro jump v' hv' hs' hst
              have her := run_endRound (P := P) jump hc3
              have s4 := set_obj (k := .loop { o3 with state := if jump.isNone then .ready else .done, pending := jump }) (obj := .loop { c3 with state := if jump.isNone then .ready else .done, pending := jump }) s3.rel (s123.sub _ _ hl) hb3 hc3
                (fun w' hw => ⟨x0, _, hw, ⟨rfl, rfl, hL3.fn, hL3.tmps, hL3.ntm, hL3.params, hL3.assign, hL3.body, hL3.defers⟩⟩)
              subst hv'
              rw [hs']
              exact ⟨m3, _, _, s123.trans s4, conc_bool m3 _, c.fn, tmps0, c.assign, c.body, hyield, fun fr0 cs => (steps0 _).trans (.one (hst _ fr0 cs her))⟩
            split at h10
            · rename_i hx3
              cases h10
              rw [hx3] at e3
              have e3' : todo3 = [] := e3
              exact fin none _ rfl rfl (fun w' fr0 cs hrun => st_roundEnd rfl rfl rfl e3' hrun)
            · rename_i hx3
              cases h10
              rw [hx3] at e3
              obtain ⟨k', e3'⟩ := e3
              exact fin (some .ret) _ rfl rfl (fun w' fr0 cs hrun => st_roundRet rfl rfl rfl e3' hrun)
            · rename_i id hx3
              cases h10
              rw [hx3] at e3
              obtain ⟨k', e3', e4⟩ := e3
              exact fin (some (.exit id)) _ rfl rfl (fun w' fr0 cs hrun => st_roundExit rfl rfl rfl e3' (by rw [e4]; rfl) hrun)
          · cases h10
        · cases h6
      · cases h6
    · cases h5
  · cases h1

/-! ## calls whose answer is known -/
open Go.RowKit in
theorem below_step {m : Map} {st : St} {w w' : World} (h : Rel P m st w) (hb : Below w.heap.size w w') : Step P m st w m st w' where
  sub := Sub.refl m
  rel := ⟨h.glob, fun b x hx => Nat.lt_of_lt_of_le (h.inb b x hx) hb.size, fun b x k hx hk => (h.blks b x k hx hk).heap (hb.block _ (h.inb b x hx)), h.dist, h.wf⟩
  os := hb.os
  tape := hb.tape
  output := hb.output
  size := hb.size
  nxt := Nat.le_refl _
  low := Nat.le_refl _
  newm := fun _ _ h => .inl h
  chk := fun _ _ _ _ hc => ⟨hc.1, Nat.le_trans hc.2.1 hb.size, fun B hB => (hb.block B (Nat.lt_of_lt_of_le hB hc.2.1)).trans (hc.2.2 B hB)⟩

/-- the table lies in that world -/
def Tab.In (t : Tab) (w : World) : Prop :=
  ∃ (arr : Array Value) (e : TypeId) (lo hi : Nat), w.heap[t.g]? = some (.cells arr e (lo, hi)) ∧ t.vals.length ≤ arr.size ∧ (∀ i, i < arr.size → ¬ (lo ≤ i ∧ i < hi)) ∧ ∀ i, i < t.vals.length → arr[i]? = t.vals[i]?

def CRule.Holds (P : Program) (val : Nat → Value) (r : CRule) : Prop :=
  ∀ w : World, P.globals.size ≤ w.heap.size → (∀ t ∈ r.need, t.In w) → ∃ w', Go.RowKit.Below w.heap.size w w' ∧
    (∃ fn c, P.funcs[r.f]? = some fn ∧ fn.body = some c ∧ (fn.name == "runtime.NumGoroutine") = false) ∧
    ∀ cs, ∃ fr, Steps P (lone (Frame.enter P r.f ⟨r.args.map (con val)⟩ .normal) cs w) (lone fr cs w') ∧ fr.fn = r.f ∧ fr.leaving P w' (.returned (con val r.z))

theorem takeT_at {c : T Value} : ∀ (n i : Nat) (l : List Value), takeT c n i = some l → ∀ j, j < n → c.get (i + j) = l[j]?
  | 0, _, _, _, j, hj => by omega
  | n + 1, i, l, h, j, hj => by
    have h' : ob (c.get i) (fun v => ob (takeT c n (Nat.succ i)) fun l => some (v :: l)) = some l := h
    obtain ⟨v, hv, h1⟩ := ob_some h'
    obtain ⟨l1, hl1, h2⟩ := ob_some h1
    cases h2
    cases j with
    | zero => simpa using hv
    | succ j =>
      have := takeT_at n (i + 1) l1 hl1 j (by omega)
      rw [show i + (j + 1) = i + 1 + j by omega, this]
      simp

theorem hasTab_in {m : Map} {st : St} {w : World} {t : Tab} (hr : Rel P m st w) (hg : t.g < P.globals.size) (h : hasTab st t = true) : t.In w := by
  unfold hasTab at h
  split at h
  · rename_i n c hk
    split at h
    · rename_i l hl
      simp only [Bool.and_eq_true] at h
      have hn := Nat.le_of_ble_eq_true h.1.1
      obtain ⟨rfl, _⟩ := sEqL_eq h.1.2
      obtain ⟨lim, hm⟩ := hr.glob t.g hg
      obtain ⟨arr, e, lo, hi, q1, q2, q3, q4, q5, _⟩ := hr.blks t.g _ _ hm hk
      refine ⟨arr, e, lo, hi, q1, ?_, q4 h.2, fun i hi' => ?_⟩
      · have q2' : 0 + lim ≤ arr.size := q2
        have q3' : n ≤ lim := q3
        omega
      · obtain ⟨v, cv, r1, r2, r3⟩ := q5 i (by omega)
        have := takeT_at _ 0 _ hl i hi'
        rw [Nat.zero_add, r1] at this
        have r3' : arr[0 + i]? = some cv := r3
        rw [Nat.zero_add] at r3'
        rw [r3', ← this]
        have hv : ∃ z, v = .int t.k z := by
          have hi2 : t.vals[i]? = some v := this.symm
          simp only [Tab.vals, List.getElem?_map, Option.map_eq_some_iff] at hi2
          obtain ⟨z, _, e⟩ := hi2
          exact ⟨z, e.symm⟩
        obtain ⟨z, rfl⟩ := hv
        rw [conc_int] at r2
        rw [← r2]
    · cases h
  · cases h

theorem findC_some {f : Nat} {args : List Value} {st : St} {z : Value} : ∀ {l : List CRule}, findC P f args st l = some z →
    ∃ r ∈ l, r.f = f ∧ r.args = args ∧ (∀ t ∈ r.need, t.g < P.globals.size ∧ hasTab st t = true) ∧ r.z = z ∧ plainS z = true ∧ ∀ v ∈ args, plainS v = true
  | [], h => by cases h
  | r :: rs, h => by
    unfold findC at h
    cases hb : (Nat.beq r.f f && sEqL r.args args && r.need.all (fun t => Nat.blt t.g P.globals.size && hasTab st t) && plainS r.z) with
    | false =>
      rw [hb, bsel_false] at h
      obtain ⟨r', hr, q⟩ := findC_some h
      exact ⟨r', by simp [hr], q⟩
    | true =>
      rw [hb, bsel_true] at h
      cases h
      simp only [Bool.and_eq_true, List.all_eq_true] at hb
      obtain ⟨⟨⟨h1, h2⟩, h3⟩, h4⟩ := hb
      obtain ⟨e2, p2⟩ := sEqL_eq h2
      exact ⟨r, by simp, Nat.eq_of_beq_eq_true h1, e2, fun t ht => ⟨Nat.le_of_ble_eq_true (h3 t ht).1, (h3 t ht).2⟩, rfl, h4, p2⟩

/-- the rules for calls: those of the list, and those of the pure functions -/
def Known (r : CRule) : Prop := r ∈ OTab.calls ∨ (OTab.gen r.f r.args = some r.z ∧ r.need = [])
/-- what is asked of a function whose contract is known -/
def NatDoes (P : Program) (f : FuncId) (st st' : St) (v : Value) (m : Map) (w : World) (cargs : List Value) : Prop :=
  ∃ m' w' cv, Step P m st w m' st' w' ∧ conc m' v = some cv ∧ (∃ fn c, P.funcs[f]? = some fn ∧ fn.body = some c ∧ (fn.name == "runtime.NumGoroutine") = false) ∧
    ∀ cs, ∃ fr, Steps P (lone (Frame.enter P f ⟨cargs⟩ .normal) cs w) (lone fr cs w') ∧ fr.fn = f ∧ fr.leaving P w' (.returned cv)
def NatOk (P : Program) : Prop := ∀ f args st r st' v, OTab.nat f args st = some r → pushes r st = some (v, st') → ∀ (m : Map) (w : World) (cargs : List Value), Rel P m st w → Free m st.nxt st'.nxt → concL m args = some cargs → NatDoes P f st st' v m w cargs
def CallsOk (P : Program) : Prop := (∀ r : CRule, Known r → CRule.Holds P OVal.val r) ∧ NatOk P
theorem known_some {f : Nat} {args : List Value} {st : St} {z : Value} (h : known P f args st = some z) :
    ∃ r, Known r ∧ r.f = f ∧ r.args = args ∧ (∀ t ∈ r.need, t.g < P.globals.size ∧ hasTab st t = true) ∧ r.z = z ∧ plainS z = true ∧ ∀ v ∈ args, plainS v = true := by
  unfold known at h
  cases hg : OTab.gen f args with
  | none =>
    rw [hg] at h
    obtain ⟨r, hr, q⟩ := findC_some h
    exact ⟨r, .inl hr, q⟩
  | some y =>
    rw [hg] at h
    have h' : bsel (args.all plainS && plainS y) none (some y) = some z := h
    cases hb : (args.all plainS && plainS y) with
    | false => rw [hb] at h'; cases h'
    | true =>
      rw [hb] at h'
      cases h'
      rw [Bool.and_eq_true] at hb
      exact ⟨⟨f, args, [], z⟩, .inr ⟨hg, rfl⟩, rfl, rfl, (fun t ht => by cases ht), rfl, hb.2, fun v hv => List.all_eq_true.1 hb.1 v hv⟩
theorem concL_scal (m : Map) : ∀ (l : List Value), (∀ v ∈ l, plainS v = true) → concL m l = some (l.map (con OVal.val))
  | [], _ => by simp
  | v :: l, h => concL_cons' (conc_plain m (h v (by simp))) (concL_scal m l fun u hu => h u (by simp [hu]))

/-! ## every call -/
theorem callO_ok {call : CallF} (hmix : P.follows .mixedOrders = true) (hC : CallsOk P) (hcall : CallOk P call) (haf : CallAF call) {f : FuncId} {args : List Value} {st st' : St} {v : Value} (h' : callO P call f args st = some (v, st')) {m : Map} {w : World} {cargs : List Value} (hr : Rel P m st w) (hf : Free m st.nxt st'.nxt) (hca : concL m args = some cargs) :
    ∃ m' w' cv, Step P m st w m' st' w' ∧ conc m' v = some cv ∧ (∀ w1, (callFunc f ⟨cargs⟩).run P w1 = .ok (.enter f ⟨cargs⟩) w1) ∧ ∀ fr0 cs, Steps P (lone (Frame.enter P f ⟨cargs⟩ .normal) (fr0 :: cs) w) (lone (fr0.finish cv) cs w') := by
  unfold callO at h'
  split at h'
  · rename_i z hz
    cases h'
    obtain ⟨r, hr', rfl, ea, hneed, rfl, pz, pa⟩ := known_some hz
    have hcc' := concL_scal m _ pa
    have eqa : cargs = r.args.map (con OVal.val) := by
      rw [ea]
      exact Option.some.inj (hca.symm.trans hcc')
    have hsz : P.globals.size ≤ w.heap.size := by
      cases hg : P.globals.size with
      | zero => omega
      | succ g =>
        obtain ⟨l, hl⟩ := hr.glob g (by omega)
        have : g < w.heap.size := hr.inb g _ hl
        omega
    obtain ⟨w', hb, ⟨fn, c, q1, q2, q3⟩, q4⟩ := hC.1 r hr' w hsz (fun t ht => hasTab_in hr (hneed t ht).1 (hneed t ht).2)
    refine ⟨m, w', con OVal.val r.z, below_step hr hb, conc_plain m pz, fun w1 => MuLone.run_callFunc_enter q1 q3 q2 ⟨cargs⟩ w1, fun fr0 cs => ?_⟩
    obtain ⟨fr, p1, p2, p3⟩ := q4 (fr0 :: cs)
    rw [eqa]
    exact p1.trans (.one (step_leave_returned p3))
  · have key : NatDoes P f st st' v m w cargs := by
      split at h'
      · rename_i r hn
        exact hC.2 f args st r st' v hn h' m w cargs hr hf hca
      · exact fn_sound hmix hcall haf h' hr hf hca
    obtain ⟨m', w', cv, s, hv, ⟨fn, c, q1, q2, q3⟩, q4⟩ := key
    refine ⟨m', w', cv, s, hv, fun w1 => MuLone.run_callFunc_enter q1 q3 q2 ⟨cargs⟩ w1, fun fr0 cs => ?_⟩
    obtain ⟨fr, p1, p2, p3⟩ := q4 (fr0 :: cs)
    exact p1.trans (.one (step_leave_returned p3))
theorem callN_ok (hmix : P.follows .mixedOrders = true) (hC : CallsOk P) : ∀ n, CallOk P (callN P n)
  | 0 => fun f args st v st' h => by cases h
  | n + 1 => fun f args st v st' h m w cf cargs hr hf hcf hca => by
    have h' : callV P (callN P n) f args st = some (v, st') := h
    unfold callV at h'
    split at h'
    · rename_i f first cap
      obtain ⟨first⟩ := first
      obtain ⟨cap⟩ := cap
      simp only [conc] at hcf
      split at hcf
      · rename_i cfirst ccap g1 g2
        cases hcf
        obtain ⟨m', w', cv, s, hv, q1, q2⟩ := callO_ok hmix hC (callN_ok hmix hC n) (callN_af n) h' hr hf (concL_append (concL_append g1 hca) g2)
        refine ⟨m', w', cv, s, hv, .enter f ⟨cfirst ++ cargs ++ ccap⟩, _, ?_, .inl ⟨_, _, rfl, rfl⟩, q2⟩
        simpa [Deferred.ofValue, invoke] using q1 w
      · cases hcf
    · rename_i l first cap
      obtain ⟨first⟩ := first
      obtain ⟨cap⟩ := cap
      match first, cap, hcf with
      | [], [], hcf =>
        simp only [conc, Option.map_eq_some_iff] at hcf
        obtain ⟨x, hx, rfl⟩ := hcf
        obtain ⟨m', w', cv, s, hv, f, tmps, a, b, q1, q2⟩ := yield_sound hmix (callN_ok hmix hC n) (callN_af n) h' hr hf hx (by simpa using hca)
        refine ⟨m', w', cv, s, hv, _, _, ?_, .inr ⟨_, _, _, _, _, rfl, rfl⟩, q2⟩
        simpa [Deferred.ofValue, invoke] using q1
      | [], _ :: _, hcf => simp [conc] at hcf
      | _ :: _, _, hcf => simp [conc] at hcf
    · rename_i nm first cap
      obtain ⟨first⟩ := first
      obtain ⟨cap⟩ := cap
      simp only [conc] at hcf
      split at hcf
      · rename_i cfirst ccap g1 g2
        cases hcf
        have hcc := concL_append g1 hca
        unfold methV at h'
        split at h'
        · rename_i t z rest e
          obtain ⟨g, hg, h2⟩ := ob_some h'
          simp only at e
          rw [e] at hcc
          obtain ⟨c0, cr, k1, k2, k3⟩ := concL_cons hcc
          simp only [conc, Option.map_eq_some_iff] at k1
          obtain ⟨z', hz', rfl⟩ := k1
          obtain ⟨m', w', cv, s, hv, q1, q2⟩ := callO_ok hmix hC (callN_ok hmix hC n) (callN_af n) h2 hr hf (concL_cons' hz' k2)
          refine ⟨m', w', cv, s, hv, .enter g ⟨z' :: cr⟩, _, ?_, .inl ⟨_, _, rfl, rfl⟩, q2⟩
          have ea : (⟨cfirst⟩ : Array Value) ++ ⟨cargs⟩ = ⟨.iface t z' :: cr⟩ := by
            apply Array.ext'
            simpa using k3
          have ex : (⟨.iface t z' :: cr⟩ : Array Value).extract 1 (cr.length + 1) = ⟨cr⟩ := by
            apply Array.ext'
            simp
          have hm := method_of hg (w := w) z'
          have hq := q1 w
          simp [Deferred.ofValue, invoke, ea, callMethod, ex, hm, hq]
        · cases h'
      · cases hcf
    · cases h'

/-- THE EVALUATOR IS RIGHT: what it answers is what the function answers, whatever is drawn; nothing that was there turns -/
theorem run_sound (hmix : P.follows .mixedOrders = true) (hC : CallsOk P) {f : FuncId} {args : List Value} {st st' : St} {v : Value} (h : run P f args st = some (v, st')) {m : Map} {w : World} {cargs : List Value} (hr : Rel P m st w) (hf : Free m st.nxt st'.nxt) (ha : concL m args = some cargs) :
    ∃ m' w' cv, Step P m st w m' st' w' ∧ conc m' v = some cv ∧ (∃ fn c, P.funcs[f]? = some fn ∧ fn.body = some c ∧ (fn.name == "runtime.NumGoroutine") = false) ∧ ∀ cs, ∃ fr, Steps P (lone (Frame.enter P f ⟨cargs⟩ .normal) cs w) (lone fr cs w') ∧ fr.fn = f ∧ fr.leaving P w' (.returned cv) :=
  fn_sound hmix (callN_ok hmix hC 999) (callN_af 999) h hr hf ha
end Go.Ev
