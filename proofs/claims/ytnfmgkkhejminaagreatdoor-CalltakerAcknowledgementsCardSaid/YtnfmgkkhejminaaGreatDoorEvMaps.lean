/-
  A part of the proof that the evaluator answers what the model answers, for every program that follows mixed orders; no other condition.
-/
import Derived.Test.YtnfmgkkhejminaaGreatDoorEvStore
namespace Go.Ev
set_option linter.unusedSectionVars false
variable [OTab] [OVal]
variable {P : Program} {m : Map} {ρ : Operand → Value} {o : Oper} {v : Value} {st : St} {w : World}

theorem set_obj {b : Nat} {x : M} {k0 k : Blk} {obj0 obj : Obj} (h : Rel P m st w) (hb : m b = some x) (hk0 : st.mem.get b = some k0)
    (_hw : w.heap[x.blk]? = some obj0) (hr : ∀ w' : World, w'.heap[x.blk]? = some obj → BlkRel m k x w') : Step P m st w m (st.setB b k) { w with heap := w.heap.setIfInBounds x.blk obj } := by
  have hlt : x.blk < w.heap.size := h.inb b x hb
  refine set_step (vo := some k) h hb hk0 (fun B hB => ?_) (by simp) rfl rfl rfl (fun q e => ?_)
  · simp [Array.getElem?_setIfInBounds_ne (Ne.symm hB)]
  · cases e
    refine hr _ ?_
    simp [Array.getElem?_setIfInBounds_self_of_lt hlt]

theorem concE_modify {k ck u cu : Value} (hk : conc m k = some ck) (hu : conc m u = some cu) : ∀ (es ces : List MapEntry) (i : Nat), concE m es = some ces →
    concE m (es.modify i fun e => { e with key := k, val := u }) = some (ces.modify i fun e => { e with key := ck, val := cu })
  | [], _, i, h => by simp [concE] at h; subst h; simp [concE]
  | e :: es, _, i, h => by
    obtain ⟨a, b, r, h1, h2, h3, rfl⟩ := concE_cons h
    cases i with
    | zero => simp [concE, hk, hu, h3]
    | succ i => simp [concE, h1, h2, concE_modify hk hu es r i h3]
theorem concE_append : ∀ {es ces fs cfs : List MapEntry}, concE m es = some ces → concE m fs = some cfs → concE m (es ++ fs) = some (ces ++ cfs)
  | [], _, _, _, h, h' => by simp [concE] at h; subst h; simpa using h'
  | e :: es, _, _, _, h, h' => by
    obtain ⟨a, b, r, h1, h2, h3, rfl⟩ := concE_cons h
    simp [concE, h1, h2, concE_append h3 h']
theorem concE_erase : ∀ {es ces : List MapEntry} (i : Nat), concE m es = some ces → concE m (es.eraseIdx i) = some (ces.eraseIdx i)
  | [], _, i, h => by simp [concE] at h; subst h; simp [concE]
  | e :: es, _, i, h => by
    obtain ⟨a, b, r, h1, h2, h3, rfl⟩ := concE_cons h
    cases i with
    | zero => simpa using h3
    | succ i => simp [concE, h1, h2, concE_erase i h3]
theorem concE_get : ∀ {es ces : List MapEntry} {i : Nat} {e : MapEntry}, concE m es = some ces → es[i]? = some e → ∃ k u, conc m e.key = some k ∧ conc m e.val = some u ∧ ces[i]? = some { key := k, val := u, born := e.born }
  | [], _, _, _, _, h => by simp at h
  | a :: es, _, i, e, hc, h => by
    obtain ⟨k, u, r, h1, h2, h3, rfl⟩ := concE_cons hc
    cases i with
    | zero => simp at h; subst h; exact ⟨k, u, h1, h2, by simp⟩
    | succ i => obtain ⟨k', u', g1, g2, g3⟩ := concE_get h3 (by simpa using h); exact ⟨k', u', g1, g2, by simpa using g3⟩

theorem eqS_true {k k' : Value} (hk : (∃ q n, k = .int q n) ∨ (∃ s, k = .string s) ∨ (∃ b, k = .bool b)) (h : eqS k k' = some true) : k' = k ∧ Instr.sameBits 10000 k' k = true := by
  rcases hk with ⟨q, n, rfl⟩ | ⟨s, rfl⟩ | ⟨b, rfl⟩
  · cases k' with
    | int q' n' =>
      simp only [eqS] at h
      split at h
      · rename_i e
        subst e
        have h' := Option.some.inj h
        rw [eqI_eq] at h'
        have : n = n' := by simpa using h'
        subst this
        exact ⟨rfl, by simp [Instr.sameBits]⟩
      · cases h
    | _ => simp [eqS] at h
  · cases k' with
    | string s' =>
      simp only [eqS] at h
      have h' := Option.some.inj h
      have h2 : s.data.toList = s'.data.toList := by simpa using h'
      have : s = s' := by
        obtain ⟨⟨a⟩⟩ := s
        obtain ⟨⟨b⟩⟩ := s'
        simp at h2
        subst h2
        rfl
      subst this
      exact ⟨rfl, by simp only [Instr.sameBits]; rw [← data_beq]; simp⟩
    | _ => simp [eqS] at h
  · cases k' with
    | bool s' =>
      simp only [eqS] at h
      have h' := Option.some.inj h
      have : b = s' := by simpa using h'
      subst this
      exact ⟨rfl, by simp [Instr.sameBits]⟩
    | _ => simp [eqS] at h

theorem updV_sound (h : Rel P m st w) {t : TypeId} {um uk uv cm ck cv : Value} {st' : St} (hm : conc m um = some cm) (hk : conc m uk = some ck) (hv : conc m uv = some cv) (hs : updV P st t um uk uv = some st') :
    ∃ w', Step P m st w m st' w' ∧ (Instr.mapUpdate t cm ck cv).run P w = .ok () w' := by
  unfold updV at hs
  obtain ⟨kv, hkv, h1⟩ := ob_some hs
  obtain ⟨hd, h2⟩ := gd_some h1
  obtain ⟨ek, d, hu, hkd⟩ := keyDesc_some hd hk
  subst ek
  have hum := mapKV_some hkv
  split at h2
  · rename_i r
    obtain ⟨es, clock, g1, h3⟩ := mapAt_some h2
    obtain ⟨f, hf, h4⟩ := ob_some h3
    obtain ⟨x, hx, rfl⟩ := conc_map_some hm
    obtain ⟨x0, ces, g3, g4⟩ := rel_map h hx g1
    obtain ⟨cr, hfn, hcr⟩ := findM_sound hk hkd es ces 0 f g4 hf
    have hrun := run_findKey (P := P) hu hfn w
    have hchk := run_checkKey (P := P) (e := false) hu hkd w
    have og := run_getObj (P := P) g3 (by intros; simp)
    have os := fun ob' => run_setObj (P := P) (ob' := ob') g3 (by intros; simp)
    rcases hcr with ⟨rfl, rfl⟩ | ⟨j, u, cu, rfl, rfl, _, _, hj, ke, hke, heq⟩
    · simp only at h4
      cases h4
      refine ⟨_, set_obj h hx g1 g3 (obj := .map ⟨ces ++ [{ key := ck, val := cv, born := clock }]⟩ (clock + 1)) (fun w' hw => ⟨x0, _, hw, concE_append g4 (by simp [concE, hk, hv])⟩), ?_⟩
      simp [Instr.mapUpdate, run_underlying hum, og, hchk, hrun, os]
    · simp only at h4
      cases h4
      have hke' : es[j]? = some ke := by simpa using hke
      obtain ⟨kk, uu, q1, q2, q3⟩ := concE_get g4 hke'
      have hkshape : (∃ q n, ck = .int q n) ∨ (∃ s, ck = .string s) ∨ (∃ b, ck = .bool b) := by
        rcases hkd with ⟨_, q, n, _, e⟩ | ⟨s, _, e⟩ | ⟨b, _, e⟩
        · exact .inl ⟨q, n, e⟩
        · exact .inr (.inl ⟨s, e⟩)
        · exact .inr (.inr ⟨b, e⟩)
      obtain ⟨ekk, hsb⟩ := eqS_true hkshape (eqS_conc hk q1 heq)
      subst ekk
      refine ⟨_, set_obj h hx g1 g3 (obj := .map ⟨ces.modify j fun e => { e with key := kk, val := cv }⟩ clock) (fun w' hw => ⟨x0, _, hw, concE_modify hk hv es ces j g4⟩), ?_⟩
      simp [Instr.mapUpdate, run_underlying hum, og, hchk, hrun, q3, Instr.keyThatStays, hsb, os]
  · cases h2

theorem sound_upd (h : Rel P m st w) {t : TypeId} {mo ko xo : Operand} {um uk uv : Value} {st' : St} (ho : o.op = .mapUpdate t mo ko xo ∨ o.op = .insert t mo ko xo) (hm : conc m um = some (ρ mo)) (hk : conc m uk = some (ρ ko)) (hv : conc m uv = some (ρ xo))
    (hs : retU (updV P st t um uk uv) = some (v, st')) : GenDoes P m st w ρ o v st' := by
  obtain ⟨st1, h1, h2⟩ := ob_some hs
  cases h2
  obtain ⟨w', r1, r2⟩ := updV_sound h hm hk hv h1
  exact ⟨m, w', undef, r1, conc_undef m, .inr ⟨by rcases ho with ho | ho <;> simp [execOp, ho, r2], rfl⟩⟩

theorem sound_delete (h : Rel P m st w) {A : T Value} {c : Call} {st' : St} (ho : o.op = .call c) (hc : c.callee = .builtin .delete) (ha : ∀ x ∈ c.args.toList, conc m (ev A x) = some (ρ x))
    (hs : delV P st c.argTypes.toList (c.args.toList.map (ev A)) = some (v, st')) : GenDoes P m st w ρ o v st' := by
  obtain ⟨callee, args, argTypes⟩ := c
  obtain ⟨args⟩ := args
  obtain ⟨argTypes⟩ := argTypes
  simp only at hc ha hs
  subst hc
  unfold delV at hs
  cases argTypes with
  | nil => simp at hs
  | cons t ts =>
    match args, ha, hs with
    | [], _, hs => simp at hs
    | [_], _, hs => simp at hs
    | a :: b :: rest, ha, hs =>
      simp only [List.map_cons] at hs
      obtain ⟨kv, hkv, h1⟩ := ob_some hs
      obtain ⟨hd, h2⟩ := gd_some h1
      have hb := ha b (by simp)
      have hav := ha a (by simp)
      obtain ⟨ek, d, hu, hkd⟩ := keyDesc_some hd hb
      have hkc : conc m (ev A b) = some (ev A b) := by rw [← ek]; exact ek ▸ hb
      have hum := mapKV_some hkv
      have hchk := fun e => run_checkKey (P := P) (e := e) hu hkd w
      have hn : (Value.tuple #[] : Value) = undef := rfl
      split at h2
      · rename_i e
        cases h2
        rw [e] at hav
        have ex : ρ a = .map none := by simpa [conc] using hav.symm
        refine ⟨m, w, undef, Step.refl h, conc_undef m, .inl ?_⟩
        simp [execOp, ho, resolve, invoke, builtin, Builtin.delete_, run_underlying hum, ex, ek, hchk, hn]
      · rename_i r e
        rw [e] at hav
        obtain ⟨es, clock, g1, h3⟩ := mapAt_some h2
        obtain ⟨f, hf, h4⟩ := ob_some h3
        obtain ⟨x, hx, ex⟩ := conc_map_some hav
        obtain ⟨x0, ces, g3, g4⟩ := rel_map h hx g1
        obtain ⟨cr, hfn, hcr⟩ := findM_sound hkc hkd es ces 0 f g4 hf
        have hrun := run_findKey (P := P) hu hfn w
        have og := run_getObj (P := P) g3 (by intros; simp)
        have os := fun ob' => run_setObj (P := P) (ob' := ob') g3 (by intros; simp)
        rcases hcr with ⟨rfl, rfl⟩ | ⟨j, u, cu, rfl, rfl, _, _, hj, ke, hke, heq⟩
        · simp only at h4
          cases h4
          refine ⟨m, _, undef, set_obj h hx g1 g3 (obj := .map ⟨ces⟩ clock) (fun w' hw => ⟨x0, _, hw, g4⟩), conc_undef m, .inl ?_⟩
          simp [execOp, ho, resolve, invoke, builtin, Builtin.delete_, run_underlying hum, ex, ek, hchk, og, hrun, os, hn]
        · simp only at h4
          cases h4
          have hlt : j < ces.length := by have := concE_len g4; omega
          refine ⟨m, _, undef, set_obj h hx g1 g3 (obj := .map ⟨ces.eraseIdx j⟩ clock) (fun w' hw => ⟨x0, _, hw, concE_erase j g4⟩), conc_undef m, .inl ?_⟩
          simp [execOp, ho, resolve, invoke, builtin, Builtin.delete_, run_underlying hum, ex, ek, hchk, og, hrun, os, hn]
      · cases h2

/-- one new block, by an operation of class 3 -/
theorem gen_push {k : Blk} {obj : Obj} {lim : Nat} (h : Rel P m st w) {u : Value} {f : Nat → Value} (hn : m st.nxt = none)
    (hv : ∀ m' : Map, Sub m m' → m' st.nxt = some ⟨w.heap.size, 0, lim⟩ → conc m' u = some (f w.heap.size) ∧ ∀ w' : World, w'.heap[w.heap.size]? = some obj → BlkRel m' k ⟨w.heap.size, 0, lim⟩ w')
    {w' : World} (hw : w'.heap = w.heap.push obj) (hos : w'.os = w.os) (ht : w'.tape = w.tape) (hu : w'.output = w.output)
    (hrun : (execOp ρ o).run P w = .ok (.value (f w.heap.size)) w') : GenDoes P m st w ρ o u (st.push k) := by
  obtain ⟨h1, h2⟩ := hv (upd m st.nxt ⟨w.heap.size, 0, lim⟩) (sub_upd _ hn) (upd_same _ _ _)
  exact ⟨_, w', f w.heap.size, push_step (o := obj) h hn hw hos ht hu (h2 w' (by rw [hw]; simp)), h1, .inl hrun⟩

theorem sound_range (h : Rel P m st w) {t : TypeId} {x : Operand} {u : Value} {st' : St} (hf : Free m st.nxt st'.nxt) (ho : o.op = .range t x) (hx : conc m u = some (ρ x)) (hs : rangeV P st t u = some (v, st')) : GenDoes P m st w ρ o v st' := by
  unfold rangeV at hs
  split at hs
  · rename_i kv hkv
    cases hs
    have hum := mapKV_some hkv
    have ex : ρ x = .map none := by simpa [conc] using hx.symm
    refine gen_push (lim := 0) (obj := .mapIter none 0 #[] 0) (f := fun B => .pointer (some ⟨B, 0, none⟩)) h (hf _ (Nat.le_refl _) (Nat.lt_succ_self _)) (fun m' hs hb => ⟨?_, fun w' hw => ⟨rfl, none, hw, rfl⟩⟩) (w' := w.alloc (.mapIter none 0 #[] 0)) rfl rfl rfl rfl ?_
    · simp [conc, hb]
    · simp [execOp, ho, Instr.range, run_underlying hum, ex]
  · rename_i kv r hkv
    obtain ⟨es, clock, g1, h3⟩ := mapAt_some hs
    cases h3
    have hum := mapKV_some hkv
    obtain ⟨y, hy, ex⟩ := conc_map_some hx
    obtain ⟨x0, ces, g3, g4⟩ := rel_map h hy g1
    have og := run_getObj (P := P) g3 (by intros; simp)
    refine gen_push (lim := 0) (obj := .mapIter (some y.blk) clock #[] clock) (f := fun B => .pointer (some ⟨B, 0, none⟩)) h (hf _ (Nat.le_refl _) (Nat.lt_succ_self _)) (fun m' hs hb => ⟨?_, fun w' hw => ⟨rfl, some y.blk, hw, by simp [iterOf, hs _ _ hy]⟩⟩) (w' := w.alloc (.mapIter (some y.blk) clock #[] clock)) rfl rfl rfl rfl ?_
    · simp [conc, hb]
    · simp [execOp, ho, Instr.range, run_underlying hum, ex, og]
  · cases hs

theorem concE_filter {p : MapEntry → Bool} (hp : ∀ e e' : MapEntry, e.born = e'.born → p e = p e') : ∀ {es ces : List MapEntry}, concE m es = some ces → concE m (es.filter p) = some (ces.filter p)
  | [], _, h => by simp [concE] at h; subst h; simp [concE]
  | e :: es, _, h => by
    obtain ⟨a, b, r, h1, h2, h3, rfl⟩ := concE_cons h
    have hpe : p { key := a, val := b, born := e.born } = p e := hp _ _ rfl
    by_cases hh : p e
    · rw [List.filter_cons_of_pos hh, List.filter_cons_of_pos (by rw [hpe]; exact hh)]
      simp [concE, h1, h2, concE_filter hp h3]
    · rw [List.filter_cons_of_neg hh, List.filter_cons_of_neg (by rw [hpe]; exact hh)]
      exact concE_filter hp h3
theorem concE_all {p : MapEntry → Bool} (hp : ∀ e e' : MapEntry, e.born = e'.born → p e = p e') : ∀ {es ces : List MapEntry}, concE m es = some ces → ces.all p = es.all p
  | [], _, h => by simp [concE] at h; subst h; rfl
  | e :: es, _, h => by
    obtain ⟨a, b, r, h1, h2, h3, rfl⟩ := concE_cons h
    have hpe : p { key := a, val := b, born := e.born } = p e := hp _ _ rfl
    simp [hpe, concE_all hp h3]

theorem sound_next (h : Rel P m st w) {it : Operand} {s : Bool} {u : Value} {st' : St} (ho : o.op = .next it s) (hx : conc m u = some (ρ it)) (hs : nextV st u s = some (v, st')) : GenDoes P m st w ρ o v st' := by
  unfold nextV at hs
  split at hs
  · cases hs
  · rename_i hst
    have hst' : s = false := by simpa using hst
    subst hst'
    split at hs
    · rename_i r
      obtain ⟨b, hb, h1⟩ := ob_some hs
      obtain ⟨x, hx1, _, ex⟩ := conc_pointer hx
      simp only [Nat.add_zero] at ex
      split at h1
      · cases h1
        obtain ⟨x0, cmp, g1, g2⟩ := rel_iter h hx1 hb
        simp [iterOf] at g2
        subst g2
        have o1 := run_getObj (P := P) g1 (by intros; simp)
        rw [x0] at ex
        refine ⟨m, w, .tuple ⟨[.bool false]⟩, Step.refl h, conc_tuple' (concL_cons' (conc_bool m _) (concL_nil m)), .inl ?_⟩
        simp [execOp, ho, Instr.next, ex, o1]
      · rename_i mp since seen last
        obtain ⟨x0, cmp, g1, g2⟩ := rel_iter h hx1 hb
        obtain ⟨es, clock, hm, h3⟩ := mapAt_some h1
        simp only [iterOf, Option.map_eq_some_iff] at g2
        obtain ⟨y, hy, rfl⟩ := g2
        obtain ⟨_, ces, g3, g4⟩ := rel_map h hy hm
        have o1 := run_getObj (P := P) g1 (by intros; simp)
        have o2 := run_getObj (P := P) g3 (by intros; simp)
        rw [x0] at ex
        unfold nextM at h3
        split at h3
        · cases h3
        · rename_i hgone
          have hlen := concE_len g4
          have hempty : ces.isEmpty = es.isEmpty := by cases ces <;> cases es <;> simp_all
          have hall := concE_all (p := fun e => decide (e.born ≥ last)) (fun e e' he => by simp [he]) g4
          have hgone' : (!(Array.mk seen).isEmpty && !(Array.mk ces).isEmpty && (Array.mk ces).all fun e => decide (e.born ≥ last)) = false := by
            have e1 : (Array.mk seen).isEmpty = seen.isEmpty := by cases seen <;> rfl
            have e2 : (Array.mk ces).isEmpty = ces.isEmpty := by cases ces <;> rfl
            have e3 : ((Array.mk ces).all fun e => decide (e.born ≥ last)) = ces.all fun e => decide (e.born ≥ last) := by simp
            rw [e1, e2, e3, hempty, hall]
            simpa using hgone
          have hfil := concE_filter (p := fun e => !seen.contains e.born) (fun e e' he => by simp [he]) g4
          have hfilA : (Array.mk ces).filter (fun e => !(Array.mk seen).contains e.born) = ⟨ces.filter fun e => !seen.contains e.born⟩ := by
            apply Array.ext'; simp
          split at h3
          · rename_i hf
            cases h3
            rw [hf] at hfil
            have hcf : ces.filter (fun e => !seen.contains e.born) = [] := by simpa [concE] using hfil.symm
            rw [hcf] at hfilA
            refine ⟨m, w, .tuple ⟨[.bool false]⟩, Step.refl h, conc_tuple' (concL_cons' (conc_bool m _) (concL_nil m)), .inl ?_⟩
            simp only [execOp, ho, Instr.next, ex, Sem.run_bind, o1, Result.andThen_ok, o2, hgone', hfilA]
            simp [choose, Sem.run, Question.forced]
          · rename_i e hf
            split at h3
            · rename_i hborn
              cases h3
              rw [hf] at hfil
              obtain ⟨ck, cu, r', q1, q2, q3, q4⟩ := concE_cons hfil
              simp [concE] at q3
              subst q3
              rw [q4] at hfilA
              refine ⟨m, _, .tuple ⟨[.bool true, ck, cu]⟩, set_obj h hx1 hb g1 (obj := .mapIter (some y.blk) since ⟨seen ++ [e.born]⟩ clock) (fun w' hw => ⟨x0, some y.blk, hw, by simp [iterOf, hy]⟩),
                conc_tuple' (concL_cons' (conc_bool m _) (concL_cons' q1 (concL_cons' q2 (concL_nil m)))), .inl ?_⟩
              have os := fun ob' => run_setObj (P := P) (ob' := ob') g1 (by intros; simp)
              have hnb : ¬ (e.born ≥ since) := by omega
              simp only [execOp, ho, Instr.next, ex, Sem.run_bind, o1, Result.andThen_ok, o2, hgone', hfilA]
              simp [choose, Sem.run, Question.forced, hborn, hnb, os]
            · cases h3
          · cases h3
      · cases h1
    · cases hs
end Go.Ev
