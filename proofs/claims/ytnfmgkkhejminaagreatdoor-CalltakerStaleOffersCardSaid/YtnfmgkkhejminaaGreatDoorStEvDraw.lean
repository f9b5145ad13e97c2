/-
  A part of the proof that the evaluator answers what the model answers, for every program that follows mixed orders; no other condition.
-/
import Derived.Test.YtnfmgkkhejminaaGreatDoorStEvText
namespace Go.Ev
set_option linter.unusedSectionVars false
variable [OTab] [OVal]
variable {P : Program} {E : Env} {ops : Array Oper} {A : Nat → T Value} {S : Nat → St} {V : Nat → Value} {W L : Nat → Bool} {N : Nat}

theorem rel_low {m : Map} {st : St} {w : World} {k : Nat} (h : Rel P m st w) : Rel P m (setLow st k) w := ⟨h.glob, h.inb, h.blks, h.dist, h.wf, h.kept.same, h.kept.off⟩
theorem Rel.ext {m : Map} {st st' : St} {w : World} (h : Rel P m st w) (hs : ∀ b x k, m b = some x → st'.mem.get b = some k → st.mem.get b = some k) (hw : ∀ b, st'.nxt ≤ b → st'.mem.get b = none) : Rel P m st' w :=
  ⟨h.glob, h.inb, fun b x k hb hk => h.blks b x k hb (hs b x k hb hk), fun b c x y kb kc hbc hb hc hkb hkc => h.dist b c x y kb kc hbc hb hc (hs b x kb hb hkb) (hs c y kc hc hkc), hw, h.kept.same, fun b x k hb hk => h.kept.off b x k hb (hs b x k hb hk)⟩
theorem CK.ext {n0 : Nat} {w0 : World} {m : Map} {st st' : St} {w : World} (h : CK n0 w0 m st w) (hs : ∀ b x k, m b = some x → st'.mem.get b = some k → st.mem.get b = some k) : CK n0 w0 m st' w :=
  ⟨fun b x k hb hk => h.1 b x k hb (hs b x k hb hk), h.2⟩

/-- what one operation of the text does to the memory -/
theorem Trace.step (haf : CallAF E.call) (T : Trace P E ops 0 [] [] A S V W L) {s : Nat} {o : Oper} (ho : ops[s]? = some o) :
    (S s).nxt ≤ (S (s + 1)).nxt ∧ (S (s + 1)).low ≤ (S s).low ∧ (L s = false → ∀ b, b < (S s).nxt → (S (s + 1)).mem.get b = (S s).mem.get b) ∧ ((∀ b, (S s).nxt ≤ b → (S s).mem.get b = none) → ∀ b, (S (s + 1)).nxt ≤ b → (S (s + 1)).mem.get b = none) := by
  cases hW : W s with
  | false =>
    obtain ⟨_, h2, _⟩ := T.skip s o (Nat.zero_le _) ho hW
    rw [h2]
    exact ⟨Nat.le_refl _, Nat.le_refl _, fun _ _ _ => rfl, fun h => h⟩
  | true =>
    obtain ⟨st1, h1, h2, h3, _⟩ := T.run s o (Nat.zero_le _) ho hW
    have af := evOp_af haf h1
    rw [h2]
    refine ⟨af.nxt, by show minN _ _ ≤ _; rw [minN_eq]; omega, fun hL b hb => ?_, af.wf⟩
    have hge : ¬ st1.low < (S s).nxt := fun hh => by rw [h3.2 hh] at hL; cases hL
    exact af.keep b hb (by omega)

theorem evOp_still {st st1 : St} {o : Op} {B : T Value} {v : Value} (h : evOp P o E B st = some (v, st1)) (hc : cls P o = 0 ∨ cls P o = 2) : st1 = st := by
  unfold evOp at h
  rcases hc with hc | hc <;> rw [hc] at h
  · rw [byCls_0] at h; obtain ⟨u, _, h2⟩ := ob_some h; cases h2; rfl
  · rw [byCls_2] at h; obtain ⟨u, _, h2⟩ := ob_some h; cases h2; rfl

theorem Trace.still (T : Trace P E ops 0 [] [] A S V W L) {s : Nat} {o : Oper} (ho : ops[s]? = some o) (h : W s = false ∨ cls P o.op = 0 ∨ cls P o.op = 2) : L s = false ∧ (S (s + 1)).mem = (S s).mem ∧ (S (s + 1)).nxt = (S s).nxt := by
  cases hW : W s with
  | false =>
    obtain ⟨_, h2, h3⟩ := T.skip s o (Nat.zero_le _) ho hW
    rw [h2]
    exact ⟨h3, rfl, rfl⟩
  | true =>
    obtain ⟨st1, h1, h2, h3, _⟩ := T.run s o (Nat.zero_le _) ho hW
    have hc : cls P o.op = 0 ∨ cls P o.op = 2 := by
      rcases h with h | h
      · rw [hW] at h; cases h
      · exact h
    have e := evOp_still h1 hc
    subst e
    rw [h2]
    refine ⟨?_, rfl, rfl⟩
    cases hL : L s with
    | false => rfl
    | true => have := h3.1 hL; simp [setLow] at this

structure Ctx (P : Program) (E : Env) (ops : Array Oper) (N : Nat) (A : Nat → T Value) (S : Nat → St) (V : Nat → Value) (W L : Nat → Bool) (m0 : Map) : Prop where
  call : CallOk P E.call
  af : CallAF E.call
  tr : Trace P E ops 0 [] [] A S V W L
  ok : ∀ o ∈ ops.toList, operOk P N o = true
  back : backB ops.toList = true
  apart : apartB ops = true
  free : Free m0 (S 0).nxt (S ops.size).nxt
  wf0 : ∀ b, (S 0).nxt ≤ b → (S 0).mem.get b = none

section
variable {m0 : Map} (C : Ctx P E ops N A S V W L m0)
include C

theorem Ctx.oper {s : Nat} (h : s < ops.size) : ∃ o, ops[s]? = some o := ⟨ops[s], Array.getElem?_eq_getElem h⟩
theorem Ctx.okAt {s : Nat} {o : Oper} (ho : ops[s]? = some o) : operOk P N o = true := C.ok o (by
  obtain ⟨h, e⟩ := Array.getElem?_eq_some_iff.1 ho
  rw [← e]; simp)

theorem Ctx.mono : ∀ (d s : Nat), s + d ≤ ops.size → (S s).nxt ≤ (S (s + d)).nxt ∧ (S (s + d)).low ≤ (S s).low
  | 0, s, _ => ⟨Nat.le_refl _, Nat.le_refl _⟩
  | d + 1, s, h => by
    obtain ⟨h1, h2⟩ := Ctx.mono d s (by omega)
    obtain ⟨o, ho⟩ := C.oper (s := s + d) (by omega)
    obtain ⟨h3, h4, _⟩ := C.tr.step C.af ho
    exact ⟨Nat.le_trans h1 h3, Nat.le_trans h4 h2⟩
theorem Ctx.nxt_le {s t : Nat} (h : s ≤ t) (ht : t ≤ ops.size) : (S s).nxt ≤ (S t).nxt := by
  have := (C.mono (t - s) s (by omega)).1
  rwa [show s + (t - s) = t from by omega] at this
theorem Ctx.low_le {s t : Nat} (h : s ≤ t) (ht : t ≤ ops.size) : (S t).low ≤ (S s).low := by
  have := (C.mono (t - s) s (by omega)).2
  rwa [show s + (t - s) = t from by omega] at this
theorem Ctx.wf : ∀ (s : Nat), s ≤ ops.size → ∀ b, (S s).nxt ≤ b → (S s).mem.get b = none
  | 0, _ => C.wf0
  | s + 1, h => by
    obtain ⟨o, ho⟩ := C.oper (s := s) (by omega)
    exact (C.tr.step C.af ho).2.2.2 (Ctx.wf s (by omega))
theorem Ctx.keep1 : ∀ (d s : Nat), s + d ≤ ops.size → (∀ j, s ≤ j → j < s + d → L j = false) → ∀ b, b < (S s).nxt → (S (s + d)).mem.get b = (S s).mem.get b
  | 0, s, _, _, b, _ => rfl
  | d + 1, s, h, hq, b, hb => by
    have h1 := Ctx.keep1 d s (by omega) (fun j h1 h2 => hq j h1 (by omega)) b hb
    obtain ⟨o, ho⟩ := C.oper (s := s + d) (by omega)
    have h2 := (C.tr.step C.af ho).2.2.1 (hq _ (by omega) (by omega)) b (Nat.lt_of_lt_of_le hb (C.nxt_le (by omega) (by omega)))
    exact h2.trans h1
theorem Ctx.keep {s t : Nat} (h : s ≤ t) (ht : t ≤ ops.size) (hq : ∀ j, s ≤ j → j < t → L j = false) : ∀ b, b < (S s).nxt → (S t).mem.get b = (S s).mem.get b := by
  have := C.keep1 (t - s) s (by omega) (fun j h1 h2 => hq j h1 (by omega))
  rwa [show s + (t - s) = t from by omega] at this
theorem Ctx.alive {s : Nat} (hs : s ≤ ops.size) {b : Nat} {k : Blk} (hk : (S s).mem.get b = some k) : b < (S s).nxt := by
  rcases Nat.lt_or_ge b (S s).nxt with h | h
  · exact h
  · rw [C.wf s hs b h] at hk; cases hk

/-! ### temporaries -/
theorem Ctx.text (t : Nat) : ∀ i, i ≤ ops.size → (∃ j, j < i ∧ dstOf ops j = some t ∧ (∀ k, j < k → k < i → dstOf ops k ≠ some t) ∧ tg (A i) t = V j) ∨ ((∀ k, k < i → dstOf ops k ≠ some t) ∧ tg (A i) t = tg (A 0) t)
  | 0, _ => .inr ⟨fun k hk => by omega, rfl⟩
  | i + 1, h => by
    obtain ⟨o, ho⟩ := C.oper (s := i) (by omega)
    have hd : dstOf ops i = o.dst := by simp [dstOf, ho]
    rw [C.tr.put i o (Nat.zero_le _) ho, tg_putA]
    by_cases e : o.dst = some t
    · rw [if_pos e]
      exact .inl ⟨i, by omega, by rw [hd]; exact e, fun k h1 h2 => by omega, rfl⟩
    · rw [if_neg e]
      rcases Ctx.text t i (by omega) with ⟨j, h1, h2, h3, h4⟩ | ⟨h1, h2⟩
      · refine .inl ⟨j, by omega, h2, fun k h5 h6 => ?_, h4⟩
        by_cases ek : k = i
        · subst ek; rw [hd]; exact e
        · exact h3 k h5 (by omega)
      · refine .inr ⟨fun k hk => ?_, h2⟩
        by_cases ek : k = i
        · subst ek; rw [hd]; exact e
        · exact h1 k (by omega)
end

def X (listed : Array Bool) (j : Nat) : Prop := listed.getD j false = true

def LastW (ops : Array Oper) (A : Nat → T Value) (V : Nat → Value) (listed : Array Bool) (cur : T Value) (t : Nat) : Prop :=
  (∃ j, X listed j ∧ dstOf ops j = some t ∧ (∀ k, X listed k → dstOf ops k = some t → k ≤ j) ∧ tg cur t = V j) ∨ ((∀ k, X listed k → dstOf ops k ≠ some t) ∧ tg cur t = tg (A 0) t)

structure Inv (P : Program) (ops : Array Oper) (A : Nat → T Value) (S : Nat → St) (V : Nat → Value) (L : Nat → Bool) (m0 : Map) (w0 : World) (listed : Array Bool) (m : Map) (w : World) (cur : T Value) (tmps : Array Value) (b e : Nat) : Prop where
  lsize : listed.size = ops.size
  closed : ∀ i, X listed i → ∀ j, (ancAt ops i).testBit j = true → X listed j
  be : b ≤ e
  en : e ≤ ops.size
  mid : ∀ j, b ≤ j → j < e → L j = false
  done : ∀ j, j < e → L j = true → X listed j
  notyet : ∀ j, e ≤ j → j < ops.size → L j = true → ¬ X listed j
  last : b = 0 ∨ ∃ k, b = k + 1 ∧ L k = true ∧ X listed k
  stop : e < ops.size → L e = true
  rel : Rel P m (S e) w
  sub : Sub m0 m
  newm : ∀ c x, m c = some x → m0 c = some x ∨ ∃ j, j < ops.size ∧ X listed j ∧ (S j).nxt ≤ c ∧ c < (S (j + 1)).nxt
  os : w.os = w0.os
  tape : w.tape = w0.tape
  output : w.output = w0.output
  size : w0.heap.size ≤ w.heap.size
  chk : ∀ n0 w00, n0 ≤ (S 0).nxt → n0 ≤ (S ops.size).low → CK n0 w00 m0 (S 0) w0 → CK n0 w00 m (S e) w
  tm : TmRel m cur tmps
  lastw : ∀ t, LastW ops A V listed cur t

theorem X_set {listed : Array Bool} {i j : Nat} (hi : i < listed.size) : X (listed.setIfInBounds i true) j ↔ j = i ∨ X listed j := by
  unfold X
  by_cases e : i = j
  · subst e; simp [hi]
  · rw [getD_set_ne false e]
    constructor
    · exact .inr
    · rintro (h | h)
      · exact absurd h.symm e
      · exact h
theorem X_lt {listed : Array Bool} {j : Nat} (h : X listed j) : j < listed.size := by
  unfold X at h
  rcases Nat.lt_or_ge j listed.size with h' | h'
  · exact h'
  · simp [Array.getElem?_eq_none h'] at h

section
variable {m0 : Map} {w0 : World} {listed : Array Bool} {m : Map} {w : World} {cur : T Value} {tmps : Array Value} {b e : Nat} (C : Ctx P E ops N A S V W L m0) (I : Inv P ops A S V L m0 w0 listed m w cur tmps b e)
include C I

/-- an operation that is ready: what it must wait for is done, it itself is not -/
theorem ready_spec {i : Nat} (h : i ∈ Region.ready .any ops listed) : ∃ o, ops[i]? = some o ∧ i < ops.size ∧ ¬ X listed i ∧ ∀ j, (ancAt ops i).testBit j = true → X listed j := by
  obtain ⟨h0, o, ho, hall⟩ := mem_ready.1 h
  have hlt : i < ops.size := (Array.getElem?_eq_some_iff.1 ho).1
  refine ⟨o, ho, hlt, ?_, fun j hj => ?_⟩
  · unfold X
    have : i < listed.size := by rw [I.lsize]; exact hlt
    simp [this] at h0 ⊢
    exact h0
  · obtain ⟨ed, he, hb, h1⟩ := anc_step C.back ho hj
    have hx : X listed ed.on := hall ed he hb
    rcases h1 with rfl | h1
    · exact hx
    · exact I.closed _ hx j h1

/-- what a ready operation looks at is what it looks at in the text's order -/
theorem cur_eq {i : Nat} {o : Oper} (ho : ops[i]? = some o) (hi : i < ops.size) (hx : ¬ X listed i) (hanc : ∀ j, (ancAt ops i).testBit j = true → X listed j) {t : Nat} (ht : t ∈ o.looksAt ops) : tg cur t = tg (A i) t := by
  -- a writer of t ahead of i has been done; one behind it has not
  have hbefore : ∀ j, j < i → dstOf ops j = some t → X listed j := fun j hj hd => by
    obtain ⟨oj, hoj⟩ := C.oper (s := j) (by omega)
    rcases apart_or C.apart hj ho hoj with h | h
    · have := (Oper.apart_spec h).1 t (by simpa [dstOf, hoj] using hd)
      exact absurd ht this
    · exact hanc j h
  have hafter : ∀ k, X listed k → dstOf ops k = some t → k < i := fun k hk hd => by
    rcases Nat.lt_trichotomy k i with h | h | h
    · exact h
    · subst h; exact absurd hk hx
    · have hkn := X_lt hk
      rw [I.lsize] at hkn
      obtain ⟨ok, hok⟩ := C.oper (s := k) hkn
      rcases apart_or C.apart h hok ho with h1 | h1
      · have := (Oper.apart_spec h1).2.2 t (by simpa [dstOf, hok] using hd)
        exact absurd ht this
      · exact absurd (I.closed k hk i h1) hx
  rcases C.text t i (by omega) with ⟨j, h1, h2, h3, h4⟩ | ⟨h1, h2⟩
  · rcases I.lastw t with ⟨k, g1, g2, g3, g4⟩ | ⟨g1, _⟩
    · have hki := hafter k g1 g2
      have hjk : j ≤ k := g3 j (hbefore j h1 h2) h2
      have : j = k := by
        rcases Nat.lt_or_ge j k with hh | hh
        · exact absurd g2 (h3 k hh hki)
        · omega
      subst this
      rw [g4, h4]
    · exact absurd h2 (g1 j (hbefore j h1 h2))
  · rcases I.lastw t with ⟨k, g1, g2, _, _⟩ | ⟨_, g2⟩
    · exact absurd g2 (h1 k (hafter k g1 g2))
    · rw [g2, h2]

theorem opers_conc {i : Nat} {o : Oper} (ho : ops[i]? = some o) (hi : i < ops.size) (hx : ¬ X listed i) (hanc : ∀ j, (ancAt ops i).testBit j = true → X listed j) : ∀ x ∈ o.op.operands.toList, conc m (ev (A i) x) = some (evT tmps x) := by
  intro x hxm
  have h1 := oper_conc I.rel I.tm (C.okAt ho) x hxm
  have : ev (A i) x = ev cur x := by
    cases x with
    | tmp t =>
      have ht : t ∈ o.looksAt ops := by
        unfold Oper.looksAt
        rw [List.mem_append]
        exact .inl (List.mem_filterMap.2 ⟨.tmp t, hxm, rfl⟩)
      exact (cur_eq C I ho hi hx hanc ht).symm
    | _ => rfl
  rw [this]
  exact h1

theorem wanted_now {i : Nat} {o : Oper} (ho : ops[i]? = some o) (hi : i < ops.size) (hx : ¬ X listed i) (hanc : ∀ j, (ancAt ops i).testBit j = true → X listed j) : Region.wanted o (yielded ops tmps) = W i := by
  rw [← wanted_eq I.tm ops o, C.tr.want i o (Nat.zero_le _) ho]
  cases hg : o.guard with
  | none => rfl
  | some p =>
    obtain ⟨g, want⟩ := p
    show wantedD cur want (dstOf ops g) = wantedD (A i) want (dstOf ops g)
    cases hd : dstOf ops g with
    | none => rfl
    | some d =>
      show isB (tg cur d) want = isB (tg (A i) d) want
      rw [cur_eq C I ho hi hx hanc (t := d) (by
        unfold Oper.looksAt
        rw [List.mem_append]
        refine .inr ?_
        rw [hg]
        have : (ops[g]?).bind (·.dst) = some d := hd
        simp [this])]

/-- the temporaries behind operation i -/
theorem lastw_set {i : Nat} {o : Oper} (ho : ops[i]? = some o) (hi : i < ops.size) (hx : ¬ X listed i) : ∀ t, LastW ops A V (listed.setIfInBounds i true) (putA cur o.dst (V i)) t := by
  intro t
  have hil : i < listed.size := by rw [I.lsize]; exact hi
  have hd : dstOf ops i = o.dst := by simp [dstOf, ho]
  by_cases ht : o.dst = some t
  · refine .inl ⟨i, (X_set hil).2 (.inl rfl), by rw [hd]; exact ht, fun k hk hdk => ?_, by rw [tg_putA, if_pos ht]⟩
    rcases (X_set hil).1 hk with rfl | hk
    · exact Nat.le_refl _
    · rcases Nat.lt_or_ge i k with h | h
      · have hkn := X_lt hk
        rw [I.lsize] at hkn
        obtain ⟨ok, hok⟩ := C.oper (s := k) hkn
        rcases apart_or C.apart h hok ho with h1 | h1
        · exact absurd (by simpa [dstOf, hok] using hdk) ((Oper.apart_spec h1).2.1 t ht)
        · exact absurd (I.closed k hk i h1) hx
      · exact h
  · unfold LastW
    rw [tg_putA, if_neg ht]
    rcases I.lastw t with ⟨j, g1, g2, g3, g4⟩ | ⟨g1, g2⟩
    · refine .inl ⟨j, (X_set hil).2 (.inr g1), g2, fun k hk hdk => ?_, g4⟩
      rcases (X_set hil).1 hk with rfl | hk
      · rw [hd] at hdk; exact absurd hdk ht
      · exact g3 k hk hdk
    · refine .inr ⟨fun k hk => ?_, g2⟩
      rcases (X_set hil).1 hk with rfl | hk
      · rw [hd]; exact ht
      · exact g1 k hk

/-- an operation that leaves the memory as it is -/
theorem inv_still {i : Nat} {o : Oper} {cv : Value} (htm : tmps.size = N) (ho : ops[i]? = some o) (hi : i < ops.size) (hx : ¬ X listed i) (hanc : ∀ j, (ancAt ops i).testBit j = true → X listed j) (hs : W i = false ∨ cls P o.op = 0 ∨ cls P o.op = 2) (hv : conc m (V i) = some cv) :
    Inv P ops A S V L m0 w0 (listed.setIfInBounds i true) m w (putA cur o.dst (V i)) (putC tmps o.dst cv) b e := by
  have hil : i < listed.size := by rw [I.lsize]; exact hi
  obtain ⟨hL, _, hn⟩ := C.tr.still ho hs
  refine ⟨by simp [I.lsize], ?_, I.be, I.en, I.mid, fun j h1 h2 => (X_set hil).2 (.inr (I.done j h1 h2)), ?_, ?_, I.stop, I.rel, I.sub, ?_, I.os, I.tape, I.output, I.size, I.chk, I.tm.put htm (oper_dst (C.okAt ho)) hv, lastw_set C I ho hi hx⟩
  · intro j hj k hk
    rcases (X_set hil).1 hj with rfl | hj
    · exact (X_set hil).2 (.inr (hanc k hk))
    · exact (X_set hil).2 (.inr (I.closed j hj k hk))
  · intro j h1 h2 h3 h4
    rcases (X_set hil).1 h4 with rfl | h4
    · rw [hL] at h3; cases h3
    · exact I.notyet j h1 h2 h3 h4
  · rcases I.last with h | ⟨k, h1, h2, h3⟩
    · exact .inl h
    · exact .inr ⟨k, h1, h2, (X_set hil).2 (.inr h3)⟩
  · intro c x hc
    rcases I.newm c x hc with h | ⟨j, h1, h2, h3⟩
    · exact .inl h
    · exact .inr ⟨j, h1, (X_set hil).2 (.inr h2), h3⟩

/-- the memory of an earlier point of the same stretch -/
theorem rel_at {s : Nat} (h1 : b ≤ s) (h2 : s ≤ e) : Rel P m (S s) w :=
  I.rel.ext (fun c x k _ hk => by
    have hlt := C.alive (Nat.le_trans h2 I.en) hk
    rw [C.keep h2 I.en (fun j g1 g2 => I.mid j (by omega) g2) c hlt]
    exact hk) (C.wf s (Nat.le_trans h2 I.en))
theorem ck_at {s n0 : Nat} {w00 : World} (h1 : b ≤ s) (h2 : s ≤ e) (h : CK n0 w00 m (S e) w) : CK n0 w00 m (S s) w :=
  h.ext (fun c x k _ hk => by
    have hlt := C.alive (Nat.le_trans h2 I.en) hk
    rw [C.keep h2 I.en (fun j g1 g2 => I.mid j (by omega) g2) c hlt]
    exact hk)

theorem free_at {i : Nat} (hi : i < ops.size) (hx : ¬ X listed i) : Free m (S i).nxt (S (i + 1)).nxt := by
  intro c h1 h2
  cases hc : m c with
  | none => rfl
  | some x =>
    rcases I.newm c x hc with h | ⟨j, hj, h3, h4, h5⟩
    · have g1 := C.nxt_le (Nat.zero_le i) (by omega)
      have g2 := C.nxt_le (s := i + 1) (t := ops.size) (by omega) (Nat.le_refl _)
      rw [C.free c (by omega) (by omega)] at h; cases h
    · rcases Nat.lt_trichotomy i j with h | h | h
      · have := C.nxt_le (s := i + 1) (t := j) (by omega) (by omega); omega
      · subst h; exact absurd h3 hx
      · have := C.nxt_le (s := j + 1) (t := i) (by omega) (by omega); omega
end
end Go.Ev

namespace Go.Ev
set_option linter.unusedSectionVars false
variable [OTab] [OVal]
variable {P : Program} {E : Env} {ops : Array Oper} {A : Nat → T Value} {S : Nat → St} {V : Nat → Value} {W L : Nat → Bool} {N : Nat}

theorem next_loud (L : Nat → Bool) (n : Nat) : ∀ d s, s + d = n → ∃ e, s ≤ e ∧ e ≤ n ∧ (∀ j, s ≤ j → j < e → L j = false) ∧ (e < n → L e = true)
  | 0, s, h => ⟨s, Nat.le_refl _, by omega, fun j h1 h2 => by omega, fun h => by omega⟩
  | d + 1, s, h => by
    cases hL : L s with
    | true => exact ⟨s, Nat.le_refl _, by omega, fun j h1 h2 => by omega, fun _ => hL⟩
    | false =>
      obtain ⟨e, h1, h2, h3, h4⟩ := next_loud L n d (s + 1) (by omega)
      refine ⟨e, by omega, h2, fun j h5 h6 => ?_, h4⟩
      by_cases ej : j = s
      · subst ej; exact hL
      · exact h3 j (by omega) h6

section
variable {m0 : Map} {w0 : World} {listed : Array Bool} {m : Map} {w : World} {cur : T Value} {tmps : Array Value} {b e : Nat} (C : Ctx P E ops N A S V W L m0) (I : Inv P ops A S V L m0 w0 listed m w cur tmps b e)
include C I

theorem inv_quiet {i : Nat} {o : Oper} {cv : Value} {m' : Map} {w' : World} {st1 : St} (htm : tmps.size = N) (ho : ops[i]? = some o) (hi : i < ops.size) (hx : ¬ X listed i) (hanc : ∀ j, (ancAt ops i).testBit j = true → X listed j)
    (hb : b ≤ i) (he : i < e) (hS : S (i + 1) = setLow st1 (minN st1.low (S i).low)) (hq : (S i).nxt ≤ st1.low) (hL : L i = false) (hstep : Step P m (setLow (S i) (S i).nxt) w m' st1 w') (hv : conc m' (V i) = some cv) :
    Inv P ops A S V L m0 w0 (listed.setIfInBounds i true) m' w' (putA cur o.dst (V i)) (putC tmps o.dst cv) b e := by
  have hil : i < listed.size := by rw [I.lsize]; exact hi
  have hmem1 : ∀ c, (S (i + 1)).mem.get c = st1.mem.get c := fun c => by rw [hS]; rfl
  have hnxt1 : (S (i + 1)).nxt = st1.nxt := by rw [hS]; rfl
  -- what was there has not turned
  have hck : CK (S i).nxt w m' st1 w' := hstep.chk _ w (Nat.le_refl _) hq ⟨fun c x k _ hk hc => by
    have hk' : (S i).mem.get c = some k := hk
    have := C.alive (by omega) hk'
    omega, Nat.le_refl _, fun _ _ => rfl⟩
  have hheap : ∀ B, B < w.heap.size → w'.heap[B]? = w.heap[B]? := hck.2.2
  -- a block that lives at the end of the stretch: an old one, or one of this operation
  have hcase : ∀ c x k, m' c = some x → (S e).mem.get c = some k → (m c = some x) ∨ (m c = none ∧ st1.mem.get c = some k ∧ (S i).nxt ≤ c) := fun c x k hc hk => by
    cases hmc : m c with
    | some y =>
      have := hstep.sub c y hmc
      rw [hc] at this
      cases this
      exact .inl rfl
    | none =>
      rcases hstep.newm c x hc with h | ⟨h1, h2⟩
      · rw [hmc] at h; cases h
      · refine .inr ⟨rfl, ?_, h1⟩
        rw [← hmem1, ← C.keep (s := i + 1) (t := e) (by omega) I.en (fun j g1 g2 => I.mid j (by omega) g2) c (by rw [hnxt1]; exact h2)]
        exact hk
  refine ⟨by simp [I.lsize], ?_, I.be, I.en, I.mid, fun j h1 h2 => (X_set hil).2 (.inr (I.done j h1 h2)), ?_, ?_, I.stop, ?_, I.sub.trans hstep.sub, ?_, hstep.os.trans I.os, hstep.tape.trans I.tape, hstep.output.trans I.output, Nat.le_trans I.size hstep.size, ?_, (I.tm.mono hstep.sub).put htm (oper_dst (C.okAt ho)) hv, lastw_set C I ho hi hx⟩
  · intro j hj k hk
    rcases (X_set hil).1 hj with rfl | hj
    · exact (X_set hil).2 (.inr (hanc k hk))
    · exact (X_set hil).2 (.inr (I.closed j hj k hk))
  · intro j h1 h2 h3 h4
    rcases (X_set hil).1 h4 with rfl | h4
    · rw [hL] at h3; cases h3
    · exact I.notyet j h1 h2 h3 h4
  · rcases I.last with h | ⟨k, h1, h2, h3⟩
    · exact .inl h
    · exact .inr ⟨k, h1, h2, (X_set hil).2 (.inr h3)⟩
  · refine ⟨hstep.rel.glob, hstep.rel.inb, fun c x k hc hk => ?_, fun c d x y kc kd hcd hc hd hkc hkd => ?_, C.wf e I.en, hstep.rel.kept.same, fun c x k hc hk hr => (hcase c x k hc hk).elim (fun h => I.rel.kept.off c x k h hk hr) (fun h => hstep.rel.kept.off c x k hc h.2.1 hr)⟩
    · rcases hcase c x k hc hk with h | ⟨_, h, _⟩
      · exact ((I.rel.blks c x k h hk).mono hstep.sub).heap (hheap _ (I.rel.inb c x h))
      · exact hstep.rel.blks c x k hc h
    · rcases hcase c x kc hc hkc with h | ⟨_, h, g⟩
      · rcases hcase d y kd hd hkd with h' | ⟨_, h', g'⟩
        · exact I.rel.dist c d x y kc kd hcd h h' hkc hkd
        · have h1 := hck.1 d y kd hd h' g'
          have h2 := I.rel.inb c x h
          omega
      · rcases hcase d y kd hd hkd with h' | ⟨_, h', g'⟩
        · have h1 := hck.1 c x kc hc h g
          have h2 := I.rel.inb d y h'
          omega
        · exact hstep.rel.dist c d x y kc kd hcd hc hd h h'
  · intro c x hc
    rcases hstep.newm c x hc with h | ⟨h1, h2⟩
    · rcases I.newm c x h with h | ⟨j, h1, h2, h3⟩
      · exact .inl h
      · exact .inr ⟨j, h1, (X_set hil).2 (.inr h2), h3⟩
    · exact .inr ⟨i, hi, (X_set hil).2 (.inl rfl), h1, by rw [hnxt1]; exact h2⟩
  · intro n0 w00 hn0 hl hc
    have h1 := I.chk n0 w00 hn0 hl hc
    have h2 := ck_at C I hb (Nat.le_of_lt he) h1
    have hni := C.nxt_le (Nat.zero_le i) (by omega : i ≤ ops.size)
    have h3 := hstep.chk n0 w00 (Nat.le_trans hn0 hni) (by omega) h2
    refine ⟨fun c x k hc' hk hn => ?_, h3.2⟩
    rcases hcase c x k hc' hk with h | ⟨_, h, _⟩
    · exact h1.1 c x k h hk hn
    · exact h3.1 c x k hc' h hn

theorem inv_loud {i : Nat} {o : Oper} {cv : Value} {m' : Map} {w' : World} {st1 : St} (htm : tmps.size = N) (ho : ops[i]? = some o) (hi : i < ops.size) (hx : ¬ X listed i) (hanc : ∀ j, (ancAt ops i).testBit j = true → X listed j)
    (he : e = i) (hS : S (i + 1) = setLow st1 (minN st1.low (S i).low)) (hL : L i = true) (hstep : Step P m (setLow (S i) (S i).nxt) w m' st1 w') (hv : conc m' (V i) = some cv) :
    ∃ e', Inv P ops A S V L m0 w0 (listed.setIfInBounds i true) m' w' (putA cur o.dst (V i)) (putC tmps o.dst cv) (i + 1) e' := by
  subst he
  have hil : e < listed.size := by rw [I.lsize]; exact hi
  have hmem1 : ∀ c, (S (e + 1)).mem.get c = st1.mem.get c := fun c => by rw [hS]; rfl
  have hnxt1 : (S (e + 1)).nxt = st1.nxt := by rw [hS]; rfl
  obtain ⟨e', h1, h2, h3, h4⟩ := next_loud L ops.size (ops.size - (e + 1)) (e + 1) (by omega)
  have hin : ∀ c x k, m' c = some x → (S e').mem.get c = some k → st1.mem.get c = some k := fun c x k hc hk => by
    have hlt : c < (S (e + 1)).nxt := by
      rcases Nat.lt_or_ge c (S (e + 1)).nxt with h | h
      · exact h
      · exfalso
        have hce := C.alive h2 hk
        have hen := C.nxt_le h2 (Nat.le_refl _)
        rcases hstep.newm c x hc with g | ⟨_, g⟩
        · rcases I.newm c x g with g | ⟨j, g1, g2, g3, g4⟩
          · have g5 := C.nxt_le (Nat.zero_le (e + 1)) (by omega)
            rw [C.free c (by omega) (by omega)] at g; cases g
          · rcases Nat.lt_or_ge e j with gj | gj
            · obtain ⟨oj, hoj⟩ := C.oper (s := j) g1
              cases hW : W j with
              | false => have := (C.tr.still hoj (.inl hW)).2.2; omega
              | true =>
                obtain ⟨_, _, _, _, hcl⟩ := C.tr.run j oj (Nat.zero_le _) hoj hW
                rcases hcl with hcl | ⟨_, hcl⟩
                · have := (C.tr.still hoj (.inr (.inl hcl))).2.2; omega
                · exact hx (I.closed j g2 e (hcl e (Nat.zero_le _) gj hL))
            · have := C.nxt_le (s := j + 1) (t := e + 1) (by omega) (by omega); omega
        · omega
    rw [← hmem1, ← C.keep h1 h2 h3 c hlt]
    exact hk
  refine ⟨e', by simp [I.lsize], ?_, h1, h2, h3, ?_, ?_, .inr ⟨e, rfl, hL, (X_set hil).2 (.inl rfl)⟩, h4, hstep.rel.ext hin (C.wf e' h2), I.sub.trans hstep.sub, ?_, hstep.os.trans I.os, hstep.tape.trans I.tape, hstep.output.trans I.output, Nat.le_trans I.size hstep.size, ?_, (I.tm.mono hstep.sub).put htm (oper_dst (C.okAt ho)) hv, lastw_set C I ho hi hx⟩
  · intro j hj k hk
    rcases (X_set hil).1 hj with rfl | hj
    · exact (X_set hil).2 (.inr (hanc k hk))
    · exact (X_set hil).2 (.inr (I.closed j hj k hk))
  · intro j hj hLj
    rcases Nat.lt_trichotomy j e with g | g | g
    · exact (X_set hil).2 (.inr (I.done j g hLj))
    · exact (X_set hil).2 (.inl g)
    · rw [h3 j (by omega) hj] at hLj; cases hLj
  · intro j g1 g2 g3 g4
    rcases (X_set hil).1 g4 with rfl | g4
    · omega
    · exact I.notyet j (by omega) g2 g3 g4
  · intro c x hc
    rcases hstep.newm c x hc with h | ⟨g1, g2⟩
    · rcases I.newm c x h with h | ⟨j, g1, g2, g3⟩
      · exact .inl h
      · exact .inr ⟨j, g1, (X_set hil).2 (.inr g2), g3⟩
    · exact .inr ⟨e, hi, (X_set hil).2 (.inl rfl), g1, by rw [hnxt1]; exact g2⟩
  · intro n0 w00 hn0 hl hc
    have g1 := I.chk n0 w00 hn0 hl hc
    have hni := C.nxt_le (Nat.zero_le e) (by omega : e ≤ ops.size)
    have hlow := C.low_le (s := e + 1) (t := ops.size) (by omega) (Nat.le_refl _)
    have hlow1 : (S (e + 1)).low = minN st1.low (S e).low := by rw [hS]; rfl
    rw [hlow1, minN_eq] at hlow
    exact (hstep.chk n0 w00 (Nat.le_trans hn0 hni) (by omega) g1).ext hin

/-- one operation of the drawn order -/
theorem inv_step (cs : List Frame) {i : Nat} (htm : tmps.size = N) (h : i ∈ Region.ready .any ops listed) {fr : Frame} {rest : List Nat} {k : List Item} (hm : fr.mode = .run) (hft : fr.tmps = tmps) (ht : fr.todo = .inRegion ops (i :: rest) :: k) :
    ∃ m' w' cur' tmps' b' e', Inv P ops A S V L m0 w0 (listed.setIfInBounds i true) m' w' cur' tmps' b' e' ∧ tmps'.size = N ∧ Steps P (lone fr cs w) (lone { fr with tmps := tmps', todo := .inRegion ops rest :: k } cs w') := by
  obtain ⟨o, ho, hi, hx, hanc⟩ := ready_spec C I h
  have hwn := wanted_now C I ho hi hx hanc
  have hops := opers_conc C I ho hi hx hanc
  have hdst : (ops[i]?).bind (·.dst) = o.dst := by rw [ho]; rfl
  subst hft
  cases hW : W i with
  | false =>
    obtain ⟨hV, _, _⟩ := C.tr.skip i o (Nat.zero_le _) ho hW
    have hv : conc m (V i) = some undef := by rw [hV]; exact conc_undef m
    refine ⟨m, w, _, _, b, e, inv_still C I htm ho hi hx hanc (.inl hW) hv, by rw [putC_size]; exact htm, .one ?_⟩
    have hstep := st_opSkip (P := P) (cs := cs) (w := w) hm ht (by simp [ho, hwn, hW])
    rw [finish_eq ht, hdst] at hstep
    exact hstep
  | true =>
    obtain ⟨st1, h1, hS, hLiff, hcl⟩ := C.tr.run i o (Nat.zero_le _) ho hW
    have hnd := evOp_noDefer h1
    have fin : ∀ (m' : Map) (w' : World) (cv : Value) (b' e' : Nat), Inv P ops A S V L m0 w0 (listed.setIfInBounds i true) m' w' (putA cur o.dst (V i)) (putC fr.tmps o.dst cv) b' e' → Performs P o (evT fr.tmps) fr cs w cv w' →
        ∃ m' w' cur' tmps' b' e', Inv P ops A S V L m0 w0 (listed.setIfInBounds i true) m' w' cur' tmps' b' e' ∧ tmps'.size = N ∧ Steps P (lone fr cs w) (lone { fr with tmps := tmps', todo := .inRegion ops rest :: k } cs w') := fun m' w' cv b' e' hI hp => by
      refine ⟨m', w', _, _, b', e', hI, by rw [putC_size]; exact htm, ?_⟩
      have := hp ops i rest k hm ht ho (by rw [hwn, hW]) (eval_evT fr)
      rw [finish_eq ht, hdst] at this
      exact this
    by_cases c0 : cls P o.op = 0
    · have h1' := h1
      unfold evOp at h1'
      rw [c0, byCls_0] at h1'
      obtain ⟨u, g1, g2⟩ := ob_some h1'
      have hu : u = V i := by cases g2; rfl
      rw [hu] at g1
      obtain ⟨cv, q1, q2⟩ := pure_sound (P := P) (m := m) (ρ := evT fr.tmps) hops g1
      exact fin m w cv b e (inv_still C I htm ho hi hx hanc (.inr (.inl c0)) q1) (performs_value hnd (.inl (q2 w)))
    · have hlouds : ∀ j, j < i → L j = true → X listed j := fun j hj hLj => by
        rcases hcl with hcl | ⟨_, hcl⟩
        · exact absurd hcl c0
        · exact hanc j (hcl j (Nat.zero_le _) hj hLj)
      have hie : L i = false → i < e := fun hL => by
        rcases Nat.lt_or_ge i e with g | g
        · exact g
        · have hen : e < ops.size := by omega
          have hLe := I.stop hen
          have hne : e ≠ i := fun q => by rw [q, hL] at hLe; cases hLe
          exact absurd (hlouds e (by omega) hLe) (I.notyet e (Nat.le_refl _) hen hLe)
      -- behind a later write: the operation is looked at again
      have hlate : L i = false → i < b → b = 0 ∨ (∃ u, cls P o.op = 2 ∧ evRead o.op P (A i) (S b) = some u ∧ u = V i) := fun hL hib => by
        rcases I.last with g | ⟨kk, g1, g2, g3⟩
        · exact .inl g
        · have hkk : kk < ops.size := by have := X_lt g3; rwa [I.lsize] at this
          obtain ⟨ok, hok⟩ := C.oper (s := kk) hkk
          have hne : kk ≠ i := fun q => by rw [q, hL] at g2; cases g2
          have hre := C.tr.redo i kk o ok (Nat.zero_le _) (by omega) ho hok hW hL g2 c0
          unfold again at hre
          rw [Bool.or_eq_true] at hre
          rcases hre with hre | hre
          · exact absurd (I.closed kk g3 i hre) hx
          · rw [Bool.and_eq_true] at hre
            obtain ⟨q1, q2⟩ := hre
            have q1' : cls P o.op = 2 := by simpa using q1
            subst g1
            cases hev : evRead o.op P (A i) (S (kk + 1)) with
            | none => simp [hev] at q2
            | some u =>
              simp only [hev] at q2
              exact .inr ⟨u, q1', rfl, veq_eq q2⟩
      by_cases c2 : cls P o.op = 2
      · have hL := (C.tr.still ho (.inr (.inr c2))).1
        have hlt := hie hL
        have h1' := h1
        unfold evOp at h1'
        rw [c2, byCls_2] at h1'
        obtain ⟨u, g1, g2⟩ := ob_some h1'
        have hu : u = V i := by cases g2; rfl
        rw [hu] at g1
        have hread : ∃ cv, conc m (V i) = some cv ∧ (execOp (evT fr.tmps) o).run P w = .ok (.value cv) w := by
          rcases Nat.lt_or_ge i b with hib | hib
          · rcases hlate hL hib with g | ⟨u', _, q2, q3⟩
            · omega
            · rw [q3] at q2
              exact read_sound (P := P) (rel_at C I (Nat.le_refl b) I.be) c2 hops q2
          · exact read_sound (P := P) (rel_low (rel_at C I hib (Nat.le_of_lt hlt))) c2 hops g1
        obtain ⟨cv, q1, q2⟩ := hread
        exact fin m w cv b e (inv_still C I htm ho hi hx hanc (.inr (.inr c2)) q1) (performs_value hnd (.inl q2))
      · have hnx : (S (i + 1)).nxt = st1.nxt := by rw [hS]; rfl
        have hfree : Free m (setLow (S i) (S i).nxt).nxt st1.nxt := by rw [← hnx]; exact free_at C I hi hx
        cases hL : L i with
        | false =>
          have hlt := hie hL
          have hib : b ≤ i := by
            rcases Nat.lt_or_ge i b with g | g
            · rcases hlate hL g with g' | ⟨_, q, _⟩
              · omega
              · exact absurd q c2
            · exact g
          have hq : (S i).nxt ≤ st1.low := by
            rcases Nat.lt_or_ge st1.low (S i).nxt with g | g
            · rw [hLiff.2 g] at hL; cases hL
            · exact g
          obtain ⟨m', w', cv, q1, q2, q3⟩ := op_sound fr cs (ρ := evT fr.tmps) C.call (rel_low (k := (S i).nxt) (rel_at C I hib (Nat.le_of_lt hlt))) hfree hops h1
          exact fin m' w' cv b e (inv_quiet C I htm ho hi hx hanc hib hlt hS hq hL q1 q2) q3
        | true =>
          have hei : e = i := by
            rcases Nat.lt_trichotomy e i with g | g | g
            · have hLe := I.stop (by omega)
              exact absurd (hlouds e g hLe) (I.notyet e (Nat.le_refl _) (by omega) hLe)
            · exact g
            · exact absurd (I.done i g hL) hx
          obtain ⟨m', w', cv, q1, q2, q3⟩ := op_sound fr cs (ρ := evT fr.tmps) C.call (rel_low (k := (S i).nxt) (rel_at C I (s := i) (by rw [← hei]; exact I.be) (by omega))) hfree hops h1
          obtain ⟨e', hI⟩ := inv_loud C I htm ho hi hx hanc hei hS hL q1 q2
          exact fin m' w' cv (i + 1) e' hI q3
end

/-- if something is left, something is ready -/
theorem some_ready {listed : Array Bool} (hb : backB ops.toList = true) (hs : listed.size = ops.size) (h : 0 < left listed ops.size) : ∃ i, i ∈ Region.ready .any ops listed := by
  have hex : ∃ i, i < ops.size ∧ listed.getD i true = false := by
    unfold left at h
    obtain ⟨i, hi, hp⟩ := List.countP_pos_iff.1 h
    exact ⟨i, by simpa using hi, by simpa using hp⟩
  -- the first that is left
  have hmin : ∀ n i, i < n → i < ops.size → listed.getD i true = false → ∃ j, j < ops.size ∧ listed.getD j true = false ∧ ∀ k, k < j → listed.getD k true = true := by
    intro n
    induction n with
    | zero => intro i h; omega
    | succ n ih =>
      intro i hin hi hf
      by_cases hall : ∃ k, k < i ∧ listed.getD k true = false
      · obtain ⟨k, hk, hkf⟩ := hall
        exact ih k (by omega) (by omega) hkf
      · refine ⟨i, hi, hf, fun k hk => ?_⟩
        cases hkk : listed.getD k true with
        | true => rfl
        | false => exact absurd ⟨k, hk, hkk⟩ hall
  obtain ⟨i, hi, hf⟩ := hex
  obtain ⟨j, hj, hjf, hjm⟩ := hmin (i + 1) i (by omega) hi hf
  refine ⟨j, mem_ready.2 ⟨hjf, ops[j], Array.getElem?_eq_getElem hj, fun e he hbi => ?_⟩⟩
  have hlt : e.on < j := by
    unfold backB at hb
    rw [List.all_eq_true] at hb
    have hm : (ops[j], j) ∈ ops.toList.zipIdx := by rw [List.mem_zipIdx_iff_getElem?]; simp [hj]
    have := hb _ hm
    rw [List.all_eq_true] at this
    have := this e (by simpa using he)
    simp only [hbi, Bool.not_true, Bool.false_or, decide_eq_true_eq] at this
    exact this
  have h1 := hjm e.on hlt
  have h2 : e.on < listed.size := by omega
  simp [h2] at h1 ⊢
  exact h1

theorem all_done {listed : Array Bool} (hs : listed.size = ops.size) (h : left listed ops.size = 0) : ∀ j, j < ops.size → X listed j := by
  intro j hj
  unfold left at h
  rw [List.countP_eq_zero] at h
  have := h j (by simpa using hj)
  have hjl : j < listed.size := by omega
  unfold X
  simp [hjl] at this ⊢
  exact this

theorem draws_run {m0 : Map} {w0 : World} (C : Ctx P E ops N A S V W L m0) : ∀ (fuel t : Nat) (listed : Array Bool) (m : Map) (w : World) (cur : T Value) (fr : Frame) (b e : Nat) (k : List Item) (cs : List Frame),
    Inv P ops A S V L m0 w0 listed m w cur fr.tmps b e → fr.tmps.size = N → left listed ops.size ≤ fuel → fr.mode = .run → fr.todo = .inRegion ops (Region.linearise.go .any ops fuel t listed []) :: k →
    ∃ listed' m' w' cur' tmps' b' e', Inv P ops A S V L m0 w0 listed' m' w' cur' tmps' b' e' ∧ tmps'.size = N ∧ left listed' ops.size = 0 ∧ Steps P (lone fr cs w) (lone { fr with tmps := tmps', todo := k } cs w')
  | 0, t, listed, m, w, cur, fr, b, e, k, cs, I, htm, hl, hm, ht => by
    have ht' : fr.todo = .inRegion ops [] :: k := by simpa [Region.linearise.go] using ht
    exact ⟨listed, m, w, cur, fr.tmps, b, e, I, htm, by omega, .one (st_regionEnd hm ht')⟩
  | fuel + 1, t, listed, m, w, cur, fr, b, e, k, cs, I, htm, hl, hm, ht => by
    have hgo : Region.linearise.go .any ops (fuel + 1) t listed [] = match (Region.ready .any ops listed)[t % (Region.ready .any ops listed).length]? with
      | some i => Region.linearise.go .any ops fuel (t / (Region.ready .any ops listed).length) (listed.setIfInBounds i true) [i]
      | none => [].reverse := rfl
    rw [hgo] at ht
    cases hi : (Region.ready .any ops listed)[t % (Region.ready .any ops listed).length]? with
    | none =>
      have hnil : Region.ready .any ops listed = [] := by
        cases hr : Region.ready .any ops listed with
        | nil => rfl
        | cons x xs =>
          rw [hr] at hi
          have hlt : t % (x :: xs).length < (x :: xs).length := Nat.mod_lt _ (by simp)
          simp at hi
          simp at hlt
          omega
      rw [hi] at ht
      have h0 : left listed ops.size = 0 := by
        rcases Nat.eq_zero_or_pos (left listed ops.size) with h | h
        · exact h
        · obtain ⟨i, hi'⟩ := some_ready C.back I.lsize h
          rw [hnil] at hi'
          simp at hi'
      exact ⟨listed, m, w, cur, fr.tmps, b, e, I, htm, h0, .one (st_regionEnd hm (by simpa using ht))⟩
    | some i =>
      have hmem := List.mem_of_getElem? hi
      rw [hi] at ht
      simp only at ht
      rw [linearise_go_acc, List.reverse_singleton, List.singleton_append] at ht
      obtain ⟨m', w', cur', tmps', b', e', I', htm', hst⟩ := inv_step C I cs htm hmem hm rfl ht
      obtain ⟨o, ho, hin, hx, _⟩ := ready_spec C I hmem
      have hf : listed.getD i true = false := (mem_ready.1 hmem).1
      have hcount := left_set (listed := listed) (i := i) ops.size hf
      rw [if_pos hin] at hcount
      obtain ⟨l2, m2, w2, cur2, tmps2, b2, e2, I2, q1, q2, q3⟩ := draws_run C fuel _ _ m' w' cur' { fr with tmps := tmps', todo := .inRegion ops (Region.linearise.go .any ops fuel (t / (Region.ready .any ops listed).length) (listed.setIfInBounds i true) []) :: k } b' e' k cs I' htm' (by omega) hm rfl
      exact ⟨l2, m2, w2, cur2, tmps2, b2, e2, I2, q1, q2, hst.trans q3⟩

/-- A REGION THAT DRAWS ITS ORDER -/
theorem draws_sound (cs : List Frame) {id : Nat} {A0 : T Value} {st : St} {r : OpsRes} {m : Map} {w : World} {fr : Frame} {k : List Item} (hmix : P.follows .mixedOrders = true) (hcall : CallOk P E.call) (haf : CallAF E.call) (hok : ∀ o ∈ ops.toList, operOk P N o = true) (hd : drawB ops = true)
    (h : evDraws P E ops ops.toList.zipIdx A0 st [] [] = some r) (hr : Rel P m st w) (hf : Free m st.nxt r.st.nxt) (htm : TmRel m A0 fr.tmps) (hts : fr.tmps.size = N) (hm : fr.mode = .run) (ht : fr.todo = .code (.region id ops true) :: k) :
    ∃ m' w' tmps', Step P m st w m' r.st w' ∧ TmRel m' r.A tmps' ∧ tmps'.size = N ∧ Steps P (lone fr cs w) (lone { fr with tmps := tmps', todo := k } cs w') := by
  unfold drawB at hd
  rw [Bool.and_eq_true] at hd
  obtain ⟨A, S, V, W, L, e1, e2, e3, e4, T⟩ := trace_of ops.toList.zipIdx 0 A0 st [] [] r (fun j => by
    simp only [Nat.zero_add, List.getElem?_zipIdx]
    simp) h
  simp only [Nat.zero_add, List.length_zipIdx, Array.length_toList] at e3 e4
  have C : Ctx P E ops N A S V W L m := ⟨hcall, haf, T, hok, hd.1, hd.2, by rw [e2, e4]; exact hf, by rw [e2]; exact hr.wf⟩
  obtain ⟨e0, _, he0, hq0, hs0⟩ := next_loud L ops.size ops.size 0 (by omega)
  have hnoX : ∀ j, ¬ X (Array.replicate ops.size false) j := fun j hj => by
    have := X_lt hj
    unfold X at hj
    simp at this
    simp [this] at hj
  have w1 : World := { w with drawn := w.drawn + 1 }
  have hdrew := Step.drew (w' := { w with drawn := w.drawn + 1 }) hr rfl rfl rfl rfl
  have hmin : ∀ c x k', m c = some x → (S e0).mem.get c = some k' → (S 0).mem.get c = some k' := fun c x k' hc hk => by
    have hlt := C.alive he0 hk
    have hle := C.nxt_le he0 (Nat.le_refl _)
    rcases Nat.lt_or_ge c (S 0).nxt with g | g
    · rw [← C.keep (Nat.zero_le e0) he0 hq0 c g]; exact hk
    · rw [C.free c g (by omega)] at hc; cases hc
  have I : Inv P ops A S V L m { w with drawn := w.drawn + 1 } (Array.replicate ops.size false) m { w with drawn := w.drawn + 1 } A0 fr.tmps 0 e0 := by
    refine ⟨by simp, fun i hi => absurd hi (hnoX i), Nat.zero_le _, he0, hq0, fun j h1 h2 => ?_, fun j _ _ _ => hnoX j, .inl rfl, hs0, ?_, Sub.refl m, fun c x hc => .inl hc, rfl, rfl, rfl, Nat.le_refl _, ?_, htm, fun t => .inr ⟨fun k hk => absurd hk (hnoX k), by rw [e1]⟩⟩
    · rw [hq0 j (Nat.zero_le _) h1] at h2; cases h2
    · refine Rel.ext (st := S 0) ?_ hmin (C.wf e0 he0)
      rw [e2]; exact hdrew.rel
    · intro n0 w00 _ _ hc
      exact hc.ext hmin
  have hstep0 := st_regionDraw (P := P) (cs := cs) (w := w) hm ht
  have hsched : Region.schedule (P.follows .mixedOrders) ops (w.tape w.drawn (.order fr.fn id)) = Region.linearise.go .any ops ops.size (w.tape w.drawn (.order fr.fn id)) (Array.replicate ops.size false) [] := by
    simp [Region.schedule, hmix, Region.linearise]
  simp only [hsched] at hstep0
  have hleft : left (Array.replicate ops.size false) ops.size ≤ ops.size := by
    unfold left
    exact Nat.le_trans List.countP_le_length (by simp)
  obtain ⟨l2, m2, w2, cur2, tmps2, b2, e2', I2, q1, q2, q3⟩ := draws_run C ops.size (w.tape w.drawn (.order fr.fn id)) _ m _ A0 { fr with todo := .inRegion ops (Region.linearise.go .any ops ops.size (w.tape w.drawn (.order fr.fn id)) (Array.replicate ops.size false) []) :: k } 0 e0 k cs I hts hleft hm rfl
  have hall := all_done I2.lsize q2
  have hee : e2' = ops.size := by
    rcases Nat.lt_or_ge e2' ops.size with g | g
    · exact absurd (hall e2' g) (I2.notyet e2' (Nat.le_refl _) g (I2.stop g))
    · have := I2.en; omega
  subst hee
  have hrel := I2.rel
  rw [e4] at hrel
  refine ⟨m2, w2, tmps2, ⟨I2.sub, hrel, I2.os, I2.tape, I2.output, I2.size, ?_, ?_, ?_, ?_⟩, ?_, q1, .head hstep0 q3⟩
  · have := C.nxt_le (Nat.zero_le ops.size) (Nat.le_refl _); rwa [e2, e4] at this
  · have := C.low_le (Nat.zero_le ops.size) (Nat.le_refl _); rwa [e2, e4] at this
  · intro c x hc
    rcases I2.newm c x hc with g | ⟨j, g1, g2, g3, g4⟩
    · exact .inl g
    · refine .inr ⟨?_, ?_⟩
      · have := C.nxt_le (Nat.zero_le j) (by omega); rw [e2] at this; omega
      · have := C.nxt_le (s := j + 1) (t := ops.size) (by omega) (Nat.le_refl _); rw [e4] at this; omega
  · intro n0 w00 hn hl hc
    have := I2.chk n0 w00 (by rw [e2]; exact hn) (by rw [e4]; exact hl) (by rw [e2]; exact hc)
    rw [e4] at this
    exact this
  · -- the temporaries at the end
    intro t
    have : tg r.A t = tg cur2 t := by
      rw [← e3]
      rcases C.text t ops.size (Nat.le_refl _) with ⟨j, h1, h2, h3, h4⟩ | ⟨h1, h2⟩
      · rcases I2.lastw t with ⟨kk, g1, g2, g3, g4⟩ | ⟨g1, _⟩
        · have hjk := g3 j (hall j h1) h2
          have hkn : kk < ops.size := by have := X_lt g1; rwa [I2.lsize] at this
          have : j = kk := by
            rcases Nat.lt_or_ge j kk with hh | hh
            · exact absurd g2 (h3 kk hh hkn)
            · omega
          subst this
          rw [g4, h4]
        · exact absurd h2 (g1 j (hall j h1))
      · rcases I2.lastw t with ⟨kk, g1, g2, _, _⟩ | ⟨_, g2⟩
        · have hkn : kk < ops.size := by have := X_lt g1; rwa [I2.lsize] at this
          exact absurd g2 (h1 kk hkn)
        · rw [g2, h2]
    rw [this]
    exact I2.tm t
end Go.Ev
