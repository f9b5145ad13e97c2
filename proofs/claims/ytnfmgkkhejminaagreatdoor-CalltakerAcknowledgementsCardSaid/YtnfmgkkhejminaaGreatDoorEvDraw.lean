/-
  A part of the proof that the evaluator answers what the model answers, for every program that follows mixed orders; no other condition.
-/
import Derived.Test.YtnfmgkkhejminaaGreatDoorEvAnc
namespace Go.Ev
set_option linter.unusedSectionVars false
variable [OTab] [OVal]
variable {P : Program} {E : Env} {ops : Array Oper} {A : Nat → T Value} {S : Nat → St} {V : Nat → Value} {W L : Nat → Bool} {N : Nat}

theorem rel_low {m : Map} {st : St} {w : World} {k : Nat} (h : Rel P m st w) : Rel P m (setLow st k) w := ⟨h.glob, h.inb, h.blks, h.dist, h.wf⟩
theorem Rel.ext {m : Map} {st st' : St} {w : World} (h : Rel P m st w) (hs : ∀ b x k, m b = some x → st'.mem.get b = some k → st.mem.get b = some k) (hw : ∀ b, st'.nxt ≤ b → st'.mem.get b = none) : Rel P m st' w :=
  ⟨h.glob, h.inb, fun b x k hb hk => h.blks b x k hb (hs b x k hb hk), fun b c x y kb kc hbc hb hc hkb hkc => h.dist b c x y kb kc hbc hb hc (hs b x kb hb hkb) (hs c y kc hc hkc), hw⟩
theorem CK.ext {n0 : Nat} {w0 : World} {m : Map} {st st' : St} {w : World} (h : CK n0 w0 m st w) (hs : ∀ b x k, m b = some x → st'.mem.get b = some k → st.mem.get b = some k) : CK n0 w0 m st' w :=
  ⟨fun b x k hb hk => h.1 b x k hb (hs b x k hb hk), h.2⟩

/-- what one operation of the text does to the memory -/
theorem Trace.step (haf : CallAF E.call) (T : Trace P E ops 0 [] [] A S V W L) {s : Nat} {o : Oper} (ho : ops[s]? = some o) :
    (S s).nxt ≤ (S (s + 1)).nxt ∧ (S (s + 1)).low ≤ (S s).low ∧ (L s = false → ∀ b, b < (S s).nxt → (S (s + 1)).mem.get b = (S s).mem.get b) ∧ ((∀ b, (S s).nxt ≤ b → (S s).mem.get b = none) → ∀ b, (S (s + 1)).nxt ≤ b → (S (s + 1)).mem.get b = none) := by
  cases hW : W s with
  | false =>
    obtain ⟨_, h2, _⟩ := T.skip s o (Nat.zero_le _) ho hW
    rw [h2]
    exact ⟨Nat.le_refl _, Nat.le_refl _, fun _ _ _ => rfl, fun h => h⟩
  | true =>
    obtain ⟨st1, h1, h2, h3, _⟩ := T.run s o (Nat.zero_le _) ho hW
    have af := evOp_af haf h1
    rw [h2]
    refine ⟨af.nxt, by show minN _ _ ≤ _; rw [minN_eq]; omega, fun hL b hb => ?_, af.wf⟩
    have hge : ¬ st1.low < (S s).nxt := fun hh => by rw [h3.2 hh] at hL; cases hL
    exact af.keep b hb (by omega)

theorem evOp_still {st st1 : St} {o : Op} {B : T Value} {v : Value} (h : evOp P o E B st = some (v, st1)) (hc : cls P o = 0 ∨ cls P o = 2) : st1 = st := by
  unfold evOp at h
  rcases hc with hc | hc <;> rw [hc] at h
  · rw [byCls_0] at h; obtain ⟨u, _, h2⟩ := ob_some h; cases h2; rfl
  · rw [byCls_2] at h; obtain ⟨u, _, h2⟩ := ob_some h; cases h2; rfl

theorem Trace.still (T : Trace P E ops 0 [] [] A S V W L) {s : Nat} {o : Oper} (ho : ops[s]? = some o) (h : W s = false ∨ cls P o.op = 0 ∨ cls P o.op = 2) : L s = false ∧ (S (s + 1)).mem = (S s).mem ∧ (S (s + 1)).nxt = (S s).nxt := by
  cases hW : W s with
  | false =>
    obtain ⟨_, h2, h3⟩ := T.skip s o (Nat.zero_le _) ho hW
    rw [h2]
    exact ⟨h3, rfl, rfl⟩
  | true =>
    obtain ⟨st1, h1, h2, h3, _⟩ := T.run s o (Nat.zero_le _) ho hW
    have hc : cls P o.op = 0 ∨ cls P o.op = 2 := by
      rcases h with h | h
      · rw [hW] at h; cases h
      · exact h
    have e := evOp_still h1 hc
    subst e
    rw [h2]
    refine ⟨?_, rfl, rfl⟩
    cases hL : L s with
    | false => rfl
    | true => have := h3.1 hL; simp [setLow] at this

structure Ctx (P : Program) (E : Env) (ops : Array Oper) (N : Nat) (A : Nat → T Value) (S : Nat → St) (V : Nat → Value) (W L : Nat → Bool) (m0 : Map) : Prop where
  call : CallOk P E.call
  af : CallAF E.call
  tr : Trace P E ops 0 [] [] A S V W L
  ok : ∀ o ∈ ops.toList, operOk P N o = true
  back : backB ops.toList = true
  apart : apartB ops = true
  free : Free m0 (S 0).nxt (S ops.size).nxt
  wf0 : ∀ b, (S 0).nxt ≤ b → (S 0).mem.get b = none

section
variable {m0 : Map} (C : Ctx P E ops N A S V W L m0)
include C

theorem Ctx.oper {s : Nat} (h : s < ops.size) : ∃ o, ops[s]? = some o := ⟨ops[s], Array.getElem?_eq_getElem h⟩
theorem Ctx.okAt {s : Nat} {o : Oper} (ho : ops[s]? = some o) : operOk P N o = true := C.ok o (by
  obtain ⟨h, e⟩ := Array.getElem?_eq_some_iff.1 ho
  rw [← e]; simp)

theorem Ctx.mono : ∀ (d s : Nat), s + d ≤ ops.size → (S s).nxt ≤ (S (s + d)).nxt ∧ (S (s + d)).low ≤ (S s).low
  | 0, s, _ => ⟨Nat.le_refl _, Nat.le_refl _⟩
  | d + 1, s, h => by
    obtain ⟨h1, h2⟩ := Ctx.mono d s (by omega)
    obtain ⟨o, ho⟩ := C.oper (s := s + d) (by omega)
    obtain ⟨h3, h4, _⟩ := C.tr.step C.af ho
    exact ⟨Nat.le_trans h1 h3, Nat.le_trans h4 h2⟩
theorem Ctx.nxt_le {s t : Nat} (h : s ≤ t) (ht : t ≤ ops.size) : (S s).nxt ≤ (S t).nxt := by
  have := (C.mono (t - s) s (by omega)).1
  rwa [show s + (t - s) = t from by omega] at this
theorem Ctx.low_le {s t : Nat} (h : s ≤ t) (ht : t ≤ ops.size) : (S t).low ≤ (S s).low := by
  have := (C.mono (t - s) s (by omega)).2
  rwa [show s + (t - s) = t from by omega] at this
theorem Ctx.wf : ∀ (s : Nat), s ≤ ops.size → ∀ b, (S s).nxt ≤ b → (S s).mem.get b = none
  | 0, _ => C.wf0
  | s + 1, h => by
    obtain ⟨o, ho⟩ := C.oper (s := s) (by omega)
    exact (C.tr.step C.af ho).2.2.2 (Ctx.wf s (by omega))
theorem Ctx.keep1 : ∀ (d s : Nat), s + d ≤ ops.size → (∀ j, s ≤ j → j < s + d → L j = false) → ∀ b, b < (S s).nxt → (S (s + d)).mem.get b = (S s).mem.get b
  | 0, s, _, _, b, _ => rfl
  | d + 1, s, h, hq, b, hb => by
    have h1 := Ctx.keep1 d s (by omega) (fun j h1 h2 => hq j h1 (by omega)) b hb
    obtain ⟨o, ho⟩ := C.oper (s := s + d) (by omega)
    have h2 := (C.tr.step C.af ho).2.2.1 (hq _ (by omega) (by omega)) b (Nat.lt_of_lt_of_le hb (C.nxt_le (by omega) (by omega)))
    exact h2.trans h1
theorem Ctx.keep {s t : Nat} (h : s ≤ t) (ht : t ≤ ops.size) (hq : ∀ j, s ≤ j → j < t → L j = false) : ∀ b, b < (S s).nxt → (S t).mem.get b = (S s).mem.get b := by
  have := C.keep1 (t - s) s (by omega) (fun j h1 h2 => hq j h1 (by omega))
  rwa [show s + (t - s) = t from by omega] at this
theorem Ctx.alive {s : Nat} (hs : s ≤ ops.size) {b : Nat} {k : Blk} (hk : (S s).mem.get b = some k) : b < (S s).nxt := by
  rcases Nat.lt_or_ge b (S s).nxt with h | h
  · exact h
  · rw [C.wf s hs b h] at hk; cases hk

/-! ### temporaries -/
theorem Ctx.text (t : Nat) : ∀ i, i ≤ ops.size → (∃ j, j < i ∧ dstOf ops j = some t ∧ (∀ k, j < k → k < i → dstOf ops k ≠ some t) ∧ tg (A i) t = V j) ∨ ((∀ k, k < i → dstOf ops k ≠ some t) ∧ tg (A i) t = tg (A 0) t)
  | 0, _ => .inr ⟨fun k hk => by omega, rfl⟩
  | i + 1, h => by
    obtain ⟨o, ho⟩ := C.oper (s := i) (by omega)
    have hd : dstOf ops i = o.dst := by simp [dstOf, ho]
    rw [C.tr.put i o (Nat.zero_le _) ho, tg_putA]
    by_cases e : o.dst = some t
    · rw [if_pos e]
      exact .inl ⟨i, by omega, by rw [hd]; exact e, fun k h1 h2 => by omega, rfl⟩
    · rw [if_neg e]
      rcases Ctx.text t i (by omega) with ⟨j, h1, h2, h3, h4⟩ | ⟨h1, h2⟩
      · refine .inl ⟨j, by omega, h2, fun k h5 h6 => ?_, h4⟩
        by_cases ek : k = i
        · subst ek; rw [hd]; exact e
        · exact h3 k h5 (by omega)
      · refine .inr ⟨fun k hk => ?_, h2⟩
        by_cases ek : k = i
        · subst ek; rw [hd]; exact e
        · exact h1 k (by omega)
end

def X (listed : Array Bool) (j : Nat) : Prop := listed.getD j false = true

def LastW (ops : Array Oper) (A : Nat → T Value) (V : Nat → Value) (listed : Array Bool) (cur : T Value) (t : Nat) : Prop :=
  (∃ j, X listed j ∧ dstOf ops j = some t ∧ (∀ k, X listed k → dstOf ops k = some t → k ≤ j) ∧ tg cur t = V j) ∨ ((∀ k, X listed k → dstOf ops k ≠ some t) ∧ tg cur t = tg (A 0) t)

structure Inv (P : Program) (ops : Array Oper) (A : Nat → T Value) (S : Nat → St) (V : Nat → Value) (L : Nat → Bool) (m0 : Map) (w0 : World) (listed : Array Bool) (m : Map) (w : World) (cur : T Value) (tmps : Array Value) (b e : Nat) : Prop where
  lsize : listed.size = ops.size
  closed : ∀ i, X listed i → ∀ j, (ancAt ops i).testBit j = true → X listed j
  be : b ≤ e
  en : e ≤ ops.size
  mid : ∀ j, b ≤ j → j < e → L j = false
  done : ∀ j, j < e → L j = true → X listed j
  notyet : ∀ j, e ≤ j → j < ops.size → L j = true → ¬ X listed j
  last : b = 0 ∨ ∃ k, b = k + 1 ∧ L k = true ∧ X listed k
  stop : e < ops.size → L e = true
  rel : Rel P m (S e) w
  sub : Sub m0 m
  newm : ∀ c x, m c = some x → m0 c = some x ∨ ∃ j, j < ops.size ∧ X listed j ∧ (S j).nxt ≤ c ∧ c < (S (j + 1)).nxt
  os : w.os = w0.os
  tape : w.tape = w0.tape
  output : w.output = w0.output
  size : w0.heap.size ≤ w.heap.size
  chk : ∀ n0 w00, n0 ≤ (S 0).nxt → n0 ≤ (S ops.size).low → CK n0 w00 m0 (S 0) w0 → CK n0 w00 m (S e) w
  tm : TmRel m cur tmps
  lastw : ∀ t, LastW ops A V listed cur t

theorem X_set {listed : Array Bool} {i j : Nat} (hi : i < listed.size) : X (listed.setIfInBounds i true) j ↔ j = i ∨ X listed j := by
  unfold X
  by_cases e : i = j
  · subst e; simp [hi]
  · rw [getD_set_ne false e]
    constructor
    · exact .inr
    · rintro (h | h)
      · exact absurd h.symm e
      · exact h
theorem X_lt {listed : Array Bool} {j : Nat} (h : X listed j) : j < listed.size := by
  unfold X at h
  rcases Nat.lt_or_ge j listed.size with h' | h'
  · exact h'
  · simp [Array.getElem?_eq_none h'] at h

section
variable {m0 : Map} {w0 : World} {listed : Array Bool} {m : Map} {w : World} {cur : T Value} {tmps : Array Value} {b e : Nat} (C : Ctx P E ops N A S V W L m0) (I : Inv P ops A S V L m0 w0 listed m w cur tmps b e)
include C I

/-- an operation that is ready: what it must wait for is done, it itself is not -/
theorem ready_spec {i : Nat} (h : i ∈ Region.ready .any ops listed) : ∃ o, ops[i]? = some o ∧ i < ops.size ∧ ¬ X listed i ∧ ∀ j, (ancAt ops i).testBit j = true → X listed j := by
  obtain ⟨h0, o, ho, hall⟩ := mem_ready.1 h
  have hlt : i < ops.size := (Array.getElem?_eq_some_iff.1 ho).1
  refine ⟨o, ho, hlt, ?_, fun j hj => ?_⟩
  · unfold X
    have : i < listed.size := by rw [I.lsize]; exact hlt
    simp [this] at h0 ⊢
    exact h0
  · obtain ⟨ed, he, hb, h1⟩ := anc_step C.back ho hj
    have hx : X listed ed.on := hall ed he hb
    rcases h1 with rfl | h1
    · exact hx
    · exact I.closed _ hx j h1

/-- what a ready operation looks at is what it looks at in the text's order -/
theorem cur_eq {i : Nat} {o : Oper} (ho : ops[i]? = some o) (hi : i < ops.size) (hx : ¬ X listed i) (hanc : ∀ j, (ancAt ops i).testBit j = true → X listed j) {t : Nat} (ht : t ∈ o.looksAt ops) : tg cur t = tg (A i) t := by
  -- a writer of t ahead of i has been done; one behind it has not
  have hbefore : ∀ j, j < i → dstOf ops j = some t → X listed j := fun j hj hd => by
    obtain ⟨oj, hoj⟩ := C.oper (s := j) (by omega)
    rcases apart_or C.apart hj ho hoj with h | h
    · have := (Oper.apart_spec h).1 t (by simpa [dstOf, hoj] using hd)
      exact absurd ht this
    · exact hanc j h
  have hafter : ∀ k, X listed k → dstOf ops k = some t → k < i := fun k hk hd => by
    rcases Nat.lt_trichotomy k i with h | h | h
    · exact h
    · subst h; exact absurd hk hx
    · have hkn := X_lt hk
      rw [I.lsize] at hkn
      obtain ⟨ok, hok⟩ := C.oper (s := k) hkn
      rcases apart_or C.apart h hok ho with h1 | h1
      · have := (Oper.apart_spec h1).2.2 t (by simpa [dstOf, hok] using hd)
        exact absurd ht this
      · exact absurd (I.closed k hk i h1) hx
  rcases C.text t i (by omega) with ⟨j, h1, h2, h3, h4⟩ | ⟨h1, h2⟩
  · rcases I.lastw t with ⟨k, g1, g2, g3, g4⟩ | ⟨g1, _⟩
    · have hki := hafter k g1 g2
      have hjk : j ≤ k := g3 j (hbefore j h1 h2) h2
      have : j = k := by
        rcases Nat.lt_or_ge j k with hh | hh
        · exact absurd g2 (h3 k hh hki)
        · omega
      subst this
      rw [g4, h4]
    · exact absurd h2 (g1 j (hbefore j h1 h2))
  · rcases I.lastw t with ⟨k, g1, g2, _, _⟩ | ⟨_, g2⟩
    · exact absurd g2 (h1 k (hafter k g1 g2))
    · rw [g2, h2]

theorem opers_conc {i : Nat} {o : Oper} (ho : ops[i]? = some o) (hi : i < ops.size) (hx : ¬ X listed i) (hanc : ∀ j, (ancAt ops i).testBit j = true → X listed j) : ∀ x ∈ o.op.operands.toList, conc m (ev (A i) x) = some (evT tmps x) := by
  intro x hxm
  have h1 := oper_conc I.rel I.tm (C.okAt ho) x hxm
  have : ev (A i) x = ev cur x := by
    cases x with
    | tmp t =>
      have ht : t ∈ o.looksAt ops := by
        unfold Oper.looksAt
        rw [List.mem_append]
        exact .inl (List.mem_filterMap.2 ⟨.tmp t, hxm, rfl⟩)
      exact (cur_eq C I ho hi hx hanc ht).symm
    | _ => rfl
  rw [this]
  exact h1

theorem wanted_now {i : Nat} {o : Oper} (ho : ops[i]? = some o) (hi : i < ops.size) (hx : ¬ X listed i) (hanc : ∀ j, (ancAt ops i).testBit j = true → X listed j) : Region.wanted o (yielded ops tmps) = W i := by
  rw [← wanted_eq I.tm ops o, C.tr.want i o (Nat.zero_le _) ho]
  cases hg : o.guard with
  | none => rfl
  | some p =>
    obtain ⟨g, want⟩ := p
    show wantedD cur want (dstOf ops g) = wantedD (A i) want (dstOf ops g)
    cases hd : dstOf ops g with
    | none => rfl
    | some d =>
      show isB (tg cur d) want = isB (tg (A i) d) want
      rw [cur_eq C I ho hi hx hanc (t := d) (by
        unfold Oper.looksAt
        rw [List.mem_append]
        refine .inr ?_
        rw [hg]
        have : (ops[g]?).bind (·.dst) = some d := hd
        simp [this])]

/-- the temporaries behind operation i -/
theorem lastw_set {i : Nat} {o : Oper} (ho : ops[i]? = some o) (hi : i < ops.size) (hx : ¬ X listed i) : ∀ t, LastW ops A V (listed.setIfInBounds i true) (putA cur o.dst (V i)) t := by
  intro t
  have hil : i < listed.size := by rw [I.lsize]; exact hi
  have hd : dstOf ops i = o.dst := by simp [dstOf, ho]
  by_cases ht : o.dst = some t
  · refine .inl ⟨i, (X_set hil).2 (.inl rfl), by rw [hd]; exact ht, fun k hk hdk => ?_, by rw [tg_putA, if_pos ht]⟩
    rcases (X_set hil).1 hk with rfl | hk
    · exact Nat.le_refl _
    · rcases Nat.lt_or_ge i k with h | h
      · have hkn := X_lt hk
        rw [I.lsize] at hkn
        obtain ⟨ok, hok⟩ := C.oper (s := k) hkn
        rcases apart_or C.apart h hok ho with h1 | h1
        · exact absurd (by simpa [dstOf, hok] using hdk) ((Oper.apart_spec h1).2.1 t ht)
        · exact absurd (I.closed k hk i h1) hx
      · exact h
  · unfold LastW
    rw [tg_putA, if_neg ht]
    rcases I.lastw t with ⟨j, g1, g2, g3, g4⟩ | ⟨g1, g2⟩
    · refine .inl ⟨j, (X_set hil).2 (.inr g1), g2, fun k hk hdk => ?_, g4⟩
      rcases (X_set hil).1 hk with rfl | hk
      · rw [hd] at hdk; exact absurd hdk ht
      · exact g3 k hk hdk
    · refine .inr ⟨fun k hk => ?_, g2⟩
      rcases (X_set hil).1 hk with rfl | hk
      · rw [hd]; exact ht
      · exact g1 k hk

/-- an operation that leaves the memory as it is -/
theorem inv_still {i : Nat} {o : Oper} {cv : Value} (htm : tmps.size = N) (ho : ops[i]? = some o) (hi : i < ops.size) (hx : ¬ X listed i) (hanc : ∀ j, (ancAt ops i).testBit j = true → X listed j) (hs : W i = false ∨ cls P o.op = 0 ∨ cls P o.op = 2) (hv : conc m (V i) = some cv) :
    Inv P ops A S V L m0 w0 (listed.setIfInBounds i true) m w (putA cur o.dst (V i)) (putC tmps o.dst cv) b e := by
  have hil : i < listed.size := by rw [I.lsize]; exact hi
  obtain ⟨hL, _, hn⟩ := C.tr.still ho hs
  refine ⟨by simp [I.lsize], ?_, I.be, I.en, I.mid, fun j h1 h2 => (X_set hil).2 (.inr (I.done j h1 h2)), ?_, ?_, I.stop, I.rel, I.sub, ?_, I.os, I.tape, I.output, I.size, I.chk, I.tm.put htm (oper_dst (C.okAt ho)) hv, lastw_set C I ho hi hx⟩
  · intro j hj k hk
    rcases (X_set hil).1 hj with rfl | hj
    · exact (X_set hil).2 (.inr (hanc k hk))
    · exact (X_set hil).2 (.inr (I.closed j hj k hk))
  · intro j h1 h2 h3 h4
    rcases (X_set hil).1 h4 with rfl | h4
    · rw [hL] at h3; cases h3
    · exact I.notyet j h1 h2 h3 h4
  · rcases I.last with h | ⟨k, h1, h2, h3⟩
    · exact .inl h
    · exact .inr ⟨k, h1, h2, (X_set hil).2 (.inr h3)⟩
  · intro c x hc
    rcases I.newm c x hc with h | ⟨j, h1, h2, h3⟩
    · exact .inl h
    · exact .inr ⟨j, h1, (X_set hil).2 (.inr h2), h3⟩

/-- the memory of an earlier point of the same stretch -/
theorem rel_at {s : Nat} (h1 : b ≤ s) (h2 : s ≤ e) : Rel P m (S s) w :=
  I.rel.ext (fun c x k _ hk => by
    have hlt := C.alive (Nat.le_trans h2 I.en) hk
    rw [C.keep h2 I.en (fun j g1 g2 => I.mid j (by omega) g2) c hlt]
    exact hk) (C.wf s (Nat.le_trans h2 I.en))
theorem ck_at {s n0 : Nat} {w00 : World} (h1 : b ≤ s) (h2 : s ≤ e) (h : CK n0 w00 m (S e) w) : CK n0 w00 m (S s) w :=
  h.ext (fun c x k _ hk => by
    have hlt := C.alive (Nat.le_trans h2 I.en) hk
    rw [C.keep h2 I.en (fun j g1 g2 => I.mid j (by omega) g2) c hlt]
    exact hk)

theorem free_at {i : Nat} (hi : i < ops.size) (hx : ¬ X listed i) : Free m (S i).nxt (S (i + 1)).nxt := by
  intro c h1 h2
  cases hc : m c with
  | none => rfl
  | some x =>
    rcases I.newm c x hc with h | ⟨j, hj, h3, h4, h5⟩
    · have g1 := C.nxt_le (Nat.zero_le i) (by omega)
      have g2 := C.nxt_le (s := i + 1) (t := ops.size) (by omega) (Nat.le_refl _)
      rw [C.free c (by omega) (by omega)] at h; cases h
    · rcases Nat.lt_trichotomy i j with h | h | h
      · have := C.nxt_le (s := i + 1) (t := j) (by omega) (by omega); omega
      · subst h; exact absurd h3 hx
      · have := C.nxt_le (s := j + 1) (t := i) (by omega) (by omega); omega
end
end Go.Ev
