/-
  A part of the proof that the evaluator answers what the model answers, for every program that follows mixed orders; no other condition.
-/
import Derived.Test.YtnfmgkkhejminaaGreatDoorEvConc
namespace Go.Ev
set_option linter.unusedSectionVars false
variable [OTab] [OVal]

/-! ## the relation of an abstract memory to a world -/
structure LoopRel (m : Map) (l : ALoop) (c : Loop) : Prop where
  state : c.state = l.state
  pending : c.pending = l.pending
  fn : c.fn = l.fn
  tmps : ∀ t, conc m (tg l.tm t) = some (c.tmps.getD t undef)
  ntm : c.tmps.size = l.ntm
  params : c.params = ⟨l.params⟩
  assign : c.assign = l.assign
  body : c.body = l.body
  defers : ∃ x, m l.defers = some x ∧ c.defers = x.blk

def concE (m : Map) : List MapEntry → Option (List MapEntry)
  | [] => some []
  | e :: r => match conc m e.key, conc m e.val, concE m r with
    | some k, some v, some r => some ({ key := k, val := v, born := e.born } :: r)
    | _, _, _ => none

def iterOf (m : Map) : Option Nat → Option (Option Nat)
  | none => some none
  | some r => (m r).map fun x => some x.blk

/-- what the tag of a block says: the concrete block is of that type, and is known whole -/
def Tagged (n : Nat) (c : T Value) (e : TypeId) (sh size : Nat) : Prop := n ≤ tagI → (∀ k t, c.get tagI = some (.float k t) → e = t ∧ sh = 0 ∧ size = n) ∧ ∀ k t, c.get (tagI + 1) = some (.float k t) → e = t
def BlkRel (m : Map) : Blk → M → World → Prop
  | .cells n c, x, w => ∃ (arr : Array Value) (e : TypeId) (lo hi : Nat), w.heap[x.blk]? = some (.cells arr e (lo, hi)) ∧ x.sh + x.lim ≤ arr.size ∧ n ≤ x.lim ∧
      ((c.get roI).isNone = true → ∀ i, i < arr.size → ¬ (lo ≤ i ∧ i < hi)) ∧ (∀ i, i < n → ∃ v cv, c.get i = some v ∧ conc m v = some cv ∧ arr[x.sh + i]? = some cv) ∧ Tagged n c e x.sh arr.size
  | .map es clock, x, w => x.sh = 0 ∧ ∃ ces : List MapEntry, w.heap[x.blk]? = some (.map ⟨ces⟩ clock) ∧ concE m es = some ces
  | .iter mp since seen stepped, x, w => x.sh = 0 ∧ ∃ cmp, w.heap[x.blk]? = some (.mapIter cmp since ⟨seen⟩ stepped) ∧ iterOf m mp = some cmp
  | .loop l, x, w => x.sh = 0 ∧ ∃ c, w.heap[x.blk]? = some (.loop c) ∧ LoopRel m l c
  | .defd, x, w => x.sh = 0 ∧ w.heap[x.blk]? = some (.deferred (some []))

structure Rel (P : Program) (m : Map) (st : St) (w : World) : Prop where
  glob : ∀ g, g < P.globals.size → ∃ l, m g = some ⟨g, 0, l⟩
  inb : ∀ b x, m b = some x → x.blk < w.heap.size
  blks : ∀ b x k, m b = some x → st.mem.get b = some k → BlkRel m k x w
  dist : ∀ b c x y kb kc, b ≠ c → m b = some x → m c = some y → st.mem.get b = some kb → st.mem.get c = some kc → x.blk ≠ y.blk
  wf : ∀ b, st.nxt ≤ b → st.mem.get b = none

/-- no block with one of these numbers has been made -/
def Free (m : Map) (lo hi : Nat) : Prop := ∀ b, lo ≤ b → b < hi → m b = none
theorem Free.sub {m : Map} {a b c d : Nat} (h : Free m a b) (h1 : a ≤ c) (h2 : d ≤ b) : Free m c d := fun x hx hx' => h x (by omega) (by omega)

/-- nothing that was there at a point has turned since, and what was made is new -/
def CK (n0 : Nat) (w0 : World) (m : Map) (st : St) (w : World) : Prop :=
  (∀ b x k, m b = some x → st.mem.get b = some k → n0 ≤ b → w0.heap.size ≤ x.blk) ∧ w0.heap.size ≤ w.heap.size ∧ ∀ B, B < w0.heap.size → w.heap[B]? = w0.heap[B]?

structure Step (P : Program) (m : Map) (st : St) (w : World) (m' : Map) (st' : St) (w' : World) : Prop where
  sub : Sub m m'
  rel : Rel P m' st' w'
  os : w'.os = w.os
  tape : w'.tape = w.tape
  output : w'.output = w.output
  size : w.heap.size ≤ w'.heap.size
  nxt : st.nxt ≤ st'.nxt
  low : st'.low ≤ st.low
  newm : ∀ b x, m' b = some x → m b = some x ∨ (st.nxt ≤ b ∧ b < st'.nxt)
  chk : ∀ n0 w0, n0 ≤ st.nxt → n0 ≤ st'.low → CK n0 w0 m st w → CK n0 w0 m' st' w'

theorem Step.refl {P : Program} {m : Map} {st : St} {w : World} (h : Rel P m st w) : Step P m st w m st w :=
  ⟨Sub.refl m, h, rfl, rfl, rfl, Nat.le_refl _, Nat.le_refl _, Nat.le_refl _, fun _ _ h => .inl h, fun _ _ _ _ h => h⟩

theorem Step.trans {P : Program} {m₁ m₂ m₃ : Map} {s₁ s₂ s₃ : St} {w₁ w₂ w₃ : World} (h : Step P m₁ s₁ w₁ m₂ s₂ w₂) (k : Step P m₂ s₂ w₂ m₃ s₃ w₃) : Step P m₁ s₁ w₁ m₃ s₃ w₃ where
  sub := h.sub.trans k.sub
  rel := k.rel
  os := k.os.trans h.os
  tape := k.tape.trans h.tape
  output := k.output.trans h.output
  size := Nat.le_trans h.size k.size
  nxt := Nat.le_trans h.nxt k.nxt
  low := Nat.le_trans k.low h.low
  newm := fun b x hb => by
    have h1 := h.nxt
    have h2 := k.nxt
    rcases k.newm b x hb with hb | hb
    · rcases h.newm b x hb with hb | hb
      · exact .inl hb
      · exact .inr ⟨hb.1, by omega⟩
    · exact .inr ⟨by omega, hb.2⟩
  chk := fun n0 w0 hn hl hc => k.chk n0 w0 (Nat.le_trans hn h.nxt) hl (h.chk n0 w0 hn (Nat.le_trans hl k.low) hc)
/-- what a step leaves free -/
theorem Step.free {P : Program} {m m' : Map} {st st' : St} {w w' : World} (h : Step P m st w m' st' w') {top : Nat} (hf : Free m st.nxt top) : Free m' st'.nxt top := fun b hb ht => by
  cases e : m' b with
  | none => rfl
  | some x =>
    have hn := h.nxt
    rcases h.newm b x e with e | e
    · rw [hf b (by omega) ht] at e; cases e
    · omega

/-! ## a world that differs in nothing but draws -/
theorem BlkRel.heap {m : Map} {k : Blk} {x : M} {w w' : World} (h : BlkRel m k x w) (e : w'.heap[x.blk]? = w.heap[x.blk]?) : BlkRel m k x w' := by
  cases k <;> simp only [BlkRel] at h ⊢ <;> rw [e] <;> exact h
theorem concE_mono {m m' : Map} (hm : Sub m m') : ∀ (l : List MapEntry) (c : List MapEntry), concE m l = some c → concE m' l = some c
  | [], _, h => by simpa [concE] using h
  | e :: r, c, h => by
    simp only [concE] at h ⊢
    split at h
    · rename_i k v r' hk hv hr
      cases h
      rw [conc_mono hm _ _ hk, conc_mono hm _ _ hv, concE_mono hm r _ hr]
    · cases h
theorem LoopRel.mono {m m' : Map} (hm : Sub m m') {l : ALoop} {c : Loop} (h : LoopRel m l c) : LoopRel m' l c :=
  ⟨h.state, h.pending, h.fn, fun t => conc_mono hm _ _ (h.tmps t), h.ntm, h.params, h.assign, h.body, h.defers.imp fun _ e => ⟨hm _ _ e.1, e.2⟩⟩
theorem BlkRel.mono {m m' : Map} (hm : Sub m m') {k : Blk} {x : M} {w : World} (h : BlkRel m k x w) : BlkRel m' k x w := by
  cases k with
  | cells n c =>
    obtain ⟨arr, e, lo, hi, h1, h2, h3, h4, h5, h6⟩ := h
    exact ⟨arr, e, lo, hi, h1, h2, h3, h4, fun i hi' => let ⟨v, cv, a, b, d⟩ := h5 i hi'; ⟨v, cv, a, conc_mono hm _ _ b, d⟩, h6⟩
  | map es clock => obtain ⟨h0, ces, h1, h2⟩ := h; exact ⟨h0, ces, h1, concE_mono hm _ _ h2⟩
  | iter mp a b c =>
    obtain ⟨h0, cmp, h1, h2⟩ := h
    refine ⟨h0, cmp, h1, ?_⟩
    cases mp with
    | none => exact h2
    | some r =>
      simp only [iterOf, Option.map_eq_some_iff] at h2 ⊢
      obtain ⟨y, hy, e⟩ := h2
      exact ⟨y, hm _ _ hy, e⟩
  | loop l => obtain ⟨h0, c, h1, h2⟩ := h; exact ⟨h0, c, h1, h2.mono hm⟩
  | defd => exact h

/-- the same memory in a world that has drawn -/
theorem Step.drew {P : Program} {m : Map} {st : St} {w w' : World} (h : Rel P m st w) (hh : w'.heap = w.heap) (ho : w'.os = w.os) (ht : w'.tape = w.tape) (hu : w'.output = w.output) : Step P m st w m st w' where
  sub := Sub.refl m
  rel := ⟨h.glob, fun b x hb => by rw [hh]; exact h.inb b x hb, fun b x k hb hk => (h.blks b x k hb hk).heap (by rw [hh]), h.dist, h.wf⟩
  os := ho
  tape := ht
  output := hu
  size := by rw [hh]; exact Nat.le_refl _
  nxt := Nat.le_refl _
  low := Nat.le_refl _
  newm := fun _ _ h => .inl h
  chk := fun n0 w0 _ _ hc => by unfold CK at hc ⊢; rwa [hh]

/-! ## a new block -/
def upd (m : Map) (b : Nat) (x : M) : Map := fun c => if c = b then some x else m c
theorem upd_same (m : Map) (b : Nat) (x : M) : upd m b x b = some x := by simp [upd]
theorem upd_other (m : Map) {b c : Nat} (x : M) (h : c ≠ b) : upd m b x c = m c := by simp [upd, h]
theorem sub_upd {m : Map} {b : Nat} (x : M) (h : m b = none) : Sub m (upd m b x) := fun c y hc => by
  by_cases e : c = b
  · subst e; rw [h] at hc; cases hc
  · rw [upd_other _ _ e]; exact hc

theorem Rel.lt {P : Program} {m : Map} {st : St} {w : World} (h : Rel P m st w) {b : Nat} {k : Blk} (hb : st.mem.get b = some k) : b < st.nxt := by
  rcases Nat.lt_or_ge b st.nxt with h' | h'
  · exact h'
  · rw [h.wf b h'] at hb; cases hb

theorem push_step {P : Program} {m : Map} {st : St} {w w' : World} {k : Blk} {o : Obj} {lim : Nat} (h : Rel P m st w) (hn : m st.nxt = none)
    (hw : w'.heap = w.heap.push o) (ho : w'.os = w.os) (ht : w'.tape = w.tape) (hu : w'.output = w.output)
    (hk : BlkRel (upd m st.nxt ⟨w.heap.size, 0, lim⟩) k ⟨w.heap.size, 0, lim⟩ w') :
    Step P m st w (upd m st.nxt ⟨w.heap.size, 0, lim⟩) (st.push k) w' := by
  have hsub := sub_upd (⟨w.heap.size, 0, lim⟩ : M) hn
  have hold : ∀ B, B < w.heap.size → w'.heap[B]? = w.heap[B]? := fun B hB => by rw [hw, Array.getElem?_push, if_neg (by omega)]
  have hsz : w'.heap.size = w.heap.size + 1 := by rw [hw]; simp
  have hget : ∀ b, (st.push k).mem.get b = if b = st.nxt then some k else st.mem.get b := fun b => get_memput _ _ _ _
  have hcase : ∀ b x, upd m st.nxt ⟨w.heap.size, 0, lim⟩ b = some x → (b = st.nxt ∧ x = ⟨w.heap.size, 0, lim⟩) ∨ (b ≠ st.nxt ∧ m b = some x) := fun b x hb => by
    by_cases e : b = st.nxt
    · subst e; rw [upd_same] at hb; cases hb; exact .inl ⟨rfl, rfl⟩
    · rw [upd_other _ _ e] at hb; exact .inr ⟨e, hb⟩
  refine ⟨hsub, ⟨?_, ?_, ?_, ?_, ?_⟩, ho, ht, hu, by omega, Nat.le_succ _, Nat.le_refl _, ?_, ?_⟩
  · intro g hg
    obtain ⟨l, hl⟩ := h.glob g hg
    exact ⟨l, hsub _ _ hl⟩
  · intro b x hb
    rcases hcase b x hb with ⟨_, rfl⟩ | ⟨_, hb⟩
    · show w.heap.size < _; omega
    · have := h.inb b x hb; omega
  · intro b x k' hb hk'
    rw [hget] at hk'
    rcases hcase b x hb with ⟨rfl, rfl⟩ | ⟨hne, hb⟩
    · simp at hk'; subst hk'; exact hk
    · rw [if_neg hne] at hk'
      exact ((h.blks b x k' hb hk').mono hsub).heap (hold _ (h.inb b x hb))
  · intro b c x y kb kc hbc hb hc hkb hkc e
    rw [hget] at hkb hkc
    rcases hcase b x hb with ⟨rfl, rfl⟩ | ⟨hne, hb⟩
    · rcases hcase c y hc with ⟨rfl, rfl⟩ | ⟨hne', hc⟩
      · exact absurd rfl hbc
      · have := h.inb c y hc
        simp only at e
        omega
    · rcases hcase c y hc with ⟨rfl, rfl⟩ | ⟨hne', hc⟩
      · have := h.inb b x hb
        simp only at e
        omega
      · rw [if_neg hne] at hkb
        rw [if_neg hne'] at hkc
        exact h.dist b c x y kb kc hbc hb hc hkb hkc e
  · intro b hb
    have hb' : st.nxt + 1 ≤ b := hb
    rw [hget, if_neg (by omega)]
    exact h.wf b (by omega)
  · intro b x hb
    rcases hcase b x hb with ⟨rfl, rfl⟩ | ⟨hne, hb⟩
    · exact .inr ⟨Nat.le_refl _, Nat.lt_succ_self _⟩
    · exact .inl hb
  · intro n0 w0 hn0 _ hc
    obtain ⟨c1, c2, c3⟩ := hc
    refine ⟨?_, by omega, fun B hB => by rw [hold B (by omega)]; exact c3 B hB⟩
    intro b x k' hb hk' hn'
    rw [hget] at hk'
    rcases hcase b x hb with ⟨rfl, rfl⟩ | ⟨hne, hb⟩
    · exact c2
    · rw [if_neg hne] at hk'; exact c1 b x k' hb hk' hn'
end Go.Ev
