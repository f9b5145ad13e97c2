/-
  A part of the proof that the evaluator answers what the model answers, for every program that follows mixed orders; no other condition.
-/
import Derived.Test.YtnfmgkkhejminaaGreatDoorEvRel
namespace Go.Ev
set_option linter.unusedSectionVars false
variable [OTab] [OVal]
theorem minN_eq (a b : Nat) : minN a b = min a b := by
  show a - (a - b) = min a b
  omega

/-- block b gets new content, or dies -/
theorem set_step {P : Program} {m : Map} {st : St} {w w' : World} {b : Nat} {x : M} {k0 : Blk} {vo : Option Blk} (h : Rel P m st w)
    (hb : m b = some x) (hk0 : st.mem.get b = some k0)
    (hw : ∀ B, B ≠ x.blk → w'.heap[B]? = w.heap[B]?) (hsz : w'.heap.size = w.heap.size) (ho : w'.os = w.os) (ht : w'.tape = w.tape) (hu : w'.output = w.output)
    (hk : ∀ k, vo = some k → BlkRel m k x w') :
    Step P m st w m ⟨st.mem.put vo b, st.nxt, minN b st.low⟩ w' := by
  have hget : ∀ c, (st.mem.put vo b).get c = if c = b then vo else st.mem.get c := fun c => get_memput _ _ _ _
  refine ⟨Sub.refl m, ⟨h.glob, fun c y hc => by rw [hsz]; exact h.inb c y hc, ?_, ?_, ?_⟩, ho, ht, hu, by omega, Nat.le_refl _, by show minN b st.low ≤ st.low; rw [minN_eq]; omega, fun _ _ hc => .inl hc, ?_⟩
  · intro c y k hc hkc
    simp only at hkc
    rw [hget] at hkc
    by_cases e : c = b
    · subst e
      rw [if_pos rfl] at hkc
      rw [hb] at hc; cases hc
      exact hk k hkc
    · rw [if_neg e] at hkc
      exact (h.blks c y k hc hkc).heap (hw _ (h.dist c b y x k k0 e hc hb hkc hk0))
  · intro c d y z kc kd hcd hc hd hkc hkd
    simp only at hkc hkd
    rw [hget] at hkc hkd
    by_cases ec : c = b
    · subst ec
      rw [if_neg (Ne.symm hcd)] at hkd
      exact h.dist c d y z k0 kd hcd hc hd hk0 hkd
    · rw [if_neg ec] at hkc
      by_cases ed : d = b
      · subst ed
        exact h.dist c d y z kc k0 hcd hc hd hkc hk0
      · rw [if_neg ed] at hkd
        exact h.dist c d y z kc kd hcd hc hd hkc hkd
  · intro c hc
    have := h.lt hk0
    have hc' : st.nxt ≤ c := hc
    simp only
    rw [hget, if_neg (by omega)]
    exact h.wf c hc
  · intro n0 w0 hn0 hl hc
    have hl' : n0 ≤ minN b st.low := hl
    rw [minN_eq] at hl'
    obtain ⟨c1, c2, c3⟩ := hc
    have hx : w0.heap.size ≤ x.blk := c1 b x k0 hb hk0 (by omega)
    refine ⟨?_, by omega, fun B hB => by rw [hw B (by omega)]; exact c3 B hB⟩
    intro c y k hc' hkc hn'
    simp only at hkc
    rw [hget] at hkc
    by_cases e : c = b
    · subst e
      rw [hb] at hc'; cases hc'
      exact hx
    · rw [if_neg e] at hkc; exact c1 c y k hc' hkc hn'

/-- block b dies; a new one is made, perhaps in the same memory -/
theorem heir_step {P : Program} {m : Map} {st : St} {w w' : World} {b : Nat} {k0 k : Blk} {x y : M} (h : Rel P m st w) (hn : m st.nxt = none)
    (hb : m b = some x) (hk0 : st.mem.get b = some k0)
    (ho : w'.os = w.os) (ht : w'.tape = w.tape) (hu : w'.output = w.output)
    (hy : (y.blk = w.heap.size ∧ w'.heap.size = w.heap.size + 1 ∧ ∀ B, B < w.heap.size → w'.heap[B]? = w.heap[B]?) ∨
      (y.blk = x.blk ∧ w'.heap.size = w.heap.size ∧ ∀ B, B ≠ x.blk → w'.heap[B]? = w.heap[B]?))
    (hk : BlkRel (upd m st.nxt y) k y w') :
    Step P m st w (upd m st.nxt y) ((st.kill b).push k) w' := by
  have hsub := sub_upd y hn
  have hblt := h.lt hk0
  have hget : ∀ c, ((st.kill b).push k).mem.get c = if c = st.nxt then some k else if c = b then none else st.mem.get c := fun c => by
    show ((st.mem.put none b).put (some k) st.nxt).get c = _
    rw [get_memput, get_memput]
  have hxb := h.inb b x hb
  have hsz : w.heap.size ≤ w'.heap.size := by rcases hy with ⟨_, e, _⟩ | ⟨_, e, _⟩ <;> omega
  have hold : ∀ B, B < w.heap.size → B ≠ x.blk → w'.heap[B]? = w.heap[B]? := fun B h1 h2 => by
    rcases hy with ⟨_, _, e⟩ | ⟨_, _, e⟩
    · exact e B h1
    · exact e B h2
  have hcase : ∀ d z, upd m st.nxt y d = some z → (d = st.nxt ∧ z = y) ∨ (d ≠ st.nxt ∧ m d = some z) := fun d z hd => by
    by_cases e : d = st.nxt
    · subst e; rw [upd_same] at hd; cases hd; exact .inl ⟨rfl, rfl⟩
    · rw [upd_other _ _ e] at hd; exact .inr ⟨e, hd⟩
  -- the blocks that live on
  have halive : ∀ d z kd, d ≠ st.nxt → m d = some z → ((st.kill b).push k).mem.get d = some kd → d ≠ b ∧ st.mem.get d = some kd ∧ z.blk ≠ x.blk ∧ z.blk ≠ y.blk := fun d z kd hne hd hkd => by
    rw [hget, if_neg hne] at hkd
    have hdb : d ≠ b := fun e => by rw [if_pos e] at hkd; cases hkd
    rw [if_neg hdb] at hkd
    have h1 := h.dist d b z x kd k0 hdb hd hb hkd hk0
    refine ⟨hdb, hkd, h1, ?_⟩
    have := h.inb d z hd
    rcases hy with ⟨e, _, _⟩ | ⟨e, _, _⟩
    · omega
    · rw [e]; exact h1
  refine ⟨hsub, ⟨?_, ?_, ?_, ?_, ?_⟩, ho, ht, hu, hsz, Nat.le_succ _, by show minN b st.low ≤ st.low; rw [minN_eq]; omega, ?_, ?_⟩
  · intro g hg
    obtain ⟨l, hl⟩ := h.glob g hg
    exact ⟨l, hsub _ _ hl⟩
  · intro d z hd
    rcases hcase d z hd with ⟨_, rfl⟩ | ⟨_, hd⟩
    · rcases hy with ⟨e1, e2, _⟩ | ⟨e1, e2, _⟩ <;> omega
    · have := h.inb d z hd; omega
  · intro d z kd hd hkd
    rcases hcase d z hd with ⟨rfl, rfl⟩ | ⟨hne, hd⟩
    · rw [hget, if_pos rfl] at hkd; cases hkd; exact hk
    · obtain ⟨_, h2, h3, _⟩ := halive d z kd hne hd hkd
      exact ((h.blks d z kd hd h2).mono hsub).heap (hold _ (h.inb d z hd) h3)
  · intro d e z u kd ke hde hd he hkd hke
    rcases hcase d z hd with ⟨rfl, hz⟩ | ⟨hne, hd⟩
    · rcases hcase e u he with ⟨rfl, hu⟩ | ⟨hne', he⟩
      · exact absurd rfl hde
      · rw [hz]; exact fun e' => (halive e u ke hne' he hke).2.2.2 e'.symm
    · rcases hcase e u he with ⟨rfl, hu⟩ | ⟨hne', he⟩
      · rw [hu]; exact (halive d z kd hne hd hkd).2.2.2
      · exact h.dist d e z u kd ke hde hd he (halive d z kd hne hd hkd).2.1 (halive e u ke hne' he hke).2.1
  · intro d hd
    have hd' : st.nxt + 1 ≤ d := hd
    rw [hget, if_neg (by omega), if_neg (by omega)]
    exact h.wf d (by omega)
  · intro d z hd
    rcases hcase d z hd with ⟨rfl, rfl⟩ | ⟨hne, hd⟩
    · exact .inr ⟨Nat.le_refl _, Nat.lt_succ_self _⟩
    · exact .inl hd
  · intro n0 w0 hn0 hl hc
    have hl' : n0 ≤ minN b st.low := hl
    rw [minN_eq] at hl'
    obtain ⟨c1, c2, c3⟩ := hc
    have hx : w0.heap.size ≤ x.blk := c1 b x k0 hb hk0 (by omega)
    refine ⟨?_, by omega, fun B hB => by rw [hold B (by omega) (by omega)]; exact c3 B hB⟩
    intro d z kd hd hkd hn'
    rcases hcase d z hd with ⟨rfl, rfl⟩ | ⟨hne, hd⟩
    · rcases hy with ⟨e1, _, _⟩ | ⟨e1, _⟩ <;> omega
    · exact c1 d z kd hd (halive d z kd hne hd hkd).2.1 hn'
end Go.Ev
