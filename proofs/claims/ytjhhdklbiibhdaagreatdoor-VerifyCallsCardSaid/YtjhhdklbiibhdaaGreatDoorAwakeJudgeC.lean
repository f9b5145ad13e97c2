/-
  What the function that verify.CheckCalls hands to examine answers and does in this program: for every event and every state.
-/
import Derived.Test.YtjhhdklbiibhdaaGreatDoorAwakeJudgeB
namespace Go.Proofs.YtjhhdklbiibhdaaGreatDoor
open Go Go.RowKit

structure CallsInv (W : World) (A : Option Addr) (len c : Nat) (B mbx lbx mb : Nat) (ps : List Nat) (ss : List CallS) : Prop where
  sz : ps.length = ss.length
  hm : W.heap[mbx]? = some (.cells #[.map (some mb)] 68)
  hl : W.heap[lbx]? = some (.cells #[.slice A len c] 22)
  mp : MapIs W mb ps
  blk : ∀ (i p : Nat) s, ps[i]? = some p → ss[i]? = some s → W.heap[p]? = some (.cells (callCells s) 72)
  nodup : ∀ (i j p : Nat), ps[i]? = some p → ps[j]? = some p → i = j
  low : B ≤ mbx ∧ B ≤ lbx ∧ B ≤ mb ∧ ∀ p ∈ ps, B ≤ p

/-- rows of violations stay -/
def Keeps (W W' : World) : Prop := W.heap.size ≤ W'.heap.size ∧ ∀ (k : Nat) c fz, W.heap[k]? = some (.cells c 67 fz) → W'.heap[k]? = W.heap[k]?
theorem Keeps.trans {a b c : World} (h : Keeps a b) (k : Keeps b c) : Keeps a c := ⟨Nat.le_trans h.1 k.1, fun i x fz hx => (k.2 i x fz ((h.2 i x fz hx).trans hx)).trans (h.2 i x fz hx)⟩

section
variable {W W' : World} {A : Option Addr} {len c B mbx lbx mb : Nat} {ps : List Nat} {ss : List CallS}
theorem CallsInv.at_lt (h : CallsInv W A len c B mbx lbx mb ps ss) {i p : Nat} (hp : ps[i]? = some p) : p < W.heap.size := by
  have hi : i < ss.length := by rw [← h.sz]; exact (List.getElem?_eq_some_iff.1 hp).1
  exact (Array.getElem?_eq_some_iff.1 (h.blk i p _ hp (List.getElem?_eq_getElem hi))).1
/-- behind whatever leaves all blocks but rows of violations -/
theorem CallsInv.keep (h : CallsInv W A len c B mbx lbx mb ps ss) (e : ∀ (k : Nat) o, W.heap[k]? = some o → (∀ c fz, o ≠ .cells c 67 fz) → W'.heap[k]? = W.heap[k]?) : CallsInv W' A len c B mbx lbx mb ps ss := by
  refine ⟨h.sz, (e _ _ h.hm (by intro c fz; simp)).trans h.hm, (e _ _ h.hl (by intro c fz; simp)).trans h.hl, ?_, fun i p s hp hs => ?_, h.nodup, h.low⟩
  · obtain ⟨es, clock, hb, he⟩ := h.mp
    exact h.mp.keep (e _ _ hb (by intro c fz; simp))
  · have hb := h.blk i p s hp hs
    exact (e _ _ hb (by intro c fz; simp)).trans hb
theorem CallsInv.next (h : CallsInv W A len c B mbx lbx mb ps ss) (e : ∀ k, k < W.heap.size → W'.heap[k]? = W.heap[k]?) : CallsInv W' A len c B mbx lbx mb ps ss :=
  h.keep fun k _ ho _ => e k (Array.getElem?_eq_some_iff.1 ho).1
/-- one call's block is written -/
theorem CallsInv.chg (h : CallsInv W A len c B mbx lbx mb ps ss) {j p : Nat} {s s' : CallS} (hp : ps[j]? = some p) (hs : ss[j]? = some s) (hg : W.grownBy W' (some p)) (hw : W'.heap[p]? = some (.cells (callCells s') 72)) :
    CallsInv W' A len c B mbx lbx mb ps (ss.set j s') ∧ Below B W W' ∧ Keeps W W' := by
  have hb := h.blk j p s hp hs
  have ne : ∀ (k : Nat) o, W.heap[k]? = some o → k ≠ p → W'.heap[k]? = W.heap[k]? := fun k o ho hne => hg.block k (Array.getElem?_eq_some_iff.1 ho).1 (by intro e; simp at e; exact hne e)
  have typ : ∀ (k : Nat) o, W.heap[k]? = some o → (∀ c fz, o ≠ .cells c 72 fz) → k ≠ p := fun k o ho hne e => by
    subst e
    rw [hb] at ho
    cases ho
    exact hne _ _ rfl
  refine ⟨⟨by rw [h.sz]; simp, (ne _ _ h.hm (typ _ _ h.hm (by intro c fz; simp))).trans h.hm, (ne _ _ h.hl (typ _ _ h.hl (by intro c fz; simp))).trans h.hl, ?_, fun i q t hq ht => ?_, h.nodup, h.low⟩, ⟨hg.os, hg.tape, hg.output, hg.size, fun k hk => ?_⟩, hg.size, fun k x fz hx => ne k _ hx (typ k _ hx (by intro c fz; simp))⟩
  · obtain ⟨es, clock, hm, he⟩ := h.mp
    exact h.mp.keep (ne _ _ hm (typ _ _ hm (by intro c fz; simp)))
  · by_cases hij : i = j
    · subst hij
      rw [hp] at hq
      cases hq
      rw [List.getElem?_set_self (by have := (List.getElem?_eq_some_iff.1 hs).1; exact this)] at ht
      cases ht
      exact hw
    · rw [List.getElem?_set_ne (fun e => hij e.symm)] at ht
      have hbq := h.blk i q t hq ht
      exact (ne _ _ hbq (fun e => hij (h.nodup i j p (e ▸ hq) hp))).trans hbq
  · by_cases hlt : k < W.heap.size
    · exact hg.block k hlt (by
        intro e
        simp at e
        have := h.low.2.2.2 p (List.mem_of_getElem? hp)
        omega)
    · have hz := (Array.getElem?_eq_some_iff.1 h.hm).1
      have := h.low.1
      omega
/-- one more call -/
theorem CallsInv.more (h : CallsInv W A len c B mbx lbx mb ps ss) (s : CallS) (hm : MapIs W' mb (ps ++ [W.heap.size])) (hg : (W.alloc (.cells (callCells s) 72)).grownBy W' (some mb)) (hB : B ≤ W.heap.size) :
    CallsInv W' A len c B mbx lbx mb (ps ++ [W.heap.size]) (ss ++ [s]) ∧ Below B W W' ∧ Keeps W W' := by
  obtain ⟨es, clock, hmb, _⟩ := h.mp
  have ne : ∀ (k : Nat) o, W.heap[k]? = some o → k ≠ mb → W'.heap[k]? = W.heap[k]? := fun k o ho hne => by
    have hk := (Array.getElem?_eq_some_iff.1 ho).1
    rw [hg.block k (by simp; omega) (by intro e; simp at e; exact hne e)]
    show (W.heap.push _)[k]? = W.heap[k]?
    rw [Array.getElem?_push]
    simp [Nat.ne_of_lt hk]
  have typ : ∀ (k : Nat) o, W.heap[k]? = some o → (∀ es cl, o ≠ .map es cl) → k ≠ mb := fun k o ho hne e => by
    subst e
    rw [hmb] at ho
    cases ho
    exact hne _ _ rfl
  have hsz : W.heap.size ≤ W'.heap.size := by have := hg.size; simp at this; omega
  have hnew : W'.heap[W.heap.size]? = some (.cells (callCells s) 72) := by
    rw [hg.block W.heap.size (by simp) (by
      intro e
      simp at e
      have := (Array.getElem?_eq_some_iff.1 hmb).1
      omega)]
    exact heap_alloc_last W _
  have atl : ∀ {i p : Nat}, ps[i]? = some p → p < W.heap.size := fun hp => h.at_lt hp
  refine ⟨⟨by simp [h.sz], (ne _ _ h.hm (typ _ _ h.hm (by intro c fz; simp))).trans h.hm, (ne _ _ h.hl (typ _ _ h.hl (by intro c fz; simp))).trans h.hl, hm, fun i p t hp ht => ?_, fun i j p hi hj => ?_, h.low.1, h.low.2.1, h.low.2.2.1, fun p hp => ?_⟩, ⟨hg.os, hg.tape, hg.output, hsz, fun k hk => ?_⟩, hsz, fun k x fz hx => ne k _ hx (typ k _ hx (by intro c fz; simp))⟩
  · by_cases hlt : i < ps.length
    · rw [List.getElem?_append_left hlt] at hp
      rw [List.getElem?_append_left (by rw [← h.sz]; exact hlt)] at ht
      have hb := h.blk i p t hp ht
      exact (ne _ _ hb (typ _ _ hb (by intro c fz; simp))).trans hb
    · have hi : i = ps.length := by have := (List.getElem?_eq_some_iff.1 hp).1; simp at this; omega
      subst hi
      rw [List.getElem?_append_right (Nat.le_refl _)] at hp
      rw [List.getElem?_append_right (by rw [h.sz]; exact Nat.le_refl _), h.sz] at ht
      simp at hp ht
      subst hp ht
      exact hnew
  · by_cases hi' : i < ps.length <;> by_cases hj' : j < ps.length
    · rw [List.getElem?_append_left hi'] at hi
      rw [List.getElem?_append_left hj'] at hj
      exact h.nodup i j p hi hj
    · rw [List.getElem?_append_left hi'] at hi
      rw [List.getElem?_append_right (by omega)] at hj
      have e : p = W.heap.size := by
        have := List.mem_of_getElem? hj
        simpa using this
      have := atl hi
      omega
    · rw [List.getElem?_append_left hj'] at hj
      rw [List.getElem?_append_right (by omega)] at hi
      have e : p = W.heap.size := by
        have := List.mem_of_getElem? hi
        simpa using this
      have := atl hj
      omega
    · have h1 := (List.getElem?_eq_some_iff.1 hi).1
      have h2 := (List.getElem?_eq_some_iff.1 hj).1
      simp at h1 h2
      omega
  · rcases List.mem_append.1 hp with hp | hp
    · exact h.low.2.2.2 p hp
    · have : p = W.heap.size := by simpa using hp
      omega
  · have hk' : k < W.heap.size := by omega
    exact ne k _ (Array.getElem?_eq_getElem hk') (by have := h.low.2.2.1; omega)
end
end Go.Proofs.YtjhhdklbiibhdaaGreatDoor
