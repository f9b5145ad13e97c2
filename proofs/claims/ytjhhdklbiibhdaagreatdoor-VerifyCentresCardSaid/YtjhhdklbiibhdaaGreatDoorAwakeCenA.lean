/-
  The rules for centres as a plain pass over a trace; the index of an applied entry lies in the committed log: no program in sight.
-/
import Derived.Test.YtjhhdklbiibhdaaGreatDoorAwakeRowA
import Derived.Laws.BytesArg
namespace Go.Proofs.YtjhhdklbiibhdaaGreatDoor
open Go Go.RowKit

structure CenS where
  down : Bool
  last : Int
structure AuthS where
  id : Int
  who : Int
  tick : Int
  epoch : Int
structure LogS where
  cen : List CenS
  auth : List AuthS
def getA : List AuthS → Int → Option AuthS
  | [], _ => none
  | b :: l, n => if b.id = n then some b else getA l n
def putA : List AuthS → AuthS → List AuthS
  | [], a => [a]
  | b :: l, a => if b.id = a.id then a :: l else b :: putA l a
/-- equal entries: the bodies as strings -/
def sameEn (a b : EnD) : Bool := decide (a.term = b.term) && (decide (a.ek = b.ek) && ((strOfNums a.body).toList == (strOfNums b.body).toList))
def sameAt (E : List EnD) (x : EvD) : Bool := match E[(x.n - 1).toNat]? with
  | some y => sameEn x.en y
  | none => false
def clash (a : AuthS) (x : EvD) : Bool := decide (x.epoch < a.epoch ∨ (a.tick = x.tick ∧ a.who ≠ x.who))
def logKind (k : Int) : Bool := decide (k = 7 ∨ k = 10 ∨ k = 11 ∨ k = 12 ∨ k = 13)
def authOf (x : EvD) : AuthS := ⟨x.n, x.who, x.tick, x.epoch⟩
def judgeOn (E : List EnD) (x : EvD) (s : LogS) (c : CenS) : Int × LogS :=
  if x.kind = 10 then (0, ⟨s.cen.set x.who.toNat ⟨true, c.last⟩, s.auth⟩)
  else if x.kind = 11 then (0, ⟨s.cen.set x.who.toNat ⟨false, 0⟩, s.auth⟩)
  else if x.kind = 7 then (if x.n = c.last + 1 then (if sameAt E x then 0 else 6, ⟨s.cen.set x.who.toNat ⟨c.down, x.n⟩, s.auth⟩) else (8, s))
  else if x.kind = 12 then match getA s.auth x.n with
    | some a => if clash a x then (2, s) else (0, ⟨s.cen, putA s.auth (authOf x)⟩)
    | none => (0, ⟨s.cen, putA s.auth (authOf x)⟩)
  else (0, s)
def cenAt (l : List CenS) (z : Int) : Option CenS := if 0 ≤ z then l[z.toNat]? else none
def judgeL (E : List EnD) (x : EvD) (s : LogS) : Int × LogS :=
  if logKind x.kind then match cenAt s.cen x.who with
    | some c => if c.down = decide (x.kind = 11) then judgeOn E x s c else (8, s)
    | none => (8, s)
  else (0, s)
def passL (L : List EvD) : Nat → LogS × List (Int × Int)
  | 0 => (⟨List.replicate 9 ⟨false, 0⟩, []⟩, [])
  | k + 1 => match L[k]? with
    | some x => ((judgeL (logOf L) x (passL L k).1).2, if (judgeL (logOf L) x (passL L k).1).1 = 0 then (passL L k).2 else (passL L k).2 ++ [((k : Int), (judgeL (logOf L) x (passL L k).1).1)])
    | none => passL L k
theorem passL_succ {L : List EvD} {k : Nat} {x : EvD} (hx : L[k]? = some x) :
    passL L (k + 1) = ((judgeL (logOf L) x (passL L k).1).2, if (judgeL (logOf L) x (passL L k).1).1 = 0 then (passL L k).2 else (passL L k).2 ++ [((k : Int), (judgeL (logOf L) x (passL L k).1).1)]) := by
  simp only [passL, hx]
theorem putA_len : ∀ (l : List AuthS) a, (putA l a).length ≤ l.length + 1
  | [], a => by simp [putA]
  | b :: l, a => by
    have := putA_len l a
    simp only [putA]
    split <;> simp only [List.length_cons] <;> omega
theorem judgeL_len (E : List EnD) (x : EvD) (s : LogS) : (judgeL E x s).2.cen.length = s.cen.length ∧ (judgeL E x s).2.auth.length ≤ s.auth.length + 1 := by
  have hp := putA_len s.auth (authOf x)
  unfold judgeL
  split
  · split
    · split
      · unfold judgeOn
        split
        · simp
        · split
          · simp
          · split
            · split
              · simp
              · simp
            · split
              · split
                · split
                  · simp
                  · exact ⟨rfl, hp⟩
                · exact ⟨rfl, hp⟩
              · simp
      · simp
    · simp
  · simp
theorem passL_len (L : List EvD) : ∀ k, (passL L k).1.cen.length = 9 ∧ (passL L k).1.auth.length ≤ k ∧ (passL L k).2.length ≤ k
  | 0 => ⟨rfl, Nat.le_refl _, Nat.le_refl _⟩
  | k + 1 => by
    have h := passL_len L k
    cases hx : L[k]? with
    | none =>
      simp only [passL, hx]
      omega
    | some x =>
      rw [passL_succ hx]
      have := judgeL_len (logOf L) x (passL L k).1
      refine ⟨by simp only; omega, by simp only; omega, ?_⟩
      dsimp only
      split
      · omega
      · rw [List.length_append]
        simp only [List.length_cons, List.length_nil]
        omega
/-- no centre is ahead of the log of the prefix -/
def Behind (E : List EnD) (s : LogS) : Prop := ∀ c ∈ s.cen, 0 ≤ c.last ∧ c.last ≤ (E.length : Int)
theorem Behind.set {E E' : List EnD} {s : LogS} {j : Nat} {c : CenS} {au : List AuthS} (h : Behind E s) (hE : E.length ≤ E'.length) (hc : 0 ≤ c.last ∧ c.last ≤ (E'.length : Int)) : Behind E' ⟨s.cen.set j c, au⟩ := fun d hd => by
  rcases List.mem_or_eq_of_mem_set hd with hd | rfl
  · have := h d hd
    omega
  · exact hc
theorem logStep_len (acc : List EnD) (x : EvD) : acc.length ≤ (logStep acc x).length := by
  unfold logStep
  split <;> simp
theorem logOf_mono (L : List EvD) (k : Nat) : (logOf (L.take k)).length ≤ (logOf L).length := by
  have h : ∀ (M : List EvD) (acc : List EnD), acc.length ≤ (M.foldl logStep acc).length := by
    intro M
    induction M with
    | nil => intro acc; exact Nat.le_refl _
    | cons x M ih => intro acc; exact Nat.le_trans (logStep_len acc x) (ih _)
  have e : logOf L = (L.drop k).foldl logStep (logOf (L.take k)) := by
    unfold logOf
    rw [← List.foldl_append, List.take_append_drop]
  rw [e]
  exact h _ _
theorem next_in {acc : List EnD} {x : EvD} {c : CenS} (hk : x.kind = 7) (hn : x.n = c.last + 1) (hc : 0 ≤ c.last ∧ c.last ≤ (acc.length : Int)) : 0 ≤ x.n ∧ x.n ≤ ((logStep acc x).length : Int) := by
  have := logStep_len acc x
  by_cases h : x.n = (acc.length : Int) + 1
  · rw [logStep_hit hk h, List.length_append]
    simp only [List.length_cons, List.length_nil]
    omega
  · omega
theorem cenAt_mem {l : List CenS} {z : Int} {c : CenS} (h : cenAt l z = some c) : c ∈ l := by
  unfold cenAt at h
  split at h
  · exact List.mem_of_getElem? h
  · cases h
theorem judgeL_behind {E acc : List EnD} {x : EvD} {s : LogS} (h : Behind acc s) : Behind (logStep acc x) (judgeL E x s).2 := by
  have hl := logStep_len acc x
  have h' : Behind (logStep acc x) s := fun c hc => by
    have := h c hc
    omega
  unfold judgeL
  split
  · split
    · rename_i c hc
      have hcm := h c (cenAt_mem hc)
      split
      · unfold judgeOn
        split
        · exact h.set hl (by simp only; omega)
        · split
          · exact h.set hl (by simp only; omega)
          · split
            · rename_i k7
              split
              · rename_i hn
                exact h.set hl (next_in k7 hn hcm)
              · exact h'
            · split
              · split
                · split
                  · exact h'
                  · exact h'
                · exact h'
              · exact h'
      · exact h'
    · exact h'
  · exact h'
theorem passL_behind (L : List EvD) : ∀ k, Behind (logOf (L.take k)) (passL L k).1
  | 0 => fun c hc => by
    have : c = ⟨false, 0⟩ := List.eq_of_mem_replicate hc
    subst this
    exact ⟨Int.le_refl _, by simp⟩
  | k + 1 => by
    have h := passL_behind L k
    cases hx : L[k]? with
    | none =>
      have hk : L.length ≤ k := List.getElem?_eq_none_iff.1 hx
      simp only [passL, hx]
      rw [List.take_of_length_le (by omega)]
      rw [List.take_of_length_le hk] at h
      exact h
    | some x =>
      rw [passL_succ hx, logOf_snoc L k x hx]
      exact judgeL_behind h
/-- an accepted index lies in the log -/
theorem index_in {L : List EvD} {k : Nat} {x : EvD} {c : CenS} (hx : L[k]? = some x) (hc : cenAt (passL L k).1.cen x.who = some c) (hk : x.kind = 7) (hn : x.n = c.last + 1) : 1 ≤ x.n ∧ x.n ≤ ((logOf L).length : Int) := by
  have h1 := passL_behind L k c (cenAt_mem hc)
  have h2 := next_in hk hn h1
  rw [← logOf_snoc L k x hx] at h2
  have h3 := logOf_mono L (k + 1)
  omega
end Go.Proofs.YtjhhdklbiibhdaaGreatDoor
