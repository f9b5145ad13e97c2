/-
  The reference's pass over the calls of a trace finds what the program's pass finds: no program in sight.
-/
import Derived.Test.YtjhhdklbiibhdaaGreatDoorAwakeJudgeF
namespace Go.Proofs.YtjhhdklbiibhdaaGreatDoor
open Go Go.RowKit

/-- what the reference knows of a call -/
structure RefC where
  owner : Int
  epoch : Int
  closed : Bool
def refAt (rs : List RefC) (z : Int) : Option RefC := if 1 ≤ z then rs[(z - 1).toNat]? else none
def refOpen (x : EvD) (rs : List RefC) (r : RefC) : Int × List RefC :=
  if x.kind = 3 then (if x.who < 0 then (8, rs) else if x.epoch ≤ r.epoch then (2, rs) else (0, rs.set (x.call - 1).toNat ⟨x.who, x.epoch, r.closed⟩))
  else if x.kind = 6 then (if r.owner < 0 ∨ r.owner ≠ x.who ∨ r.epoch ≠ x.epoch then (8, rs) else (0, rs.set (x.call - 1).toNat ⟨r.owner, r.epoch, true⟩))
  else (0, rs)
def refShut (x : EvD) (rs : List RefC) : Int × List RefC := (if x.kind = 3 ∨ x.kind = 4 ∨ x.kind = 5 ∨ x.kind = 6 then 8 else 0, rs)
def refStep (L : List EvD) (i : Nat) (x : EvD) (rs : List RefC) : Int × List RefC :=
  if x.kind = 2 then
    if x.call = (rs.length : Int) + 1 ∧ 0 ≤ x.who then (if nextOk L i x then 0 else 1, rs ++ [⟨-1, 0, false⟩]) else (8, rs)
  else match refAt rs x.call with
    | none => refShut x rs
    | some r => if r.closed then refShut x rs else refOpen x rs r

def toR (s : CallS) : RefC := ⟨if s.owned then s.owner else -1, s.epoch, !s.opn⟩
def GoodS (s : CallS) : Prop := s.owned = true → 0 ≤ s.owner
theorem refAt_map (ss : List CallS) (z : Int) : refAt (ss.map toR) z = (callAt ss z).map toR := by
  unfold refAt callAt
  split
  · simp
  · rfl
theorem mem_set {ss : List CallS} {j : Nat} {s : CallS} (h : ∀ s ∈ ss, GoodS s) (hs : GoodS s) : ∀ t ∈ ss.set j s, GoodS t := fun t ht => by
  rcases List.mem_or_eq_of_mem_set ht with ht | rfl
  · exact h t ht
  · exact hs
theorem refStep_judge (L : List EvD) (i : Nat) (x : EvD) (ss : List CallS) (h : ∀ s ∈ ss, GoodS s) :
    refStep L i x (ss.map toR) = ((judge L i x ss).1, (judge L i x ss).2.map toR) ∧ ∀ s ∈ (judge L i x ss).2, GoodS s := by
  unfold refStep judge
  by_cases k2 : x.kind = 2
  · rw [if_pos k2, if_pos k2, List.length_map]
    by_cases hc : x.call = (ss.length : Int) + 1 ∧ 0 ≤ x.who
    · rw [if_pos hc, if_pos hc]
      refine ⟨by simp [toR], fun s hs => ?_⟩
      rcases List.mem_append.1 hs with hs | hs
      · exact h s hs
      · obtain rfl := List.mem_singleton.1 hs
        intro e
        cases e
    · rw [if_neg hc, if_neg hc]
      exact ⟨rfl, h⟩
  · rw [if_neg k2, if_neg k2, refAt_map]
    by_cases k36 : x.kind = 3 ∨ x.kind = 4 ∨ x.kind = 5 ∨ x.kind = 6
    · rw [if_pos k36]
      cases hs : callAt ss x.call with
      | none => exact ⟨by simp [refShut, k36], h⟩
      | some s =>
        have hmem : s ∈ ss := by
          unfold callAt at hs
          split at hs
          · exact List.mem_of_getElem? hs
          · cases hs
        have hg := h s hmem
        have hat : ss[(x.call - 1).toNat]? = some s := by
          unfold callAt at hs
          split at hs
          · exact hs
          · cases hs
        have hset : ss.set (x.call - 1).toNat s = ss := by
          obtain ⟨hl, rfl⟩ := List.getElem?_eq_some_iff.1 hat
          exact List.set_getElem_self hl
        obtain ⟨opn, owned, owner, epoch⟩ := s
        cases opn with
        | false => exact ⟨by simp [refShut, k36, toR], h⟩
        | true =>
          simp only [Option.map_some, toR, Bool.not_true, Bool.false_eq_true, if_false, if_true, refOpen, change]
          by_cases k3 : x.kind = 3
          · rw [if_pos k3, if_pos k3]
            by_cases hw : x.who < 0
            · simp only [if_pos hw]
              exact ⟨by rw [hset], by rw [hset]; exact h⟩
            · simp only [if_neg hw]
              by_cases he : x.epoch ≤ epoch
              · simp only [if_pos he]
                exact ⟨by rw [hset], by rw [hset]; exact h⟩
              · simp only [if_neg he]
                exact ⟨by rw [List.map_set]; rfl, mem_set h (fun _ => by show 0 ≤ x.who; omega)⟩
          · rw [if_neg k3, if_neg k3]
            by_cases k6 : x.kind = 6
            · rw [if_pos k6, if_pos k6]
              cases owned with
              | false =>
                simp only [Bool.false_eq_true, if_false, false_and]
                rw [if_pos (.inl (by decide))]
                exact ⟨by rw [hset], by rw [hset]; exact h⟩
              | true =>
                have hg' : 0 ≤ owner := hg rfl
                simp only [if_true, true_and]
                by_cases hh : x.who = owner ∧ x.epoch = epoch
                · rw [if_pos hh, if_neg (by omega)]
                  exact ⟨by rw [List.map_set]; rfl, mem_set h (fun _ => hg')⟩
                · rw [if_neg hh, if_pos (by omega)]
                  exact ⟨by rw [hset], by rw [hset]; exact h⟩
            · rw [if_neg k6, if_neg k6]
              exact ⟨by rw [hset], by rw [hset]; exact h⟩
    · rw [if_neg k36]
      have k3 : ¬ x.kind = 3 := fun e => k36 (.inl e)
      have k6 : ¬ x.kind = 6 := fun e => k36 (.inr (.inr (.inr e)))
      refine ⟨?_, h⟩
      cases callAt ss x.call with
      | none => simp [refShut, k36]
      | some s =>
        simp only [Option.map_some]
        split
        · simp [refShut, k36]
        · simp [refOpen, k3, k6]

def passR (L : List EvD) : Nat → List RefC × List (Int × Int)
  | 0 => ([], [])
  | k + 1 => match L[k]? with
    | some x => ((refStep L k x (passR L k).1).2, if (refStep L k x (passR L k).1).1 = 0 then (passR L k).2 else (passR L k).2 ++ [((k : Int), (refStep L k x (passR L k).1).1)])
    | none => passR L k
theorem passR_succ {L : List EvD} {k : Nat} {x : EvD} (hx : L[k]? = some x) :
    passR L (k + 1) = ((refStep L k x (passR L k).1).2, if (refStep L k x (passR L k).1).1 = 0 then (passR L k).2 else (passR L k).2 ++ [((k : Int), (refStep L k x (passR L k).1).1)]) := by
  simp only [passR, hx]
theorem passR_eq (L : List EvD) : ∀ k, passR L k = ((passC L k).1.map toR, (passC L k).2) ∧ ∀ s ∈ (passC L k).1, GoodS s
  | 0 => ⟨rfl, fun s hs => by cases hs⟩
  | k + 1 => by
    obtain ⟨h1, h2⟩ := passR_eq L k
    cases hx : L[k]? with
    | none =>
      simp only [passR, passC, hx]
      exact ⟨h1, h2⟩
    | some x =>
      obtain ⟨h3, h4⟩ := refStep_judge L k x (passC L k).1 h2
      rw [passR_succ hx, passC_succ hx, h1]
      exact ⟨by rw [h3], h4⟩
theorem passR_len (L : List EvD) (k : Nat) : (passR L k).1.length ≤ k ∧ (passR L k).2.length ≤ k := by
  rw [(passR_eq L k).1]
  have := passC_len L k
  simpa using this
end Go.Proofs.YtjhhdklbiibhdaaGreatDoor
