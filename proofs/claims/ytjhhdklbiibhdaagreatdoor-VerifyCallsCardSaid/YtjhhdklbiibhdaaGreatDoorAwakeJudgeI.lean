/-
  The rows that the reference's Calls keeps, as cells; two rows of different types lie apart: no program in sight.
-/
import Derived.Test.YtjhhdklbiibhdaaGreatDoorAwakeJudgeH
import Derived.Laws.OwnMore
namespace Go.Proofs.YtjhhdklbiibhdaaGreatDoor
open Go Go.RowKit

def refCells (rs : List RefC) : List Value := rs.flatMap fun r => [.int .i64 r.owner, .int .i64 r.epoch, .bool r.closed]
theorem refCells_cons (r : RefC) (rs : List RefC) : refCells (r :: rs) = .int .i64 r.owner :: .int .i64 r.epoch :: .bool r.closed :: refCells rs := rfl
theorem refCells_len : ∀ rs : List RefC, (refCells rs).length = rs.length * 3
  | [] => rfl
  | r :: rs => by
    have := refCells_len rs
    simp only [refCells_cons, List.length_cons]
    omega
theorem refCells_snoc (rs : List RefC) (r : RefC) : refCells (rs ++ [r]) = refCells rs ++ [.int .i64 r.owner, .int .i64 r.epoch, .bool r.closed] := by
  simp [refCells]
theorem three (j : Nat) : (j + 1) * 3 = j * 3 + 1 + 1 + 1 := by omega
theorem refCells_at : ∀ (rs : List RefC) (j : Nat) (r : RefC), rs[j]? = some r → (refCells rs)[j * 3]? = some (.int .i64 r.owner) ∧ (refCells rs)[j * 3 + 1]? = some (.int .i64 r.epoch) ∧ (refCells rs)[j * 3 + 2]? = some (.bool r.closed)
  | [], _, _, h => by simp at h
  | y :: rs, 0, r, h => by
    simp at h
    subst h
    exact ⟨rfl, rfl, rfl⟩
  | y :: rs, j + 1, r, h => by
    obtain ⟨h0, h1, h2⟩ := refCells_at rs j r (by simpa using h)
    rw [refCells_cons, three]
    refine ⟨by simpa using h0, ?_, ?_⟩
    · rw [show j * 3 + 1 + 1 + 1 + 1 = (j * 3 + 1) + 1 + 1 + 1 by omega]
      simpa using h1
    · rw [show j * 3 + 1 + 1 + 1 + 2 = (j * 3 + 2) + 1 + 1 + 1 by omega]
      simpa using h2
theorem refCells_set2 : ∀ (rs : List RefC) (j : Nat) (r : RefC) (o e : Int), rs[j]? = some r → refCells (rs.set j ⟨o, e, r.closed⟩) = ((refCells rs).set (j * 3) (.int .i64 o)).set (j * 3 + 1) (.int .i64 e)
  | [], _, _, _, _, h => by simp at h
  | y :: rs, 0, r, o, e, h => by
    simp at h
    subst h
    rfl
  | y :: rs, j + 1, r, o, e, h => by
    have := refCells_set2 rs j r o e (by simpa using h)
    rw [List.set_cons_succ, refCells_cons, refCells_cons, this, show (j + 1) * 3 + 1 = (j * 3 + 1) + 1 + 1 + 1 by omega, three]
    rfl
theorem refCells_setc : ∀ (rs : List RefC) (j : Nat) (r : RefC) (c : Bool), rs[j]? = some r → refCells (rs.set j ⟨r.owner, r.epoch, c⟩) = (refCells rs).set (j * 3 + 2) (.bool c)
  | [], _, _, _, h => by simp at h
  | y :: rs, 0, r, c, h => by
    simp at h
    subst h
    rfl
  | y :: rs, j + 1, r, c, h => by
    have := refCells_setc rs j r c (by simpa using h)
    rw [List.set_cons_succ, refCells_cons, refCells_cons, this, show (j + 1) * 3 + 2 = (j * 3 + 2) + 1 + 1 + 1 by omega]
    rfl

def isOpen (rs : List RefC) (z : Int) : Bool := match refAt rs z with
  | some r => !r.closed
  | none => false
theorem refStep_shut {L : List EvD} {i : Nat} {x : EvD} {rs : List RefC} (k2 : ¬ x.kind = 2) (h : isOpen rs x.call = false) : refStep L i x rs = refShut x rs := by
  unfold refStep
  rw [if_neg k2]
  unfold isOpen at h
  cases hr : refAt rs x.call with
  | none => rfl
  | some r =>
    rw [hr] at h
    have : r.closed = true := by simpa using h
    simp [this]
theorem isOpen_at {rs : List RefC} {z : Int} (h : isOpen rs z = true) : ∃ (j : Nat) (r : RefC), z = (j : Int) + 1 ∧ rs[j]? = some r ∧ r.closed = false ∧ refAt rs z = some r := by
  unfold isOpen at h
  cases hr : refAt rs z with
  | none => rw [hr] at h; cases h
  | some r =>
    rw [hr] at h
    have hr' := hr
    unfold refAt at hr'
    split at hr'
    · rename_i hz
      exact ⟨(z - 1).toNat, r, by omega, hr', by simpa using h, rfl⟩
    · cases hr'
theorem refStep_open {L : List EvD} {i : Nat} {x : EvD} {rs : List RefC} {r : RefC} (k2 : ¬ x.kind = 2) (h : refAt rs x.call = some r) (hc : r.closed = false) : refStep L i x rs = refOpen x rs r := by
  unfold refStep
  rw [if_neg k2, h]
  simp [hc]
theorem isOpen_low {rs : List RefC} {z : Int} (h : z < 1 ∨ (rs.length : Int) < z) : isOpen rs z = false := by
  unfold isOpen refAt
  by_cases hz : 1 ≤ z
  · rw [if_pos hz, List.getElem?_eq_none (by omega)]
  · rw [if_neg hz]
theorem isOpen_in {rs : List RefC} {z : Int} {j : Nat} {r : RefC} (hz : z = (j : Int) + 1) (hr : rs[j]? = some r) : isOpen rs z = !r.closed := by
  unfold isOpen refAt
  rw [if_pos (by omega), show (z - 1).toNat = j by omega, hr]

/-- rows of different types lie in different blocks -/
theorem own_apart {W : World} {B B' T T' S S' n n' : Nat} {v v' : Value} {xs xs' : List Value} (h : W.ownsRow B T S v n xs) (h' : W.ownsRow B' T' S' v' n' xs') (hne : T ≠ T') : v.ownBlock = none ∨ v.ownBlock ≠ v'.ownBlock := by
  rcases h.2 with ⟨rfl, _⟩ | ⟨g, cap, cur, rfl, _, hg, _⟩
  · exact .inl rfl
  · refine .inr fun e => ?_
    rcases h'.2 with ⟨rfl, _⟩ | ⟨g', cap', cur', rfl, _, hg', _⟩
    · cases e
    · have e : g = g' := by simpa [Value.ownBlock] using e
      subst e
      rw [hg] at hg'
      simp at hg'
      exact hne hg'.2
end Go.Proofs.YtjhhdklbiibhdaaGreatDoor
