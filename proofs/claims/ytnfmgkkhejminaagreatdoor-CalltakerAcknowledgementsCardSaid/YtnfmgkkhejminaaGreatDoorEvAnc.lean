/-
  A part of the proof that the evaluator answers what the model answers, for every program that follows mixed orders; no other condition.
-/
import Derived.Test.YtnfmgkkhejminaaGreatDoorEvTrace
namespace Go.Ev
set_option linter.unusedSectionVars false
variable [OTab] [OVal]
variable {P : Program}

/-! ## the ancestors of an operation -/
theorem ancOf_bit (acc : List Nat) (j : Nat) : ∀ (l : List Edge) (s : Nat), (l.foldl (fun s e => if Region.binds .any e then s ||| 2 ^ e.on ||| (acc.getD e.on 0) else s) s).testBit j = true →
    s.testBit j = true ∨ ∃ e ∈ l, Region.binds .any e = true ∧ (j = e.on ∨ (acc.getD e.on 0).testBit j = true)
  | [], s, h => .inl h
  | e :: l, s, h => by
    simp only [List.foldl_cons] at h
    rcases ancOf_bit acc j l _ h with h1 | ⟨e', he, h2⟩
    · cases hb : Region.binds .any e with
      | false => rw [hb] at h1; exact .inl h1
      | true =>
        rw [hb, if_pos rfl] at h1
        simp only [Nat.testBit_or, Bool.or_eq_true] at h1
        rcases h1 with (h1 | h1) | h1
        · exact .inl h1
        · rw [Nat.testBit_two_pow] at h1
          exact .inr ⟨e, by simp, hb, .inl (by have := of_decide_eq_true h1; exact this.symm)⟩
        · exact .inr ⟨e, by simp, hb, .inr h1⟩
    · exact .inr ⟨e', by simp [he], h2⟩

def ancF (acc : List Nat) (l : List Oper) : List Nat := l.foldl (fun acc o => acc ++ [ancOf acc o]) acc
theorem ancF_len : ∀ (l : List Oper) (acc : List Nat), (ancF acc l).length = acc.length + l.length
  | [], acc => rfl
  | o :: l, acc => by
    show (ancF (acc ++ [ancOf acc o]) l).length = _
    rw [ancF_len l]; simp; omega
theorem ancF_pre : ∀ (l : List Oper) (acc : List Nat) (i : Nat), i < acc.length → (ancF acc l)[i]? = acc[i]?
  | [], acc, i, _ => rfl
  | o :: l, acc, i, h => by
    show (ancF (acc ++ [ancOf acc o]) l)[i]? = _
    rw [ancF_pre l _ i (by simp; omega), List.getElem?_append_left h]
theorem ancF_at : ∀ (l : List Oper) (acc : List Nat) (k : Nat) (o : Oper), l[k]? = some o → ∃ acc', (ancF acc l)[acc.length + k]? = some (ancOf acc' o) ∧ ∀ i, i < acc.length + k → acc'[i]? = (ancF acc l)[i]?
  | [], acc, k, o, h => by simp at h
  | o' :: l, acc, 0, o, h => by
    simp at h
    subst h
    refine ⟨acc, ?_, fun i hi => (ancF_pre (o' :: l) acc i (by omega)).symm⟩
    show (ancF (acc ++ [ancOf acc o']) l)[acc.length + 0]? = _
    rw [ancF_pre l _ _ (by simp)]
    simp
  | o' :: l, acc, k + 1, o, h => by
    obtain ⟨acc', h1, h2⟩ := ancF_at l (acc ++ [ancOf acc o']) k o (by simpa using h)
    have e : (acc ++ [ancOf acc o']).length + k = acc.length + (k + 1) := by simp; omega
    rw [e] at h1 h2
    exact ⟨acc', h1, h2⟩

theorem anc_step {ops : Array Oper} {i j : Nat} {o : Oper} (hb : backB ops.toList = true) (ho : ops[i]? = some o) (h : (ancAt ops i).testBit j = true) :
    ∃ e ∈ o.after, Region.binds .any e = true ∧ (j = e.on ∨ (ancAt ops e.on).testBit j = true) := by
  have hol : ops.toList[i]? = some o := by simpa using ho
  obtain ⟨acc', h1, h2⟩ := ancF_at ops.toList [] i o hol
  simp only [List.length_nil, Nat.zero_add] at h1 h2
  have hget : ancAt ops i = ancOf acc' o := by
    show (ancF [] ops.toList).getD i 0 = _
    rw [List.getD_eq_getElem?_getD, h1]; rfl
  rw [hget] at h
  unfold ancOf at h
  rcases ancOf_bit acc' j o.after.toList 0 h with h3 | ⟨e, he, hbi, h3⟩
  · simp at h3
  · refine ⟨e, by simpa using he, hbi, h3.imp id fun h4 => ?_⟩
    have hlt : e.on < i := by
      unfold backB at hb
      rw [List.all_eq_true] at hb
      have hm : (o, i) ∈ ops.toList.zipIdx := by rw [List.mem_zipIdx_iff_getElem?]; exact hol
      have := hb _ hm
      rw [List.all_eq_true] at this
      have := this e he
      simp only [hbi, Bool.not_true, Bool.false_or, decide_eq_true_eq] at this
      exact this
    have : acc'.getD e.on 0 = ancAt ops e.on := by
      show _ = (ancF [] ops.toList).getD e.on 0
      rw [List.getD_eq_getElem?_getD, List.getD_eq_getElem?_getD, h2 _ hlt]
    rw [this] at h4
    exact h4

theorem apart_or {ops : Array Oper} {p q : Nat} {op oq : Oper} (h : apartB ops = true) (hlt : q < p) (hp : ops[p]? = some op) (hq : ops[q]? = some oq) : oq.apart ops op = true ∨ (ancAt ops p).testBit q = true := by
  unfold apartB at h
  rw [List.all_eq_true] at h
  have hmp : (op, p) ∈ ops.toList.zipIdx := by rw [List.mem_zipIdx_iff_getElem?]; simpa using hp
  have hmq : (oq, q) ∈ ops.toList.zipIdx := by rw [List.mem_zipIdx_iff_getElem?]; simpa using hq
  have := h _ hmp
  rw [List.all_eq_true] at this
  have := this _ hmq
  simp only [Bool.or_eq_true, Bool.not_eq_true', decide_eq_false_iff_not] at this
  rcases this with (h1 | h1) | h1
  · omega
  · exact .inl h1
  · exact .inr h1

/-! ## equal values -/
theorem addr_beq {a b : Option Addr} (h : (a == b) = true) : a = b := by simpa using h
theorem bytes_eq {a b : ByteArray} (h : (a.data.toList == b.data.toList) = true) : a = b := by
  have h2 : a.data.toList = b.data.toList := by simpa using h
  obtain ⟨⟨a⟩⟩ := a
  obtain ⟨⟨b⟩⟩ := b
  simp at h2
  subst h2
  rfl
theorem veqS_eq {a b : Value} (h : veqS a b = true) : a = b := by
  unfold veqS at h
  split at h
  · simp at h; rw [h]
  · rw [Bool.and_eq_true, eqI_eq] at h
    have h1 : _ = _ := of_decide_eq_true h.1
    have h2 := h.2
    simp at h2
    rw [h1, h2]
  · rw [bytes_eq h]
  · rw [addr_beq h]
  · simp only [Bool.and_eq_true, beq_iff_eq] at h
    rw [h.1.1, h.1.2, h.2]
  · simp at h; rw [h]
  · rfl
  · rfl
  · rw [Bool.and_eq_true] at h
    have h1 : _ = _ := of_decide_eq_true h.1
    have h2 := Nat.eq_of_beq_eq_true h.2
    rw [h1, h2]
  · cases h
theorem veqL_eq : ∀ {a b : List Value}, veqL a b = true → a = b
  | [], [], _ => rfl
  | [], _ :: _, h => by cases h
  | _ :: _, [], h => by cases h
  | x :: a, y :: b, h => by
    simp only [veqL, Bool.and_eq_true] at h
    rw [veqS_eq h.1, veqL_eq h.2]
theorem veq_eq {a b : Value} (h : veq a b = true) : a = b := by
  unfold veq at h
  split at h
  · have := veqL_eq h; rw [show _ = _ from Array.ext' this]
  · have := veqL_eq h; rw [show _ = _ from Array.ext' this]
  · exact veqS_eq h

/-! ## how many are left -/
def left (listed : Array Bool) (n : Nat) : Nat := (List.range n).countP fun i => !listed.getD i true
theorem left_set {listed : Array Bool} {i : Nat} : ∀ n, (listed.getD i true = false) → left (listed.setIfInBounds i true) n + (if i < n then 1 else 0) = left listed n
  | 0, _ => by simp [left]
  | n + 1, h => by
    have ih := left_set (listed := listed) n h
    unfold left at ih ⊢
    simp only [List.range_succ, List.countP_append, List.countP_singleton]
    have hlt : i < listed.size := by
      rcases Nat.lt_or_ge i listed.size with h' | h'
      · exact h'
      · simp [Array.getElem?_eq_none h'] at h
    by_cases e : n = i
    · subst e
      have h1 : (listed.setIfInBounds n true).getD n true = true := by simp [hlt]
      rw [h1, h]
      simp at ih ⊢
      omega
    · rw [getD_set_ne true (Ne.symm e)]
      have hi1 : (if i < n + 1 then 1 else 0) = (if i < n then 1 else 0) := by
        by_cases h2 : i < n
        · rw [if_pos h2, if_pos (show i < n + 1 by omega)]
        · rw [if_neg h2, if_neg (show ¬ i < n + 1 by omega)]
      rw [hi1, ← ih]
      omega
end Go.Ev
