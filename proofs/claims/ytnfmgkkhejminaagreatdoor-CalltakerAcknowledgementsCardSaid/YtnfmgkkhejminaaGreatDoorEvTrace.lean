/-
  A part of the proof that the evaluator answers what the model answers, for every program that follows mixed orders; no other condition.
-/
import Derived.Test.YtnfmgkkhejminaaGreatDoorEvText
namespace Go.Ev
set_option linter.unusedSectionVars false
variable [OTab] [OVal]
variable {P : Program}

/-- the run of a region in the order of its text: the temporaries and the memory ahead of each operation, what it yields, whether it is carried out, whether it writes into what was there -/
structure Trace (P : Program) (E : Env) (ops : Array Oper) (i0 : Nat) (pend : List Pend) (louds : List Nat) (A : Nat → T Value) (S : Nat → St) (V : Nat → Value) (W L : Nat → Bool) : Prop where
  put : ∀ s o, i0 ≤ s → ops[s]? = some o → A (s + 1) = putA (A s) o.dst (V s)
  want : ∀ s o, i0 ≤ s → ops[s]? = some o → W s = wantedA ops (A s) o.guard
  skip : ∀ s o, i0 ≤ s → ops[s]? = some o → W s = false → V s = undef ∧ S (s + 1) = S s ∧ L s = false
  run : ∀ s o, i0 ≤ s → ops[s]? = some o → W s = true → ∃ st1, evOp P o.op E (A s) (setLow (S s) (S s).nxt) = some (V s, st1) ∧ S (s + 1) = setLow st1 (minN st1.low (S s).low) ∧
    (L s = true ↔ st1.low < (S s).nxt) ∧ (cls P o.op = 0 ∨ ((∀ j ∈ louds, (ancAt ops s).testBit j = true) ∧ ∀ j, i0 ≤ j → j < s → L j = true → (ancAt ops s).testBit j = true))
  pends : ∀ k o, i0 ≤ k → ops[k]? = some o → L k = true → ∀ p ∈ pend, again P (S (k + 1)) (ancAt ops k) p = true
  redo : ∀ s k o ok, i0 ≤ s → s < k → ops[s]? = some o → ops[k]? = some ok → W s = true → L s = false → L k = true → cls P o.op ≠ 0 → again P (S (k + 1)) (ancAt ops k) ⟨s, o.op, A s, V s⟩ = true

def upN {α : Type} (f : Nat → α) (i : Nat) (v : α) : Nat → α := fun s => if s = i then v else f s
theorem upN_same {α : Type} (f : Nat → α) (i : Nat) (v : α) : upN f i v i = v := by simp [upN]
theorem upN_ne {α : Type} (f : Nat → α) {i s : Nat} (v : α) (h : s ≠ i) : upN f i v s = f s := by simp [upN, h]

theorem trace_of {E : Env} {ops : Array Oper} : ∀ (l : List (Oper × Nat)) (i : Nat) (A : T Value) (st : St) (pend : List Pend) (louds : List Nat) (r : OpsRes), (∀ j : Nat, l[j]? = (ops[i + j]?).map (·, i + j)) →
    evDraws P E ops l A st pend louds = some r → ∃ fA fS fV fW fL, fA i = A ∧ fS i = st ∧ fA (i + l.length) = r.A ∧ fS (i + l.length) = r.st ∧ Trace P E ops i pend louds fA fS fV fW fL
  | [], i, A, st, pend, louds, r, hl, h => by
    have h' : some (⟨A, st⟩ : OpsRes) = some r := h
    cases h'
    have hnone : ∀ s o, i ≤ s → ops[s]? = some o → False := fun s o hs ho => by
      have := hl (s - i)
      rw [show i + (s - i) = s from by omega, ho] at this
      simp at this
    exact ⟨fun _ => A, fun _ => st, fun _ => undef, fun _ => false, fun _ => false, rfl, rfl, rfl, rfl,
      ⟨fun s o hs ho => (hnone s o hs ho).elim, fun s o hs ho => (hnone s o hs ho).elim, fun s o hs ho => (hnone s o hs ho).elim, fun s o hs ho => (hnone s o hs ho).elim, fun s o hs ho => (hnone s o hs ho).elim, fun s k o ok hs _ ho => (hnone s o hs ho).elim⟩⟩
  | oi :: l, i, A, st, pend, louds, r, hl, h => by
    have h0 := hl 0
    simp only [List.getElem?_cons_zero, Nat.add_zero] at h0
    obtain ⟨o, ho, hoi⟩ : ∃ o, ops[i]? = some o ∧ oi = (o, i) := by
      cases ho : ops[i]? with
      | none => rw [ho] at h0; simp at h0
      | some o => rw [ho] at h0; simp at h0; exact ⟨o, rfl, h0⟩
    subst hoi
    have hnext : ∀ j : Nat, l[j]? = (ops[i + 1 + j]?).map (·, i + 1 + j) := fun j => by
      have := hl (j + 1)
      rw [show i + (j + 1) = i + 1 + j from by omega] at this
      simpa using this
    have hlen : i + 1 + l.length = i + (l.length + 1) := by omega
    rcases evDraws_cons h with ⟨hw, h1⟩ | ⟨hw, v, st1, h1, hc, h2⟩
    · -- left out
      obtain ⟨fA, fS, fV, fW, fL, e1, e2, e3, e4, T⟩ := trace_of l (i + 1) _ _ _ _ _ hnext h1
      refine ⟨upN fA i A, upN fS i st, upN fV i undef, upN fW i false, upN fL i false, upN_same _ _ _, upN_same _ _ _, ?_, ?_, ?_⟩
      · rw [upN_ne _ _ (by simp), List.length_cons, ← hlen]; exact e3
      · rw [upN_ne _ _ (by simp), List.length_cons, ← hlen]; exact e4
      · refine ⟨?_, ?_, ?_, ?_, ?_, ?_⟩
        · intro s o' hs ho'
          by_cases e : s = i
          · subst e
            rw [ho] at ho'; cases ho'
            rw [upN_same, upN_same, upN_ne _ _ (by omega)]; exact e1
          · rw [upN_ne _ _ e, upN_ne _ _ e, upN_ne _ _ (by omega)]; exact T.put s o' (by omega) ho'
        · intro s o' hs ho'
          by_cases e : s = i
          · subst e
            rw [ho] at ho'; cases ho'
            rw [upN_same, upN_same]; exact hw.symm
          · rw [upN_ne _ _ e, upN_ne _ _ e]; exact T.want s o' (by omega) ho'
        · intro s o' hs ho'
          by_cases e : s = i
          · subst e
            intro _
            rw [upN_same, upN_same, upN_same, upN_ne _ _ (by omega)]
            exact ⟨rfl, e2, rfl⟩
          · rw [upN_ne _ _ e, upN_ne _ _ e, upN_ne _ _ e, upN_ne _ _ e, upN_ne _ _ (by omega)]; exact T.skip s o' (by omega) ho'
        · intro s o' hs ho'
          by_cases e : s = i
          · subst e
            rw [upN_same]
            intro hh; cases hh
          · rw [upN_ne _ _ e, upN_ne _ _ e, upN_ne _ _ e, upN_ne _ _ e, upN_ne _ _ e, upN_ne _ _ (by omega)]
            intro hW
            obtain ⟨st1, q1, q2, q3, q4⟩ := T.run s o' (by omega) ho' hW
            refine ⟨st1, q1, q2, q3, q4.imp id fun q => ⟨q.1, fun j hj hjs hL => ?_⟩⟩
            by_cases ej : j = i
            · subst ej; rw [upN_same] at hL; cases hL
            · rw [upN_ne _ _ ej] at hL; exact q.2 j (by omega) hjs hL
        · intro k o' hk hok
          by_cases e : k = i
          · subst e
            rw [upN_same]
            intro hh; cases hh
          · rw [upN_ne _ _ e, upN_ne _ _ (by omega)]; exact T.pends k o' (by omega) hok
        · intro s k o' ok hs hsk hos hok
          by_cases e : s = i
          · subst e
            rw [upN_same]
            intro hh; cases hh
          · rw [upN_ne _ _ e, upN_ne _ _ e, upN_ne _ _ e, upN_ne _ _ e, upN_ne _ _ (by omega), upN_ne _ _ (by omega)]
            exact T.redo s k o' ok (by omega) hsk hos hok
    · -- carried out
      have key : ∀ (lo : Bool) (pend' : List Pend) (louds' : List Nat), (lo = true ↔ st1.low < st.nxt) → (lo = false → pend' = if cls P o.op = 0 then pend else ⟨i, o.op, A, v⟩ :: pend) → (lo = false → louds' = louds) →
          (lo = true → pend' = pend ∧ louds' = i :: louds ∧ pend.all (again P (setLow st1 (minN st1.low st.low)) (ancAt ops i)) = true) →
          evDraws P E ops l (putA A o.dst v) (setLow st1 (minN st1.low st.low)) pend' louds' = some r →
          ∃ fA fS fV fW fL, fA i = A ∧ fS i = st ∧ fA (i + (l.length + 1)) = r.A ∧ fS (i + (l.length + 1)) = r.st ∧ Trace P E ops i pend louds fA fS fV fW fL := by
        intro lo pend' louds' hlo hp hq hr h3
        obtain ⟨fA, fS, fV, fW, fL, e1, e2, e3, e4, T⟩ := trace_of l (i + 1) _ _ _ _ _ hnext h3
        refine ⟨upN fA i A, upN fS i st, upN fV i v, upN fW i true, upN fL i lo, upN_same _ _ _, upN_same _ _ _, ?_, ?_, ?_⟩
        · rw [upN_ne _ _ (by simp), ← hlen]; exact e3
        · rw [upN_ne _ _ (by simp), ← hlen]; exact e4
        · refine ⟨?_, ?_, ?_, ?_, ?_, ?_⟩
          · intro s o' hs ho'
            by_cases e : s = i
            · subst e
              rw [ho] at ho'; cases ho'
              rw [upN_same, upN_same, upN_ne _ _ (by omega)]; exact e1
            · rw [upN_ne _ _ e, upN_ne _ _ e, upN_ne _ _ (by omega)]; exact T.put s o' (by omega) ho'
          · intro s o' hs ho'
            by_cases e : s = i
            · subst e
              rw [ho] at ho'; cases ho'
              rw [upN_same, upN_same]; exact hw.symm
            · rw [upN_ne _ _ e, upN_ne _ _ e]; exact T.want s o' (by omega) ho'
          · intro s o' hs ho'
            by_cases e : s = i
            · subst e
              rw [upN_same]
              intro hh; cases hh
            · rw [upN_ne _ _ e, upN_ne _ _ e, upN_ne _ _ e, upN_ne _ _ e, upN_ne _ _ (by omega)]; exact T.skip s o' (by omega) ho'
          · intro s o' hs ho'
            by_cases e : s = i
            · subst e
              rw [ho] at ho'; cases ho'
              intro _
              simp only [upN_same]
              rw [upN_ne _ _ (by omega)]
              refine ⟨st1, h1, e2, hlo, hc.imp id fun q => ⟨fun j hj => List.all_eq_true.1 q j hj, fun j hj hjs _ => by omega⟩⟩
            · rw [upN_ne _ _ e, upN_ne _ _ e, upN_ne _ _ e, upN_ne _ _ e, upN_ne _ _ e, upN_ne _ _ (by omega)]
              intro hW
              obtain ⟨st2, q1, q2, q3, q4⟩ := T.run s o' (by omega) ho' hW
              refine ⟨st2, q1, q2, q3, q4.imp id fun q => ⟨fun j hj => ?_, fun j hj hjs hL => ?_⟩⟩
              · cases lo with
                | false => rw [hq rfl] at q; exact q.1 j hj
                | true => rw [(hr rfl).2.1] at q; exact q.1 j (by simp [hj])
              · by_cases ej : j = i
                · subst ej
                  rw [upN_same] at hL
                  subst hL
                  rw [(hr rfl).2.1] at q
                  exact q.1 j (by simp)
                · rw [upN_ne _ _ ej] at hL; exact q.2 j (by omega) hjs hL
          · intro k o' hk hok
            by_cases e : k = i
            · subst e
              rw [upN_same, upN_ne _ _ (by omega), e2]
              intro hL p hp'
              exact List.all_eq_true.1 (hr hL).2.2 p hp'
            · rw [upN_ne _ _ e, upN_ne _ _ (by omega)]
              intro hL p hp'
              refine T.pends k o' (by omega) hok hL p ?_
              cases lo with
              | false =>
                rw [hp rfl]
                split
                · exact hp'
                · simp [hp']
              | true => rw [(hr rfl).1]; exact hp'
          · intro s k o' ok hs hsk hos hok
            by_cases e : s = i
            · subst e
              rw [ho] at hos; cases hos
              simp only [upN_same]
              rw [upN_ne _ _ (by omega), upN_ne _ _ (by omega)]
              intro _ hlf hL hcl
              refine T.pends k ok (by omega) hok hL _ ?_
              rw [hp hlf, if_neg hcl]
              simp
            · rw [upN_ne _ _ e, upN_ne _ _ e, upN_ne _ _ e, upN_ne _ _ e, upN_ne _ _ (by omega), upN_ne _ _ (by omega)]
              exact T.redo s k o' ok (by omega) hsk hos hok
      rcases h2 with ⟨hge, h3⟩ | ⟨hlt, hag, h3⟩
      · exact key false _ _ ⟨fun hh => (by cases hh), fun hh => (by omega)⟩ (fun _ => rfl) (fun _ => rfl) (fun hh => (by cases hh)) h3
      · exact key true _ _ ⟨fun _ => hlt, fun _ => rfl⟩ (fun hh => (by cases hh)) (fun hh => (by cases hh)) (fun _ => ⟨rfl, rfl, hag⟩) h3
end Go.Ev
