/-
  A part of the proof that the evaluator answers what the model answers, for every program that follows mixed orders; no other condition.
-/
import Derived.Test.YtnfmgkkhejminaaGreatDoorEvCall
namespace Go.Ev
open Go.RowKit
variable {P : Program}

/-! ## two runs, one behind the other: the second has the first one's answer and is begun in whatever world has come since -/
def okAfter (n : Nat) (b : Bool) (r : Option (Value × St)) : Bool :=
  match r with
  | some (.bool c, st) => (match c, b with | true, true => true | false, false => true | _, _ => false) && Nat.ble n st.low
  | _ => false
/-- a value of one cell -/
def plainOne : Value → Bool
  | .int _ _ => true
  | .string _ => true
  | .bool _ => true
  | .slice _ _ _ => true
  | _ => false
/-- n such values -/
def aggN (n : Nat) : Value → Bool
  | .agg ⟨l⟩ => Nat.beq l.length n && l.all plainOne
  | _ => false
noncomputable def okTwo [OTab] (P : Program) (f1 : FuncId) (args : List Value) (f2 : FuncId) (rest : List Value) (G : Nat) (l : List Tab) (b : Bool) (n : Nat) : Bool :=
  match run P f1 args (stT G l) with
  | some (v, st) => aggN n v && Nat.ble G st.low && okAfter st.nxt b (run P f2 (v :: rest) ⟨st.mem, st.nxt, st.nxt⟩)
  | _ => false

section
variable [OTab] [OVal]
theorem conc_one {m : Map} {v c : Value} (h : plainOne v = true) (hc : conc m v = some c) : c.oneCell' = true := by
  unfold plainOne at h
  split at h
  · simp [conc] at hc; subst hc; rfl
  · simp [conc] at hc; subst hc; rfl
  · simp [conc] at hc; subst hc; rfl
  · rename_i a len code
    rcases a with _ | ⟨b, off, _ | back⟩
    · rcases len with _ | len <;> rcases code with _ | code <;> simp [conc] at hc
      subst hc
      rfl
    · simp only [conc] at hc
      obtain ⟨x, _, rfl⟩ := Option.map_eq_some_iff.1 hc
      rfl
    · rcases len with _ | len
      · simp only [conc] at hc
        split at hc
        · cases hc
        · obtain ⟨x, _, rfl⟩ := Option.map_eq_some_iff.1 hc
          split <;> rfl
      · simp [conc] at hc
  · cases h
theorem concL_one {m : Map} : ∀ {l c : List Value}, l.all plainOne = true → concL m l = some c → c.length = l.length ∧ ∀ v ∈ c, v.oneCell' = true
  | [], c, _, h => by
    rw [concL_nil] at h
    cases h
    exact ⟨rfl, fun v hv => by cases hv⟩
  | v :: r, c, ha, h => by
    obtain ⟨a, b, h1, h2, rfl⟩ := concL_cons h
    simp only [List.all_cons, Bool.and_eq_true] at ha
    obtain ⟨h3, h4⟩ := concL_one ha.2 h2
    refine ⟨by simp [h3], fun u hu => ?_⟩
    rcases List.mem_cons.1 hu with rfl | hu
    · exact conc_one ha.1 h1
    · exact h4 u hu
theorem aggN_conc {m : Map} {n : Nat} {v c : Value} (h : aggN n v = true) (hc : conc m v = some c) : ∃ cs : List Value, c = .agg ⟨cs⟩ ∧ cs.length = n ∧ ∀ u ∈ cs, u.oneCell' = true := by
  unfold aggN at h
  split at h
  · rename_i l
    rw [Bool.and_eq_true] at h
    simp only [conc] at hc
    obtain ⟨cs, h1, rfl⟩ := Option.map_eq_some_iff.1 hc
    obtain ⟨h2, h3⟩ := concL_one h.2 h1
    exact ⟨cs, rfl, h2.trans (Nat.eq_of_beq_eq_true h.1), h3⟩
  · cases h
end

theorem okAfter_some {n : Nat} {b : Bool} {r : Option (Value × St)} (h : okAfter n b r = true) : ∃ st, r = some (.bool b, st) ∧ n ≤ st.low := by
  unfold okAfter at h
  split at h
  · rename_i c st
    rw [Bool.and_eq_true] at h
    obtain ⟨h1, h2⟩ := h
    cases c <;> cases b <;> first | exact ⟨_, rfl, Nat.le_of_ble_eq_true h2⟩ | cases h1
  · cases h

theorem Rel.below {m : Map} {st : St} {w W : World} [OTab] [OVal] (h : Rel P m st w) (hb : Below w.heap.size w W) : Rel P m st W where
  glob := h.glob
  inb := fun b x hx => Nat.lt_of_lt_of_le (h.inb b x hx) hb.size
  blks := fun b x k hx hk => (h.blks b x k hx hk).heap (hb.block _ (h.inb b x hx))
  dist := h.dist
  wf := h.wf

section
variable [OTab] [OVal]
theorem two_of_run (hmix : P.follows .mixedOrders = true) (hC : CallsOk P) {f1 f2 : FuncId} {args cargs rest crest : List Value} {G : Nat} {l : List Tab} {b : Bool} {n : Nat} (hG : P.globals.size ≤ G) (hl : ∀ t ∈ l, t.g < G)
    (h : okTwo P f1 args f2 rest G l b n = true) (ha : ∀ m : Map, concL m args = some cargs) (hb : ∀ m : Map, concL m rest = some crest) {w : World} (hw : G ≤ w.heap.size) (hT : ∀ t ∈ l, t.In w) :
    Calls P f1 ⟨cargs⟩ w fun e w' => ∃ cs : List Value, e = .returned (.agg ⟨cs⟩) ∧ cs.length = n ∧ (∀ u ∈ cs, u.oneCell' = true) ∧ Below w.heap.size w w' ∧ ∀ W, Below w'.heap.size w' W → Calls P f2 ⟨.agg ⟨cs⟩ :: crest⟩ W fun e W' => e = .returned (.bool b) ∧ Below W.heap.size W W' := by
  unfold okTwo at h
  cases h1 : run P f1 args (stT G l) with
  | none => rw [h1] at h; cases h
  | some r =>
    obtain ⟨v, st⟩ := r
    rw [h1] at h
    simp only [Bool.and_eq_true] at h
    obtain ⟨⟨hagg, hlow⟩, h2⟩ := h
    have hlow := Nat.le_of_ble_eq_true hlow
    obtain ⟨st2, h2, hlow2⟩ := okAfter_some h2
    have hr := rel_tabs (P := P) hG hw hl hT
    obtain ⟨m', w', cv, s, hv, _, q⟩ := run_sound hmix hC h1 hr (fun b hb _ => if_neg (by have : G ≤ b := hb; omega)) (ha _)
    have hc := s.chk G w (Nat.le_refl _) hlow ⟨fun b x k _ hk hb => (by rw [hr.wf b hb] at hk; cases hk), Nat.le_refl _, fun _ _ => rfl⟩
    obtain ⟨vs, rfl, hcs1, hcs2⟩ := aggN_conc hagg hv
    have hB : Below w.heap.size w w' := ⟨s.os, s.tape, s.output, s.size, fun k hk => hc.2.2 k hk⟩
    have key : ∀ W, Below w'.heap.size w' W → Calls P f2 ⟨.agg ⟨vs⟩ :: crest⟩ W fun e W' => e = .returned (.bool b) ∧ Below W.heap.size W W' := fun W hW => by
      have hr2 : Rel P m' ⟨st.mem, st.nxt, st.nxt⟩ W := by
        have := s.rel.below hW
        exact ⟨this.glob, this.inb, this.blks, this.dist, this.wf⟩
      have hfree : Free m' st.nxt st2.nxt := fun b hb _ => by
        cases e : m' b with
        | none => rfl
        | some x =>
          rcases s.newm b x e with h | ⟨_, h⟩
          · obtain ⟨hg, _⟩ := gmap_some h
            have : (stT G l).nxt ≤ st.nxt := s.nxt
            have : G ≤ st.nxt := this
            omega
          · omega
      have hargs : concL m' (v :: rest) = some (.agg ⟨vs⟩ :: crest) := by
        show (match conc m' v, concL m' rest with | some a, some b => some (a :: b) | _, _ => none) = _
        rw [hv, hb]
      obtain ⟨m2, W', cv2, s2, hv2, _, q2⟩ := run_sound hmix hC h2 hr2 hfree hargs
      have hv' : some (Value.bool b) = some cv2 := by rw [← hv2]; simp [conc]
      cases hv'
      have hc2 := s2.chk st.nxt W (Nat.le_refl _) hlow2 ⟨fun b x k _ hk hb => (by rw [hr2.wf b hb] at hk; cases hk), Nat.le_refl _, fun _ _ => rfl⟩
      have hB2 : Below W.heap.size W W' := ⟨s2.os, s2.tape, s2.output, s2.size, fun k hk => hc2.2.2 k hk⟩
      intro cs
      obtain ⟨fr, a1, a2, a3⟩ := q2 cs
      exact ⟨.returned (.bool b), W', fr, ⟨rfl, hB2⟩, a1, a2, a3⟩
    intro cs
    obtain ⟨fr, a1, a2, a3⟩ := q cs
    exact ⟨.returned (.agg ⟨vs⟩), w', fr, ⟨vs, rfl, hcs1, hcs2, hB, key⟩, a1, a2, a3⟩
end
end Go.Ev
