/-
  A part of the proof that the evaluator answers what the model answers, for every program that follows mixed orders; no other condition.
-/
import Derived.Test.YtnfmgkkhejminaaGreatDoorEvRun
namespace Go.Ev
open Go.RowKit
variable {P : Program}

/-! ## where a run begins: the program's variables; of some it is known that they are tables of numbers -/
noncomputable def memT : List Tab → Mem
  | [] => .lf
  | t :: r => (memT r).put (some (.cells t.vals.length (fillT t.vals 0 .lf))) t.g
def limT : List Tab → Nat → Nat
  | [], _ => 0
  | t :: r, b => if b = t.g then t.vals.length else limT r b
def gmap (G : Nat) (l : List Tab) : Map := fun b => if b < G then some ⟨b, 0, limT l b⟩ else none
noncomputable def stT (G : Nat) (l : List Tab) : St := ⟨memT l, G, G⟩

theorem memT_get : ∀ (l : List Tab) (b : Nat) (k : Blk), (memT l).get b = some k → ∃ t ∈ l, t.g = b ∧ k = .cells t.vals.length (fillT t.vals 0 .lf) ∧ limT l b = t.vals.length
  | [], b, k, h => by
    have h' : Mem.lf.get b = some k := h
    rw [get_memlf] at h'
    cases h'
  | t :: r, b, k, h => by
    unfold memT at h
    rw [get_memput] at h
    by_cases e : b = t.g
    · rw [if_pos e] at h
      cases h
      exact ⟨t, by simp, e.symm, rfl, if_pos e⟩
    · rw [if_neg e] at h
      obtain ⟨u, hu, h1, h2, h3⟩ := memT_get r b k h
      exact ⟨u, by simp [hu], h1, h2, by rw [← h3]; exact if_neg e⟩

theorem gmap_some {G : Nat} {l : List Tab} {b : Nat} {x : M} (h : gmap G l b = some x) : b < G ∧ x = ⟨b, 0, limT l b⟩ := by
  unfold gmap at h
  split at h
  · rename_i hb
    cases h
    exact ⟨hb, rfl⟩
  · cases h

section
variable [OTab] [OVal]
theorem rel_tabs {G : Nat} {l : List Tab} {w : World} (hG : P.globals.size ≤ G) (h : G ≤ w.heap.size) (hl : ∀ t ∈ l, t.g < G) (hT : ∀ t ∈ l, t.In w) : Rel P (gmap G l) (stT G l) w where
  glob := fun g hg => ⟨limT l g, if_pos (by omega)⟩
  inb := fun b x hb => by
    obtain ⟨h1, rfl⟩ := gmap_some hb
    exact Nat.lt_of_lt_of_le h1 h
  blks := fun b x k hb hk => by
    obtain ⟨h1, rfl⟩ := gmap_some hb
    obtain ⟨t, ht, rfl, rfl, h3⟩ := memT_get l b k hk
    obtain ⟨arr, e, lo, hi, he, hs, hf, hc⟩ := hT t ht
    refine ⟨arr, e, lo, hi, he, ?_, ?_, fun _ => hf, fun i hi => ?_, fun ht => by
      have hvl : t.vals.length ≤ tagI := ht
      exact ⟨fun k t' e' => by (rw [fillT_get, if_neg (by omega), get_lf] at e'; cases e'), fun k t' e' => by (rw [fillT_get, if_neg (by omega), get_lf] at e'; cases e')⟩⟩
    · show 0 + limT l t.g ≤ arr.size
      omega
    · show t.vals.length ≤ limT l t.g
      omega
    · have hg : (fillT t.vals 0 .lf).get i = t.vals[i]? := by rw [fillT_get, if_pos (by omega)]; simp
      have hz : t.vals[i]? = some t.vals[i] := List.getElem?_eq_getElem hi
      refine ⟨t.vals[i], t.vals[i], by rw [hg, hz], ?_, ?_⟩
      · simp [Tab.vals, conc]
      · show arr[0 + i]? = _
        rw [Nat.zero_add, hc i hi, hz]
  dist := fun b c x y kb kc hbc hb hc _ _ => by
    obtain ⟨_, rfl⟩ := gmap_some hb
    obtain ⟨_, rfl⟩ := gmap_some hc
    exact hbc
  wf := fun b hb => by
    cases e : (stT G l).mem.get b with
    | none => rfl
    | some k =>
      obtain ⟨t, ht, rfl, _⟩ := memT_get l b k e
      have := hl t ht
      have : G ≤ t.g := hb
      omega
end

def okTrue (G : Nat) (r : Option (Value × St)) : Bool :=
  match r with
  | some (.bool true, st) => Nat.ble G st.low
  | _ => false

theorem okTrue_some {G : Nat} {r : Option (Value × St)} (h : okTrue G r = true) : ∃ st, r = some (.bool true, st) ∧ G ≤ st.low := by
  unfold okTrue at h
  split at h
  · exact ⟨_, rfl, Nat.le_of_ble_eq_true h⟩
  · cases h

/-- the function answers true; nothing that was there has turned -/
def Answers (P : Program) (f : FuncId) (args : List Value) (w : World) : Prop :=
  ∃ w', Below w.heap.size w w' ∧ (∃ fn c, P.funcs[f]? = some fn ∧ fn.body = some c ∧ (fn.name == "runtime.NumGoroutine") = false) ∧
    ∀ cs, ∃ fr, Steps P (lone (Frame.enter P f ⟨args⟩ .normal) cs w) (lone fr cs w') ∧ fr.fn = f ∧ fr.leaving P w' (.returned (.bool true))

theorem Answers.calls {f : FuncId} {args : List Value} {w : World} (h : Answers P f args w) : Calls P f ⟨args⟩ w fun e w' => e = .returned (.bool true) ∧ Below w.heap.size w w' := fun cs => by
  obtain ⟨w', hb, _, q⟩ := h
  obtain ⟨fr, q1, q2, q3⟩ := q cs
  exact ⟨.returned (.bool true), w', fr, ⟨rfl, hb⟩, q1, q2, q3⟩

section
variable [OTab] [OVal]
theorem answers_of_run (hmix : P.follows .mixedOrders = true) (hC : CallsOk P) {f : FuncId} {args cargs : List Value} {G : Nat} {l : List Tab} (hG : P.globals.size ≤ G) (hl : ∀ t ∈ l, t.g < G)
    (h : okTrue G (run P f args (stT G l)) = true) (ha : ∀ m : Map, concL m args = some cargs) {w : World} (hw : G ≤ w.heap.size) (hT : ∀ t ∈ l, t.In w) : Answers P f cargs w := by
  obtain ⟨st', h1, hlow⟩ := okTrue_some h
  have hr := rel_tabs (P := P) hG hw hl hT
  obtain ⟨m', w', cv, s, hv, hb, q⟩ := run_sound hmix hC h1 hr (fun b hb _ => if_neg (by have : G ≤ b := hb; omega)) (ha _)
  have hv' : some (Value.bool true) = some cv := by rw [← hv]; simp [conc]
  cases hv'
  have hc := s.chk G w (Nat.le_refl _) hlow ⟨fun b x k _ hk hb => (by rw [hr.wf b hb] at hk; cases hk), Nat.le_refl _, fun _ _ => rfl⟩
  exact ⟨w', ⟨s.os, s.tape, s.output, s.size, fun k hk => hc.2.2 k hk⟩, hb, q⟩
end

/-- nothing is unknown -/
@[reducible] def tab0 : OTab := { rules := [], calls := [] }
@[reducible] def val0 : @OVal tab0 := @OVal.mk tab0 (fun _ => .int .i64 0) (fun _ => .inl ⟨_, _, rfl⟩) (fun _ hr => by cases hr)

theorem ok0 (P : Program) : @CallsOk tab0 val0 P := ⟨fun r hr => (by
  rcases hr with h | ⟨h, _⟩ <;> cases h), fun f args st r st' v h => (by cases h)⟩
/-- a fixed example: a rule for later runs -/
theorem rule_of_run (hmix : P.follows .mixedOrders = true) {f : FuncId} {G : Nat} {l : List Tab} (hG : P.globals.size = G) (hl : ∀ t ∈ l, t.g < G) (h : okTrue G (@run tab0 P f [] (stT G l)) = true) (val : Nat → Value) :
    CRule.Holds P val ⟨f, [], l, .bool true⟩ := fun w hw hT => by
  subst hG
  exact @answers_of_run P tab0 val0 hmix (ok0 P) f [] [] _ l (Nat.le_refl _) hl h (fun m => by simp) w hw hT
end Go.Ev
