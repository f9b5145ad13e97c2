/-
  What samaritanref51.Only answers: an event whose slices are the old ones or empty; each kind one run of the verified evaluator at unknown numbers. Printed by mkonlye.py.
-/
import Derived.Test.YtgaimkgaooiieaaGreatDoorAwakeTrAC
import Derived.Test.YtgaimkgaooiieaaGreatDoorAwakeParams
namespace Go.Proofs.YtgaimkgaooiieaaGreatDoor
open Go Go.RowKit Go.Ev

/-- an event with the old slices, or none -/
def EvFrom (e : EvD) (P : EvP) (d : EvD) (Q : EvP) : Prop := (d.body = [] ∨ (d.body = e.body ∧ Q.b = P.b)) ∧ ActFrom e.act P.act d.act Q.act ∧ d.bytes = []
def OnlyIs (e : EvD) (P : EvP) : Prop := ∃ d Q, EvFrom e P d Q ∧ ∀ w : World, 2 ≤ w.heap.size → Calls Tryz.prog 79 #[.agg (evCells e P).toArray] w fun x w' => x = .returned (.agg (evCells d Q).toArray) ∧ Below w.heap.size w w'

/-! ## a run that hands back a struct -/
def lowV (n : Nat) (r : Option (Value × St)) : Option (Value × Bool) :=
  match r with
  | some (v, st) => some (v, Nat.ble n st.low)
  | none => none
section
variable {P : Program} [OTab] [OVal]
theorem ret_of_run (hmix : P.follows .mixedOrders = true) (hC : ∀ r ∈ OTab.calls, CRule.Holds P OVal.val r) {f : FuncId} {args cargs : List Value} {G : Nat} {v cv : Value} (hG : P.globals.size ≤ G)
    (h : lowV G (run P f args (stT G [])) = some (v, true)) (ha : ∀ m : Map, concL m args = some cargs) (hv : ∀ m : Map, conc m v = some cv) {w : World} (hw : G ≤ w.heap.size) : Calls P f ⟨cargs⟩ w fun e w' => e = .returned cv ∧ Below w.heap.size w w' := fun cs => by
  obtain ⟨st', h1, hlow⟩ : ∃ st', run P f args (stT G []) = some (v, st') ∧ G ≤ st'.low := by
    unfold lowV at h
    split at h
    · rename_i v1 st1 hr
      simp only [Option.some.injEq, Prod.mk.injEq] at h
      exact ⟨st1, by rw [hr, h.1], Nat.le_of_ble_eq_true h.2⟩
    · cases h
  have hr := rel_tabs (P := P) (l := []) hG hw (fun _ h => by cases h) (fun _ h => by cases h)
  obtain ⟨m', w', cv', s, hv', _, q⟩ := run_sound hmix hC h1 hr (fun b hb _ => if_neg (by have : G ≤ b := hb; omega)) (ha _)
  have e : cv = cv' := by
    have := (hv m').symm.trans hv'
    simpa using this
  subst e
  have hc := s.chk G w (Nat.le_refl _) hlow ⟨fun b x k _ hk hb => (by rw [hr.wf b hb] at hk; cases hk), Nat.le_refl _, fun _ _ => rfl⟩
  obtain ⟨fr, q1, q2, q3⟩ := q cs
  exact ⟨_, w', fr, ⟨rfl, ⟨s.os, s.tape, s.output, s.size, fun k hk => hc.2.2 k hk⟩⟩, q1, q2, q3⟩
end
def eval (e : EvD) (P : EvP) (i : Nat) : Value := (evCells e P).getD i (.int .i64 0)
theorem eval_shape (e : EvD) (P : EvP) (i : Nat) : (∃ k n, eval e P i = .int k n) ∨ (∃ s, eval e P i = .string s) ∨ ∃ a l d, eval e P i = .slice a l d := by
  match i with
  | 0 => exact .inl ⟨_, _, rfl⟩
  | 1 => exact .inl ⟨_, _, rfl⟩
  | 2 => exact .inl ⟨_, _, rfl⟩
  | 3 => exact .inl ⟨_, _, rfl⟩
  | 4 => exact .inl ⟨_, _, rfl⟩
  | 5 => exact .inl ⟨_, _, rfl⟩
  | 6 => exact .inl ⟨_, _, rfl⟩
  | 7 => exact .inl ⟨_, _, rfl⟩
  | 8 => exact .inr (.inr ⟨_, _, _, rfl⟩)
  | 9 => exact .inl ⟨_, _, rfl⟩
  | 10 => exact .inl ⟨_, _, rfl⟩
  | 11 => exact .inl ⟨_, _, rfl⟩
  | 12 => exact .inl ⟨_, _, rfl⟩
  | 13 => exact .inl ⟨_, _, rfl⟩
  | 14 => exact .inl ⟨_, _, rfl⟩
  | 15 => exact .inl ⟨_, _, rfl⟩
  | 16 => exact .inl ⟨_, _, rfl⟩
  | 17 => exact .inl ⟨_, _, rfl⟩
  | 18 => exact .inl ⟨_, _, rfl⟩
  | 19 => exact .inl ⟨_, _, rfl⟩
  | 20 => exact .inl ⟨_, _, rfl⟩
  | 21 => exact .inl ⟨_, _, rfl⟩
  | 22 => exact .inl ⟨_, _, rfl⟩
  | 23 => exact .inl ⟨_, _, rfl⟩
  | 24 => exact .inl ⟨_, _, rfl⟩
  | 25 => exact .inr (.inr ⟨_, _, _, rfl⟩)
  | 26 => exact .inr (.inr ⟨_, _, _, rfl⟩)
  | 27 => exact .inr (.inr ⟨_, _, _, rfl⟩)
  | n + 28 => exact .inl ⟨.i64, 0, rfl⟩
def rules_o1 : List Rule := []
@[reducible] def tab_o1 : OTab := ⟨rules_o1, []⟩
theorem run_o1 : lowV 2 (@run tab_o1 Tryz.prog 79 [.agg ⟨[.int .i64 1, .float .f64 1, .float .f64 2, .float .f64 3, .float .f64 4, .float .f64 5, .float .f64 6, .float .f64 7, .float .f64 8, .float .f64 9, .float .f64 10, .float .f64 11, .float .f64 12, .float .f64 13, .float .f64 14, .float .f64 15, .float .f64 16, .float .f64 17, .float .f64 18, .float .f64 19, .float .f64 20, .float .f64 21, .float .f64 22, .float .f64 23, .float .f64 24, .float .f64 25, .float .f64 26, .float .f64 27]⟩] (@stT 2 [])) = some (.agg ⟨[.int .i64 1, .float .f64 1, .int .i64 0, .int .i64 0, .int .i64 0, .int .i64 0, .int .i64 0, .int .i64 0, .slice none 0 0, .int .i64 0, .int .i64 0, .int .i64 0, .int .i64 0, .int .i64 0, .int .i64 0, .int .i64 0, .int .i64 0, .int .i64 0, .int .i64 0, .float .f64 19, .float .f64 20, .float .f64 21, .float .f64 22, .float .f64 23, .float .f64 24, .float .f64 25, .float .f64 26, .slice none 0 0]⟩, true) := by kernel_rfl
theorem onlye1 (e : EvD) (P : EvP) (hk : e.kind = 1) : OnlyIs e P := by
  refine ⟨⟨e.kind, e.tick, 0, 0, 0, 0, 0, 0, [], 0, 0, 0, 0, 0, 0, 0, 0, 0, 0, ⟨e.act.kind, e.act.who, e.act.n, e.act.call, e.act.other, e.act.node, e.act.srcs, e.act.grp⟩, []⟩, ⟨none, 0, ⟨P.act.s, P.act.sc, P.act.g, P.act.gc⟩, none, 0⟩, ⟨.inl rfl, ⟨.inr ⟨rfl, rfl⟩, .inr ⟨rfl, rfl⟩⟩, rfl⟩, fun w hw => ?_⟩
  letI : OTab := tab_o1
  letI : OVal := @OVal.mk tab_o1 (eval e P) (eval_shape e P) (show ∀ r ∈ rules_o1, r.Holds (eval e P) from (fun _ h => by cases h))
  have hval : ∀ i, OVal.val i = eval e P i := fun _ => rfl
  have h := ret_of_run (P := Tryz.prog) (cargs := [.agg (evCells e P).toArray]) (cv := .agg (evCells ⟨e.kind, e.tick, 0, 0, 0, 0, 0, 0, [], 0, 0, 0, 0, 0, 0, 0, 0, 0, 0, ⟨e.act.kind, e.act.who, e.act.n, e.act.call, e.act.other, e.act.node, e.act.srcs, e.act.grp⟩, []⟩ ⟨none, 0, ⟨P.act.s, P.act.sc, P.act.g, P.act.gc⟩, none, 0⟩).toArray) mix (fun r hr => by cases hr) (Nat.le_of_eq globs) run_o1 (fun m => by simp [conc, concL, hval, eval, evCells, hk]) (fun m => by simp [conc, concL, hval, eval, evCells, hk]) hw
  exact h
def rules_o2 : List Rule := []
@[reducible] def tab_o2 : OTab := ⟨rules_o2, []⟩
theorem run_o2 : lowV 2 (@run tab_o2 Tryz.prog 79 [.agg ⟨[.int .i64 2, .float .f64 1, .float .f64 2, .float .f64 3, .float .f64 4, .float .f64 5, .float .f64 6, .float .f64 7, .float .f64 8, .float .f64 9, .float .f64 10, .float .f64 11, .float .f64 12, .float .f64 13, .float .f64 14, .float .f64 15, .float .f64 16, .float .f64 17, .float .f64 18, .float .f64 19, .float .f64 20, .float .f64 21, .float .f64 22, .float .f64 23, .float .f64 24, .float .f64 25, .float .f64 26, .float .f64 27]⟩] (@stT 2 [])) = some (.agg ⟨[.int .i64 2, .float .f64 1, .float .f64 2, .float .f64 3, .int .i64 0, .int .i64 0, .int .i64 0, .int .i64 0, .slice none 0 0, .int .i64 0, .int .i64 0, .int .i64 0, .int .i64 0, .int .i64 0, .int .i64 0, .int .i64 0, .int .i64 0, .int .i64 0, .int .i64 0, .int .i64 0, .int .i64 0, .int .i64 0, .int .i64 0, .int .i64 0, .int .i64 0, .slice none 0 0, .slice none 0 0, .slice none 0 0]⟩, true) := by kernel_rfl
theorem onlye2 (e : EvD) (P : EvP) (hk : e.kind = 2) : OnlyIs e P := by
  refine ⟨⟨e.kind, e.tick, e.who, e.call, 0, 0, 0, 0, [], 0, 0, 0, 0, 0, 0, 0, 0, 0, 0, ⟨0, 0, 0, 0, 0, 0, [], []⟩, []⟩, ⟨none, 0, ⟨none, 0, none, 0⟩, none, 0⟩, ⟨.inl rfl, ⟨.inl rfl, .inl rfl⟩, rfl⟩, fun w hw => ?_⟩
  letI : OTab := tab_o2
  letI : OVal := @OVal.mk tab_o2 (eval e P) (eval_shape e P) (show ∀ r ∈ rules_o2, r.Holds (eval e P) from (fun _ h => by cases h))
  have hval : ∀ i, OVal.val i = eval e P i := fun _ => rfl
  have h := ret_of_run (P := Tryz.prog) (cargs := [.agg (evCells e P).toArray]) (cv := .agg (evCells ⟨e.kind, e.tick, e.who, e.call, 0, 0, 0, 0, [], 0, 0, 0, 0, 0, 0, 0, 0, 0, 0, ⟨0, 0, 0, 0, 0, 0, [], []⟩, []⟩ ⟨none, 0, ⟨none, 0, none, 0⟩, none, 0⟩).toArray) mix (fun r hr => by cases hr) (Nat.le_of_eq globs) run_o2 (fun m => by simp [conc, concL, hval, eval, evCells, hk]) (fun m => by simp [conc, concL, hval, eval, evCells, hk]) hw
  exact h
def rules_o3 : List Rule := []
@[reducible] def tab_o3 : OTab := ⟨rules_o3, []⟩
theorem run_o3 : lowV 2 (@run tab_o3 Tryz.prog 79 [.agg ⟨[.int .i64 3, .float .f64 1, .float .f64 2, .float .f64 3, .float .f64 4, .float .f64 5, .float .f64 6, .float .f64 7, .float .f64 8, .float .f64 9, .float .f64 10, .float .f64 11, .float .f64 12, .float .f64 13, .float .f64 14, .float .f64 15, .float .f64 16, .float .f64 17, .float .f64 18, .float .f64 19, .float .f64 20, .float .f64 21, .float .f64 22, .float .f64 23, .float .f64 24, .float .f64 25, .float .f64 26, .float .f64 27]⟩] (@stT 2 [])) = some (.agg ⟨[.int .i64 3, .float .f64 1, .float .f64 2, .float .f64 3, .float .f64 4, .int .i64 0, .int .i64 0, .int .i64 0, .slice none 0 0, .int .i64 0, .int .i64 0, .int .i64 0, .int .i64 0, .int .i64 0, .int .i64 0, .int .i64 0, .int .i64 0, .int .i64 0, .int .i64 0, .int .i64 0, .int .i64 0, .int .i64 0, .int .i64 0, .int .i64 0, .int .i64 0, .slice none 0 0, .slice none 0 0, .slice none 0 0]⟩, true) := by kernel_rfl
theorem onlye3 (e : EvD) (P : EvP) (hk : e.kind = 3) : OnlyIs e P := by
  refine ⟨⟨e.kind, e.tick, e.who, e.call, e.epoch, 0, 0, 0, [], 0, 0, 0, 0, 0, 0, 0, 0, 0, 0, ⟨0, 0, 0, 0, 0, 0, [], []⟩, []⟩, ⟨none, 0, ⟨none, 0, none, 0⟩, none, 0⟩, ⟨.inl rfl, ⟨.inl rfl, .inl rfl⟩, rfl⟩, fun w hw => ?_⟩
  letI : OTab := tab_o3
  letI : OVal := @OVal.mk tab_o3 (eval e P) (eval_shape e P) (show ∀ r ∈ rules_o3, r.Holds (eval e P) from (fun _ h => by cases h))
  have hval : ∀ i, OVal.val i = eval e P i := fun _ => rfl
  have h := ret_of_run (P := Tryz.prog) (cargs := [.agg (evCells e P).toArray]) (cv := .agg (evCells ⟨e.kind, e.tick, e.who, e.call, e.epoch, 0, 0, 0, [], 0, 0, 0, 0, 0, 0, 0, 0, 0, 0, ⟨0, 0, 0, 0, 0, 0, [], []⟩, []⟩ ⟨none, 0, ⟨none, 0, none, 0⟩, none, 0⟩).toArray) mix (fun r hr => by cases hr) (Nat.le_of_eq globs) run_o3 (fun m => by simp [conc, concL, hval, eval, evCells, hk]) (fun m => by simp [conc, concL, hval, eval, evCells, hk]) hw
  exact h
def rules_o6 : List Rule := []
@[reducible] def tab_o6 : OTab := ⟨rules_o6, []⟩
theorem run_o6 : lowV 2 (@run tab_o6 Tryz.prog 79 [.agg ⟨[.int .i64 6, .float .f64 1, .float .f64 2, .float .f64 3, .float .f64 4, .float .f64 5, .float .f64 6, .float .f64 7, .float .f64 8, .float .f64 9, .float .f64 10, .float .f64 11, .float .f64 12, .float .f64 13, .float .f64 14, .float .f64 15, .float .f64 16, .float .f64 17, .float .f64 18, .float .f64 19, .float .f64 20, .float .f64 21, .float .f64 22, .float .f64 23, .float .f64 24, .float .f64 25, .float .f64 26, .float .f64 27]⟩] (@stT 2 [])) = some (.agg ⟨[.int .i64 6, .float .f64 1, .float .f64 2, .float .f64 3, .float .f64 4, .int .i64 0, .int .i64 0, .int .i64 0, .slice none 0 0, .int .i64 0, .int .i64 0, .int .i64 0, .int .i64 0, .int .i64 0, .int .i64 0, .int .i64 0, .int .i64 0, .int .i64 0, .int .i64 0, .int .i64 0, .int .i64 0, .int .i64 0, .int .i64 0, .int .i64 0, .int .i64 0, .slice none 0 0, .slice none 0 0, .slice none 0 0]⟩, true) := by kernel_rfl
theorem onlye6 (e : EvD) (P : EvP) (hk : e.kind = 6) : OnlyIs e P := by
  refine ⟨⟨e.kind, e.tick, e.who, e.call, e.epoch, 0, 0, 0, [], 0, 0, 0, 0, 0, 0, 0, 0, 0, 0, ⟨0, 0, 0, 0, 0, 0, [], []⟩, []⟩, ⟨none, 0, ⟨none, 0, none, 0⟩, none, 0⟩, ⟨.inl rfl, ⟨.inl rfl, .inl rfl⟩, rfl⟩, fun w hw => ?_⟩
  letI : OTab := tab_o6
  letI : OVal := @OVal.mk tab_o6 (eval e P) (eval_shape e P) (show ∀ r ∈ rules_o6, r.Holds (eval e P) from (fun _ h => by cases h))
  have hval : ∀ i, OVal.val i = eval e P i := fun _ => rfl
  have h := ret_of_run (P := Tryz.prog) (cargs := [.agg (evCells e P).toArray]) (cv := .agg (evCells ⟨e.kind, e.tick, e.who, e.call, e.epoch, 0, 0, 0, [], 0, 0, 0, 0, 0, 0, 0, 0, 0, 0, ⟨0, 0, 0, 0, 0, 0, [], []⟩, []⟩ ⟨none, 0, ⟨none, 0, none, 0⟩, none, 0⟩).toArray) mix (fun r hr => by cases hr) (Nat.le_of_eq globs) run_o6 (fun m => by simp [conc, concL, hval, eval, evCells, hk]) (fun m => by simp [conc, concL, hval, eval, evCells, hk]) hw
  exact h
def rules_o4 : List Rule := []
@[reducible] def tab_o4 : OTab := ⟨rules_o4, []⟩
theorem run_o4 : lowV 2 (@run tab_o4 Tryz.prog 79 [.agg ⟨[.int .i64 4, .float .f64 1, .float .f64 2, .float .f64 3, .float .f64 4, .float .f64 5, .float .f64 6, .float .f64 7, .float .f64 8, .float .f64 9, .float .f64 10, .float .f64 11, .float .f64 12, .float .f64 13, .float .f64 14, .float .f64 15, .float .f64 16, .float .f64 17, .float .f64 18, .float .f64 19, .float .f64 20, .float .f64 21, .float .f64 22, .float .f64 23, .float .f64 24, .float .f64 25, .float .f64 26, .float .f64 27]⟩] (@stT 2 [])) = some (.agg ⟨[.int .i64 4, .float .f64 1, .int .i64 0, .float .f64 3, .int .i64 0, .float .f64 5, .int .i64 0, .int .i64 0, .slice none 0 0, .int .i64 0, .int .i64 0, .int .i64 0, .int .i64 0, .int .i64 0, .int .i64 0, .int .i64 0, .int .i64 0, .int .i64 0, .int .i64 0, .int .i64 0, .int .i64 0, .int .i64 0, .int .i64 0, .int .i64 0, .int .i64 0, .slice none 0 0, .slice none 0 0, .slice none 0 0]⟩, true) := by kernel_rfl
theorem onlye4 (e : EvD) (P : EvP) (hk : e.kind = 4) : OnlyIs e P := by
  refine ⟨⟨e.kind, e.tick, 0, e.call, 0, e.n, 0, 0, [], 0, 0, 0, 0, 0, 0, 0, 0, 0, 0, ⟨0, 0, 0, 0, 0, 0, [], []⟩, []⟩, ⟨none, 0, ⟨none, 0, none, 0⟩, none, 0⟩, ⟨.inl rfl, ⟨.inl rfl, .inl rfl⟩, rfl⟩, fun w hw => ?_⟩
  letI : OTab := tab_o4
  letI : OVal := @OVal.mk tab_o4 (eval e P) (eval_shape e P) (show ∀ r ∈ rules_o4, r.Holds (eval e P) from (fun _ h => by cases h))
  have hval : ∀ i, OVal.val i = eval e P i := fun _ => rfl
  have h := ret_of_run (P := Tryz.prog) (cargs := [.agg (evCells e P).toArray]) (cv := .agg (evCells ⟨e.kind, e.tick, 0, e.call, 0, e.n, 0, 0, [], 0, 0, 0, 0, 0, 0, 0, 0, 0, 0, ⟨0, 0, 0, 0, 0, 0, [], []⟩, []⟩ ⟨none, 0, ⟨none, 0, none, 0⟩, none, 0⟩).toArray) mix (fun r hr => by cases hr) (Nat.le_of_eq globs) run_o4 (fun m => by simp [conc, concL, hval, eval, evCells, hk]) (fun m => by simp [conc, concL, hval, eval, evCells, hk]) hw
  exact h
def rules_o5 : List Rule := []
@[reducible] def tab_o5 : OTab := ⟨rules_o5, []⟩
theorem run_o5 : lowV 2 (@run tab_o5 Tryz.prog 79 [.agg ⟨[.int .i64 5, .float .f64 1, .float .f64 2, .float .f64 3, .float .f64 4, .float .f64 5, .float .f64 6, .float .f64 7, .float .f64 8, .float .f64 9, .float .f64 10, .float .f64 11, .float .f64 12, .float .f64 13, .float .f64 14, .float .f64 15, .float .f64 16, .float .f64 17, .float .f64 18, .float .f64 19, .float .f64 20, .float .f64 21, .float .f64 22, .float .f64 23, .float .f64 24, .float .f64 25, .float .f64 26, .float .f64 27]⟩] (@stT 2 [])) = some (.agg ⟨[.int .i64 5, .float .f64 1, .int .i64 0, .float .f64 3, .int .i64 0, .int .i64 0, .int .i64 0, .int .i64 0, .slice none 0 0, .int .i64 0, .int .i64 0, .int .i64 0, .int .i64 0, .int .i64 0, .int .i64 0, .int .i64 0, .int .i64 0, .int .i64 0, .int .i64 0, .int .i64 0, .int .i64 0, .int .i64 0, .int .i64 0, .int .i64 0, .int .i64 0, .slice none 0 0, .slice none 0 0, .slice none 0 0]⟩, true) := by kernel_rfl
theorem onlye5 (e : EvD) (P : EvP) (hk : e.kind = 5) : OnlyIs e P := by
  refine ⟨⟨e.kind, e.tick, 0, e.call, 0, 0, 0, 0, [], 0, 0, 0, 0, 0, 0, 0, 0, 0, 0, ⟨0, 0, 0, 0, 0, 0, [], []⟩, []⟩, ⟨none, 0, ⟨none, 0, none, 0⟩, none, 0⟩, ⟨.inl rfl, ⟨.inl rfl, .inl rfl⟩, rfl⟩, fun w hw => ?_⟩
  letI : OTab := tab_o5
  letI : OVal := @OVal.mk tab_o5 (eval e P) (eval_shape e P) (show ∀ r ∈ rules_o5, r.Holds (eval e P) from (fun _ h => by cases h))
  have hval : ∀ i, OVal.val i = eval e P i := fun _ => rfl
  have h := ret_of_run (P := Tryz.prog) (cargs := [.agg (evCells e P).toArray]) (cv := .agg (evCells ⟨e.kind, e.tick, 0, e.call, 0, 0, 0, 0, [], 0, 0, 0, 0, 0, 0, 0, 0, 0, 0, ⟨0, 0, 0, 0, 0, 0, [], []⟩, []⟩ ⟨none, 0, ⟨none, 0, none, 0⟩, none, 0⟩).toArray) mix (fun r hr => by cases hr) (Nat.le_of_eq globs) run_o5 (fun m => by simp [conc, concL, hval, eval, evCells, hk]) (fun m => by simp [conc, concL, hval, eval, evCells, hk]) hw
  exact h
def rules_o7 : List Rule := []
@[reducible] def tab_o7 : OTab := ⟨rules_o7, []⟩
theorem run_o7 : lowV 2 (@run tab_o7 Tryz.prog 79 [.agg ⟨[.int .i64 7, .float .f64 1, .float .f64 2, .float .f64 3, .float .f64 4, .float .f64 5, .float .f64 6, .float .f64 7, .float .f64 8, .float .f64 9, .float .f64 10, .float .f64 11, .float .f64 12, .float .f64 13, .float .f64 14, .float .f64 15, .float .f64 16, .float .f64 17, .float .f64 18, .float .f64 19, .float .f64 20, .float .f64 21, .float .f64 22, .float .f64 23, .float .f64 24, .float .f64 25, .float .f64 26, .float .f64 27]⟩] (@stT 2 [])) = some (.agg ⟨[.int .i64 7, .float .f64 1, .float .f64 2, .int .i64 0, .int .i64 0, .float .f64 5, .float .f64 6, .float .f64 7, .float .f64 8, .int .i64 0, .int .i64 0, .int .i64 0, .int .i64 0, .int .i64 0, .int .i64 0, .int .i64 0, .int .i64 0, .int .i64 0, .int .i64 0, .int .i64 0, .int .i64 0, .int .i64 0, .int .i64 0, .int .i64 0, .int .i64 0, .slice none 0 0, .slice none 0 0, .slice none 0 0]⟩, true) := by kernel_rfl
theorem onlye7 (e : EvD) (P : EvP) (hk : e.kind = 7) : OnlyIs e P := by
  refine ⟨⟨e.kind, e.tick, e.who, 0, 0, e.n, e.term, e.ek, e.body, 0, 0, 0, 0, 0, 0, 0, 0, 0, 0, ⟨0, 0, 0, 0, 0, 0, [], []⟩, []⟩, ⟨P.b, P.bc, ⟨none, 0, none, 0⟩, none, 0⟩, ⟨.inr ⟨rfl, rfl⟩, ⟨.inl rfl, .inl rfl⟩, rfl⟩, fun w hw => ?_⟩
  letI : OTab := tab_o7
  letI : OVal := @OVal.mk tab_o7 (eval e P) (eval_shape e P) (show ∀ r ∈ rules_o7, r.Holds (eval e P) from (fun _ h => by cases h))
  have hval : ∀ i, OVal.val i = eval e P i := fun _ => rfl
  have h := ret_of_run (P := Tryz.prog) (cargs := [.agg (evCells e P).toArray]) (cv := .agg (evCells ⟨e.kind, e.tick, e.who, 0, 0, e.n, e.term, e.ek, e.body, 0, 0, 0, 0, 0, 0, 0, 0, 0, 0, ⟨0, 0, 0, 0, 0, 0, [], []⟩, []⟩ ⟨P.b, P.bc, ⟨none, 0, none, 0⟩, none, 0⟩).toArray) mix (fun r hr => by cases hr) (Nat.le_of_eq globs) run_o7 (fun m => by simp [conc, concL, hval, eval, evCells, hk]) (fun m => by simp [conc, concL, hval, eval, evCells, hk]) hw
  exact h
def rules_o8 : List Rule := []
@[reducible] def tab_o8 : OTab := ⟨rules_o8, []⟩
theorem run_o8 : lowV 2 (@run tab_o8 Tryz.prog 79 [.agg ⟨[.int .i64 8, .float .f64 1, .float .f64 2, .float .f64 3, .float .f64 4, .float .f64 5, .float .f64 6, .float .f64 7, .float .f64 8, .float .f64 9, .float .f64 10, .float .f64 11, .float .f64 12, .float .f64 13, .float .f64 14, .float .f64 15, .float .f64 16, .float .f64 17, .float .f64 18, .float .f64 19, .float .f64 20, .float .f64 21, .float .f64 22, .float .f64 23, .float .f64 24, .float .f64 25, .float .f64 26, .float .f64 27]⟩] (@stT 2 [])) = some (.agg ⟨[.int .i64 8, .float .f64 1, .float .f64 2, .int .i64 0, .int .i64 0, .int .i64 0, .int .i64 0, .int .i64 0, .slice none 0 0, .float .f64 9, .float .f64 10, .float .f64 11, .float .f64 12, .float .f64 13, .int .i64 0, .int .i64 0, .int .i64 0, .int .i64 0, .int .i64 0, .int .i64 0, .int .i64 0, .int .i64 0, .int .i64 0, .int .i64 0, .int .i64 0, .slice none 0 0, .slice none 0 0, .slice none 0 0]⟩, true) := by kernel_rfl
theorem onlye8 (e : EvD) (P : EvP) (hk : e.kind = 8) : OnlyIs e P := by
  refine ⟨⟨e.kind, e.tick, e.who, 0, 0, 0, 0, 0, [], e.o0, e.o1, e.o2, e.o3, e.o4, 0, 0, 0, 0, 0, ⟨0, 0, 0, 0, 0, 0, [], []⟩, []⟩, ⟨none, 0, ⟨none, 0, none, 0⟩, none, 0⟩, ⟨.inl rfl, ⟨.inl rfl, .inl rfl⟩, rfl⟩, fun w hw => ?_⟩
  letI : OTab := tab_o8
  letI : OVal := @OVal.mk tab_o8 (eval e P) (eval_shape e P) (show ∀ r ∈ rules_o8, r.Holds (eval e P) from (fun _ h => by cases h))
  have hval : ∀ i, OVal.val i = eval e P i := fun _ => rfl
  have h := ret_of_run (P := Tryz.prog) (cargs := [.agg (evCells e P).toArray]) (cv := .agg (evCells ⟨e.kind, e.tick, e.who, 0, 0, 0, 0, 0, [], e.o0, e.o1, e.o2, e.o3, e.o4, 0, 0, 0, 0, 0, ⟨0, 0, 0, 0, 0, 0, [], []⟩, []⟩ ⟨none, 0, ⟨none, 0, none, 0⟩, none, 0⟩).toArray) mix (fun r hr => by cases hr) (Nat.le_of_eq globs) run_o8 (fun m => by simp [conc, concL, hval, eval, evCells, hk]) (fun m => by simp [conc, concL, hval, eval, evCells, hk]) hw
  exact h
def rules_o9 : List Rule := []
@[reducible] def tab_o9 : OTab := ⟨rules_o9, []⟩
theorem run_o9 : lowV 2 (@run tab_o9 Tryz.prog 79 [.agg ⟨[.int .i64 9, .float .f64 1, .float .f64 2, .float .f64 3, .float .f64 4, .float .f64 5, .float .f64 6, .float .f64 7, .float .f64 8, .float .f64 9, .float .f64 10, .float .f64 11, .float .f64 12, .float .f64 13, .float .f64 14, .float .f64 15, .float .f64 16, .float .f64 17, .float .f64 18, .float .f64 19, .float .f64 20, .float .f64 21, .float .f64 22, .float .f64 23, .float .f64 24, .float .f64 25, .float .f64 26, .float .f64 27]⟩] (@stT 2 [])) = some (.agg ⟨[.int .i64 9, .float .f64 1, .float .f64 2, .int .i64 0, .int .i64 0, .int .i64 0, .int .i64 0, .int .i64 0, .slice none 0 0, .int .i64 0, .int .i64 0, .int .i64 0, .int .i64 0, .int .i64 0, .float .f64 14, .float .f64 15, .float .f64 16, .float .f64 17, .float .f64 18, .int .i64 0, .int .i64 0, .int .i64 0, .int .i64 0, .int .i64 0, .int .i64 0, .slice none 0 0, .slice none 0 0, .slice none 0 0]⟩, true) := by kernel_rfl
theorem onlye9 (e : EvD) (P : EvP) (hk : e.kind = 9) : OnlyIs e P := by
  refine ⟨⟨e.kind, e.tick, e.who, 0, 0, 0, 0, 0, [], 0, 0, 0, 0, 0, e.t0, e.t1, e.t2, e.t3, e.t4, ⟨0, 0, 0, 0, 0, 0, [], []⟩, []⟩, ⟨none, 0, ⟨none, 0, none, 0⟩, none, 0⟩, ⟨.inl rfl, ⟨.inl rfl, .inl rfl⟩, rfl⟩, fun w hw => ?_⟩
  letI : OTab := tab_o9
  letI : OVal := @OVal.mk tab_o9 (eval e P) (eval_shape e P) (show ∀ r ∈ rules_o9, r.Holds (eval e P) from (fun _ h => by cases h))
  have hval : ∀ i, OVal.val i = eval e P i := fun _ => rfl
  have h := ret_of_run (P := Tryz.prog) (cargs := [.agg (evCells e P).toArray]) (cv := .agg (evCells ⟨e.kind, e.tick, e.who, 0, 0, 0, 0, 0, [], 0, 0, 0, 0, 0, e.t0, e.t1, e.t2, e.t3, e.t4, ⟨0, 0, 0, 0, 0, 0, [], []⟩, []⟩ ⟨none, 0, ⟨none, 0, none, 0⟩, none, 0⟩).toArray) mix (fun r hr => by cases hr) (Nat.le_of_eq globs) run_o9 (fun m => by simp [conc, concL, hval, eval, evCells, hk]) (fun m => by simp [conc, concL, hval, eval, evCells, hk]) hw
  exact h
def rules_o10 : List Rule := []
@[reducible] def tab_o10 : OTab := ⟨rules_o10, []⟩
theorem run_o10 : lowV 2 (@run tab_o10 Tryz.prog 79 [.agg ⟨[.int .i64 10, .float .f64 1, .float .f64 2, .float .f64 3, .float .f64 4, .float .f64 5, .float .f64 6, .float .f64 7, .float .f64 8, .float .f64 9, .float .f64 10, .float .f64 11, .float .f64 12, .float .f64 13, .float .f64 14, .float .f64 15, .float .f64 16, .float .f64 17, .float .f64 18, .float .f64 19, .float .f64 20, .float .f64 21, .float .f64 22, .float .f64 23, .float .f64 24, .float .f64 25, .float .f64 26, .float .f64 27]⟩] (@stT 2 [])) = some (.agg ⟨[.int .i64 10, .float .f64 1, .float .f64 2, .int .i64 0, .int .i64 0, .int .i64 0, .int .i64 0, .int .i64 0, .slice none 0 0, .int .i64 0, .int .i64 0, .int .i64 0, .int .i64 0, .int .i64 0, .int .i64 0, .int .i64 0, .int .i64 0, .int .i64 0, .int .i64 0, .int .i64 0, .int .i64 0, .int .i64 0, .int .i64 0, .int .i64 0, .int .i64 0, .slice none 0 0, .slice none 0 0, .slice none 0 0]⟩, true) := by kernel_rfl
theorem onlye10 (e : EvD) (P : EvP) (hk : e.kind = 10) : OnlyIs e P := by
  refine ⟨⟨e.kind, e.tick, e.who, 0, 0, 0, 0, 0, [], 0, 0, 0, 0, 0, 0, 0, 0, 0, 0, ⟨0, 0, 0, 0, 0, 0, [], []⟩, []⟩, ⟨none, 0, ⟨none, 0, none, 0⟩, none, 0⟩, ⟨.inl rfl, ⟨.inl rfl, .inl rfl⟩, rfl⟩, fun w hw => ?_⟩
  letI : OTab := tab_o10
  letI : OVal := @OVal.mk tab_o10 (eval e P) (eval_shape e P) (show ∀ r ∈ rules_o10, r.Holds (eval e P) from (fun _ h => by cases h))
  have hval : ∀ i, OVal.val i = eval e P i := fun _ => rfl
  have h := ret_of_run (P := Tryz.prog) (cargs := [.agg (evCells e P).toArray]) (cv := .agg (evCells ⟨e.kind, e.tick, e.who, 0, 0, 0, 0, 0, [], 0, 0, 0, 0, 0, 0, 0, 0, 0, 0, ⟨0, 0, 0, 0, 0, 0, [], []⟩, []⟩ ⟨none, 0, ⟨none, 0, none, 0⟩, none, 0⟩).toArray) mix (fun r hr => by cases hr) (Nat.le_of_eq globs) run_o10 (fun m => by simp [conc, concL, hval, eval, evCells, hk]) (fun m => by simp [conc, concL, hval, eval, evCells, hk]) hw
  exact h
def rules_o11 : List Rule := []
@[reducible] def tab_o11 : OTab := ⟨rules_o11, []⟩
theorem run_o11 : lowV 2 (@run tab_o11 Tryz.prog 79 [.agg ⟨[.int .i64 11, .float .f64 1, .float .f64 2, .float .f64 3, .float .f64 4, .float .f64 5, .float .f64 6, .float .f64 7, .float .f64 8, .float .f64 9, .float .f64 10, .float .f64 11, .float .f64 12, .float .f64 13, .float .f64 14, .float .f64 15, .float .f64 16, .float .f64 17, .float .f64 18, .float .f64 19, .float .f64 20, .float .f64 21, .float .f64 22, .float .f64 23, .float .f64 24, .float .f64 25, .float .f64 26, .float .f64 27]⟩] (@stT 2 [])) = some (.agg ⟨[.int .i64 11, .float .f64 1, .float .f64 2, .int .i64 0, .int .i64 0, .int .i64 0, .int .i64 0, .int .i64 0, .slice none 0 0, .int .i64 0, .int .i64 0, .int .i64 0, .int .i64 0, .int .i64 0, .int .i64 0, .int .i64 0, .int .i64 0, .int .i64 0, .int .i64 0, .int .i64 0, .int .i64 0, .int .i64 0, .int .i64 0, .int .i64 0, .int .i64 0, .slice none 0 0, .slice none 0 0, .slice none 0 0]⟩, true) := by kernel_rfl
theorem onlye11 (e : EvD) (P : EvP) (hk : e.kind = 11) : OnlyIs e P := by
  refine ⟨⟨e.kind, e.tick, e.who, 0, 0, 0, 0, 0, [], 0, 0, 0, 0, 0, 0, 0, 0, 0, 0, ⟨0, 0, 0, 0, 0, 0, [], []⟩, []⟩, ⟨none, 0, ⟨none, 0, none, 0⟩, none, 0⟩, ⟨.inl rfl, ⟨.inl rfl, .inl rfl⟩, rfl⟩, fun w hw => ?_⟩
  letI : OTab := tab_o11
  letI : OVal := @OVal.mk tab_o11 (eval e P) (eval_shape e P) (show ∀ r ∈ rules_o11, r.Holds (eval e P) from (fun _ h => by cases h))
  have hval : ∀ i, OVal.val i = eval e P i := fun _ => rfl
  have h := ret_of_run (P := Tryz.prog) (cargs := [.agg (evCells e P).toArray]) (cv := .agg (evCells ⟨e.kind, e.tick, e.who, 0, 0, 0, 0, 0, [], 0, 0, 0, 0, 0, 0, 0, 0, 0, 0, ⟨0, 0, 0, 0, 0, 0, [], []⟩, []⟩ ⟨none, 0, ⟨none, 0, none, 0⟩, none, 0⟩).toArray) mix (fun r hr => by cases hr) (Nat.le_of_eq globs) run_o11 (fun m => by simp [conc, concL, hval, eval, evCells, hk]) (fun m => by simp [conc, concL, hval, eval, evCells, hk]) hw
  exact h
def rules_o12 : List Rule := []
@[reducible] def tab_o12 : OTab := ⟨rules_o12, []⟩
theorem run_o12 : lowV 2 (@run tab_o12 Tryz.prog 79 [.agg ⟨[.int .i64 12, .float .f64 1, .float .f64 2, .float .f64 3, .float .f64 4, .float .f64 5, .float .f64 6, .float .f64 7, .float .f64 8, .float .f64 9, .float .f64 10, .float .f64 11, .float .f64 12, .float .f64 13, .float .f64 14, .float .f64 15, .float .f64 16, .float .f64 17, .float .f64 18, .float .f64 19, .float .f64 20, .float .f64 21, .float .f64 22, .float .f64 23, .float .f64 24, .float .f64 25, .float .f64 26, .float .f64 27]⟩] (@stT 2 [])) = some (.agg ⟨[.int .i64 12, .float .f64 1, .float .f64 2, .int .i64 0, .float .f64 4, .float .f64 5, .int .i64 0, .int .i64 0, .slice none 0 0, .int .i64 0, .int .i64 0, .int .i64 0, .int .i64 0, .int .i64 0, .int .i64 0, .int .i64 0, .int .i64 0, .int .i64 0, .int .i64 0, .int .i64 0, .int .i64 0, .int .i64 0, .int .i64 0, .int .i64 0, .int .i64 0, .slice none 0 0, .slice none 0 0, .slice none 0 0]⟩, true) := by kernel_rfl
theorem onlye12 (e : EvD) (P : EvP) (hk : e.kind = 12) : OnlyIs e P := by
  refine ⟨⟨e.kind, e.tick, e.who, 0, e.epoch, e.n, 0, 0, [], 0, 0, 0, 0, 0, 0, 0, 0, 0, 0, ⟨0, 0, 0, 0, 0, 0, [], []⟩, []⟩, ⟨none, 0, ⟨none, 0, none, 0⟩, none, 0⟩, ⟨.inl rfl, ⟨.inl rfl, .inl rfl⟩, rfl⟩, fun w hw => ?_⟩
  letI : OTab := tab_o12
  letI : OVal := @OVal.mk tab_o12 (eval e P) (eval_shape e P) (show ∀ r ∈ rules_o12, r.Holds (eval e P) from (fun _ h => by cases h))
  have hval : ∀ i, OVal.val i = eval e P i := fun _ => rfl
  have h := ret_of_run (P := Tryz.prog) (cargs := [.agg (evCells e P).toArray]) (cv := .agg (evCells ⟨e.kind, e.tick, e.who, 0, e.epoch, e.n, 0, 0, [], 0, 0, 0, 0, 0, 0, 0, 0, 0, 0, ⟨0, 0, 0, 0, 0, 0, [], []⟩, []⟩ ⟨none, 0, ⟨none, 0, none, 0⟩, none, 0⟩).toArray) mix (fun r hr => by cases hr) (Nat.le_of_eq globs) run_o12 (fun m => by simp [conc, concL, hval, eval, evCells, hk]) (fun m => by simp [conc, concL, hval, eval, evCells, hk]) hw
  exact h
def rules_o13 : List Rule := []
@[reducible] def tab_o13 : OTab := ⟨rules_o13, []⟩
theorem run_o13 : lowV 2 (@run tab_o13 Tryz.prog 79 [.agg ⟨[.int .i64 13, .float .f64 1, .float .f64 2, .float .f64 3, .float .f64 4, .float .f64 5, .float .f64 6, .float .f64 7, .float .f64 8, .float .f64 9, .float .f64 10, .float .f64 11, .float .f64 12, .float .f64 13, .float .f64 14, .float .f64 15, .float .f64 16, .float .f64 17, .float .f64 18, .float .f64 19, .float .f64 20, .float .f64 21, .float .f64 22, .float .f64 23, .float .f64 24, .float .f64 25, .float .f64 26, .float .f64 27]⟩] (@stT 2 [])) = some (.agg ⟨[.int .i64 13, .float .f64 1, .float .f64 2, .int .i64 0, .int .i64 0, .float .f64 5, .int .i64 0, .int .i64 0, .slice none 0 0, .int .i64 0, .int .i64 0, .int .i64 0, .int .i64 0, .int .i64 0, .int .i64 0, .int .i64 0, .int .i64 0, .int .i64 0, .int .i64 0, .int .i64 0, .int .i64 0, .int .i64 0, .int .i64 0, .int .i64 0, .int .i64 0, .slice none 0 0, .slice none 0 0, .slice none 0 0]⟩, true) := by kernel_rfl
theorem onlye13 (e : EvD) (P : EvP) (hk : e.kind = 13) : OnlyIs e P := by
  refine ⟨⟨e.kind, e.tick, e.who, 0, 0, e.n, 0, 0, [], 0, 0, 0, 0, 0, 0, 0, 0, 0, 0, ⟨0, 0, 0, 0, 0, 0, [], []⟩, []⟩, ⟨none, 0, ⟨none, 0, none, 0⟩, none, 0⟩, ⟨.inl rfl, ⟨.inl rfl, .inl rfl⟩, rfl⟩, fun w hw => ?_⟩
  letI : OTab := tab_o13
  letI : OVal := @OVal.mk tab_o13 (eval e P) (eval_shape e P) (show ∀ r ∈ rules_o13, r.Holds (eval e P) from (fun _ h => by cases h))
  have hval : ∀ i, OVal.val i = eval e P i := fun _ => rfl
  have h := ret_of_run (P := Tryz.prog) (cargs := [.agg (evCells e P).toArray]) (cv := .agg (evCells ⟨e.kind, e.tick, e.who, 0, 0, e.n, 0, 0, [], 0, 0, 0, 0, 0, 0, 0, 0, 0, 0, ⟨0, 0, 0, 0, 0, 0, [], []⟩, []⟩ ⟨none, 0, ⟨none, 0, none, 0⟩, none, 0⟩).toArray) mix (fun r hr => by cases hr) (Nat.le_of_eq globs) run_o13 (fun m => by simp [conc, concL, hval, eval, evCells, hk]) (fun m => by simp [conc, concL, hval, eval, evCells, hk]) hw
  exact h
theorem h_eql_no (a b : Int) (h : a ≠ b) : scalB .eql (.int .i64 a) (.int .i64 b) = some (.bool false) := by
  show gd (kindEq .i64 .i64) (some (Value.bool (eqI a b))) = _
  rw [kind_self, eqI_eq]
  simp [gd, h]
def rules_o0 : List Rule := [⟨.bin .eql, .float .f64 0, .int .i64 1, .bool false⟩, ⟨.bin .eql, .float .f64 0, .int .i64 2, .bool false⟩, ⟨.bin .eql, .float .f64 0, .int .i64 3, .bool false⟩, ⟨.bin .eql, .float .f64 0, .int .i64 4, .bool false⟩, ⟨.bin .eql, .float .f64 0, .int .i64 5, .bool false⟩, ⟨.bin .eql, .float .f64 0, .int .i64 6, .bool false⟩, ⟨.bin .eql, .float .f64 0, .int .i64 7, .bool false⟩, ⟨.bin .eql, .float .f64 0, .int .i64 8, .bool false⟩, ⟨.bin .eql, .float .f64 0, .int .i64 9, .bool false⟩, ⟨.bin .eql, .float .f64 0, .int .i64 10, .bool false⟩, ⟨.bin .eql, .float .f64 0, .int .i64 11, .bool false⟩, ⟨.bin .eql, .float .f64 0, .int .i64 12, .bool false⟩, ⟨.bin .eql, .float .f64 0, .int .i64 13, .bool false⟩]
@[reducible] def tab_o0 : OTab := ⟨rules_o0, []⟩
theorem run_o0 : lowV 2 (@run tab_o0 Tryz.prog 79 [.agg ⟨[.float .f64 0, .float .f64 1, .float .f64 2, .float .f64 3, .float .f64 4, .float .f64 5, .float .f64 6, .float .f64 7, .float .f64 8, .float .f64 9, .float .f64 10, .float .f64 11, .float .f64 12, .float .f64 13, .float .f64 14, .float .f64 15, .float .f64 16, .float .f64 17, .float .f64 18, .float .f64 19, .float .f64 20, .float .f64 21, .float .f64 22, .float .f64 23, .float .f64 24, .float .f64 25, .float .f64 26, .float .f64 27]⟩] (@stT 2 [])) = some (.agg ⟨[.float .f64 0, .float .f64 1, .int .i64 0, .int .i64 0, .int .i64 0, .int .i64 0, .int .i64 0, .int .i64 0, .slice none 0 0, .int .i64 0, .int .i64 0, .int .i64 0, .int .i64 0, .int .i64 0, .int .i64 0, .int .i64 0, .int .i64 0, .int .i64 0, .int .i64 0, .int .i64 0, .int .i64 0, .int .i64 0, .int .i64 0, .int .i64 0, .int .i64 0, .slice none 0 0, .slice none 0 0, .slice none 0 0]⟩, true) := by kernel_rfl
theorem onlye0 (e : EvD) (P : EvP) (h1 : e.kind ≠ 1) (h2 : e.kind ≠ 2) (h3 : e.kind ≠ 3) (h4 : e.kind ≠ 4) (h5 : e.kind ≠ 5) (h6 : e.kind ≠ 6) (h7 : e.kind ≠ 7) (h8 : e.kind ≠ 8) (h9 : e.kind ≠ 9) (h10 : e.kind ≠ 10) (h11 : e.kind ≠ 11) (h12 : e.kind ≠ 12) (h13 : e.kind ≠ 13) : OnlyIs e P := by
  refine ⟨⟨e.kind, e.tick, 0, 0, 0, 0, 0, 0, [], 0, 0, 0, 0, 0, 0, 0, 0, 0, 0, ⟨0, 0, 0, 0, 0, 0, [], []⟩, []⟩, ⟨none, 0, ⟨none, 0, none, 0⟩, none, 0⟩, ⟨.inl rfl, ⟨.inl rfl, .inl rfl⟩, rfl⟩, fun w hw => ?_⟩
  letI : OTab := tab_o0
  letI : OVal := @OVal.mk tab_o0 (eval e P) (eval_shape e P) (show ∀ r ∈ rules_o0, r.Holds (eval e P) from List.forall_mem_cons.2 ⟨h_eql_no e.kind 1 h1, List.forall_mem_cons.2 ⟨h_eql_no e.kind 2 h2, List.forall_mem_cons.2 ⟨h_eql_no e.kind 3 h3, List.forall_mem_cons.2 ⟨h_eql_no e.kind 4 h4, List.forall_mem_cons.2 ⟨h_eql_no e.kind 5 h5, List.forall_mem_cons.2 ⟨h_eql_no e.kind 6 h6, List.forall_mem_cons.2 ⟨h_eql_no e.kind 7 h7, List.forall_mem_cons.2 ⟨h_eql_no e.kind 8 h8, List.forall_mem_cons.2 ⟨h_eql_no e.kind 9 h9, List.forall_mem_cons.2 ⟨h_eql_no e.kind 10 h10, List.forall_mem_cons.2 ⟨h_eql_no e.kind 11 h11, List.forall_mem_cons.2 ⟨h_eql_no e.kind 12 h12, List.forall_mem_cons.2 ⟨h_eql_no e.kind 13 h13, (fun _ h => by cases h)⟩⟩⟩⟩⟩⟩⟩⟩⟩⟩⟩⟩⟩)
  have hval : ∀ i, OVal.val i = eval e P i := fun _ => rfl
  have h := ret_of_run (P := Tryz.prog) (cargs := [.agg (evCells e P).toArray]) (cv := .agg (evCells ⟨e.kind, e.tick, 0, 0, 0, 0, 0, 0, [], 0, 0, 0, 0, 0, 0, 0, 0, 0, 0, ⟨0, 0, 0, 0, 0, 0, [], []⟩, []⟩ ⟨none, 0, ⟨none, 0, none, 0⟩, none, 0⟩).toArray) mix (fun r hr => by cases hr) (Nat.le_of_eq globs) run_o0 (fun m => by simp [conc, concL, hval, eval, evCells]) (fun m => by simp [conc, concL, hval, eval, evCells]) hw
  exact h
theorem only_any (e : EvD) (P : EvP) : OnlyIs e P := by
  by_cases h1 : e.kind = 1
  · exact onlye1 e P h1
  by_cases h2 : e.kind = 2
  · exact onlye2 e P h2
  by_cases h3 : e.kind = 3
  · exact onlye3 e P h3
  by_cases h6 : e.kind = 6
  · exact onlye6 e P h6
  by_cases h4 : e.kind = 4
  · exact onlye4 e P h4
  by_cases h5 : e.kind = 5
  · exact onlye5 e P h5
  by_cases h7 : e.kind = 7
  · exact onlye7 e P h7
  by_cases h8 : e.kind = 8
  · exact onlye8 e P h8
  by_cases h9 : e.kind = 9
  · exact onlye9 e P h9
  by_cases h10 : e.kind = 10
  · exact onlye10 e P h10
  by_cases h11 : e.kind = 11
  · exact onlye11 e P h11
  by_cases h12 : e.kind = 12
  · exact onlye12 e P h12
  by_cases h13 : e.kind = 13
  · exact onlye13 e P h13
  exact onlye0 e P h1 h2 h3 h4 h5 h6 h7 h8 h9 h10 h11 h12 h13
end Go.Proofs.YtgaimkgaooiieaaGreatDoor
