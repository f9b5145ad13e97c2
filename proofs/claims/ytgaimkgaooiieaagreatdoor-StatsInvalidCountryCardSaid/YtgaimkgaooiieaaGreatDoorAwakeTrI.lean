/-
  What samaritanref51.One answers: a bool that hangs on the two events alone. Printed by mkone4.py.
-/
import Derived.Test.YtgaimkgaooiieaaGreatDoorAwakeTrEH
import Derived.Laws.BytesArg
import Derived.Laws.StructEq
import Derived.Deep.Cut
import Derived.Deep.MidRow
namespace Go.Proofs.YtgaimkgaooiieaaGreatDoor
open Go Go.RowKit Go.Ev

/-! ## where a number differs -/
def eval2 (e : EvD) (P : EvP) (d : EvD) (Q : EvP) (i : Nat) : Value := (evCells e P ++ evCells d Q).getD i (.int .i64 0)
theorem eval2_shape (e : EvD) (P : EvP) (d : EvD) (Q : EvP) (i : Nat) : (∃ k n, eval2 e P d Q i = .int k n) ∨ (∃ s, eval2 e P d Q i = .string s) ∨ ∃ a l c, eval2 e P d Q i = .slice a l c := by
  have h1 : ∀ j, (evCells e P ++ evCells d Q).getD (28 + j) (.int .i64 0) = eval d Q j := fun j => by
    unfold eval
    simp only [List.getD_eq_getElem?_getD]
    rw [List.getElem?_append_right (by simp [evCells])]
    simp [evCells]
  by_cases h : i < 28
  · have h2 : eval2 e P d Q i = eval e P i := by
      unfold eval2 eval
      simp only [List.getD_eq_getElem?_getD]
      rw [List.getElem?_append_left (by simpa [evCells] using h)]
    rw [h2]
    exact eval_shape e P i
  · have h2 : eval2 e P d Q i = eval d Q (i - 28) := by
      unfold eval2
      rw [show i = 28 + (i - 28) by omega, h1]
      congr 1
      omega
    rw [h2]
    exact eval_shape d Q _
theorem h_eql_yes (a b : Int) (h : a = b) : scalB .eql (.int .i64 a) (.int .i64 b) = some (.bool true) := by
  show gd (kindEq .i64 .i64) (some (Value.bool (eqI a b))) = _
  rw [kind_self, eqI_eq]
  simp [gd, h]
def rules_n0 : List Rule := [⟨.bin .eql, .float .f64 0, .float .f64 28, .bool false⟩]
@[reducible] def tab_n0 : OTab := ⟨rules_n0, []⟩
theorem run_n0 : lowV 2 (@run tab_n0 Tryz.prog 78 [.agg ⟨[.float .f64 0, .float .f64 1, .float .f64 2, .float .f64 3, .float .f64 4, .float .f64 5, .float .f64 6, .float .f64 7, .float .f64 8, .float .f64 9, .float .f64 10, .float .f64 11, .float .f64 12, .float .f64 13, .float .f64 14, .float .f64 15, .float .f64 16, .float .f64 17, .float .f64 18, .float .f64 19, .float .f64 20, .float .f64 21, .float .f64 22, .float .f64 23, .float .f64 24, .float .f64 25, .float .f64 26, .float .f64 27]⟩, .agg ⟨[.float .f64 28, .float .f64 29, .float .f64 30, .float .f64 31, .float .f64 32, .float .f64 33, .float .f64 34, .float .f64 35, .float .f64 36, .float .f64 37, .float .f64 38, .float .f64 39, .float .f64 40, .float .f64 41, .float .f64 42, .float .f64 43, .float .f64 44, .float .f64 45, .float .f64 46, .float .f64 47, .float .f64 48, .float .f64 49, .float .f64 50, .float .f64 51, .float .f64 52, .float .f64 53, .float .f64 54, .float .f64 55]⟩] (@stT 2 [])) = some (.bool false, true) := by kernel_rfl
theorem one_n0 (e d : EvD) (P Q : EvP) (h0 : e.kind ≠ d.kind) (w : World) (hw : 2 ≤ w.heap.size) : Calls Tryz.prog 78 #[.agg (evCells e P).toArray, .agg (evCells d Q).toArray] w (Says false w) := by
  letI : OTab := tab_n0
  letI : OVal := @OVal.mk tab_n0 (eval2 e P d Q) (eval2_shape e P d Q) (show ∀ r ∈ rules_n0, r.Holds (eval2 e P d Q) from List.forall_mem_cons.2 ⟨h_eql_no e.kind d.kind h0, (fun _ h => by cases h)⟩)
  have hval : ∀ i, OVal.val i = eval2 e P d Q i := fun _ => rfl
  exact ret_of_run (P := Tryz.prog) (cargs := [.agg (evCells e P).toArray, .agg (evCells d Q).toArray]) (cv := .bool false) mix (fun r hr => by cases hr) (Nat.le_of_eq globs) run_n0 (fun m => by simp [conc, concL, hval, eval2, evCells]) (fun m => by simp [conc]) hw
def rules_n1 : List Rule := [⟨.bin .eql, .float .f64 0, .float .f64 28, .bool true⟩, ⟨.bin .eql, .float .f64 1, .float .f64 29, .bool false⟩]
@[reducible] def tab_n1 : OTab := ⟨rules_n1, []⟩
theorem run_n1 : lowV 2 (@run tab_n1 Tryz.prog 78 [.agg ⟨[.float .f64 0, .float .f64 1, .float .f64 2, .float .f64 3, .float .f64 4, .float .f64 5, .float .f64 6, .float .f64 7, .float .f64 8, .float .f64 9, .float .f64 10, .float .f64 11, .float .f64 12, .float .f64 13, .float .f64 14, .float .f64 15, .float .f64 16, .float .f64 17, .float .f64 18, .float .f64 19, .float .f64 20, .float .f64 21, .float .f64 22, .float .f64 23, .float .f64 24, .float .f64 25, .float .f64 26, .float .f64 27]⟩, .agg ⟨[.float .f64 28, .float .f64 29, .float .f64 30, .float .f64 31, .float .f64 32, .float .f64 33, .float .f64 34, .float .f64 35, .float .f64 36, .float .f64 37, .float .f64 38, .float .f64 39, .float .f64 40, .float .f64 41, .float .f64 42, .float .f64 43, .float .f64 44, .float .f64 45, .float .f64 46, .float .f64 47, .float .f64 48, .float .f64 49, .float .f64 50, .float .f64 51, .float .f64 52, .float .f64 53, .float .f64 54, .float .f64 55]⟩] (@stT 2 [])) = some (.bool false, true) := by kernel_rfl
theorem one_n1 (e d : EvD) (P Q : EvP) (h0 : e.kind = d.kind) (h1 : e.tick ≠ d.tick) (w : World) (hw : 2 ≤ w.heap.size) : Calls Tryz.prog 78 #[.agg (evCells e P).toArray, .agg (evCells d Q).toArray] w (Says false w) := by
  letI : OTab := tab_n1
  letI : OVal := @OVal.mk tab_n1 (eval2 e P d Q) (eval2_shape e P d Q) (show ∀ r ∈ rules_n1, r.Holds (eval2 e P d Q) from List.forall_mem_cons.2 ⟨h_eql_yes e.kind d.kind h0, List.forall_mem_cons.2 ⟨h_eql_no e.tick d.tick h1, (fun _ h => by cases h)⟩⟩)
  have hval : ∀ i, OVal.val i = eval2 e P d Q i := fun _ => rfl
  exact ret_of_run (P := Tryz.prog) (cargs := [.agg (evCells e P).toArray, .agg (evCells d Q).toArray]) (cv := .bool false) mix (fun r hr => by cases hr) (Nat.le_of_eq globs) run_n1 (fun m => by simp [conc, concL, hval, eval2, evCells]) (fun m => by simp [conc]) hw
def rules_n2 : List Rule := [⟨.bin .eql, .float .f64 0, .float .f64 28, .bool true⟩, ⟨.bin .eql, .float .f64 1, .float .f64 29, .bool true⟩, ⟨.bin .eql, .float .f64 2, .float .f64 30, .bool false⟩]
@[reducible] def tab_n2 : OTab := ⟨rules_n2, []⟩
theorem run_n2 : lowV 2 (@run tab_n2 Tryz.prog 78 [.agg ⟨[.float .f64 0, .float .f64 1, .float .f64 2, .float .f64 3, .float .f64 4, .float .f64 5, .float .f64 6, .float .f64 7, .float .f64 8, .float .f64 9, .float .f64 10, .float .f64 11, .float .f64 12, .float .f64 13, .float .f64 14, .float .f64 15, .float .f64 16, .float .f64 17, .float .f64 18, .float .f64 19, .float .f64 20, .float .f64 21, .float .f64 22, .float .f64 23, .float .f64 24, .float .f64 25, .float .f64 26, .float .f64 27]⟩, .agg ⟨[.float .f64 28, .float .f64 29, .float .f64 30, .float .f64 31, .float .f64 32, .float .f64 33, .float .f64 34, .float .f64 35, .float .f64 36, .float .f64 37, .float .f64 38, .float .f64 39, .float .f64 40, .float .f64 41, .float .f64 42, .float .f64 43, .float .f64 44, .float .f64 45, .float .f64 46, .float .f64 47, .float .f64 48, .float .f64 49, .float .f64 50, .float .f64 51, .float .f64 52, .float .f64 53, .float .f64 54, .float .f64 55]⟩] (@stT 2 [])) = some (.bool false, true) := by kernel_rfl
theorem one_n2 (e d : EvD) (P Q : EvP) (h0 : e.kind = d.kind) (h1 : e.tick = d.tick) (h2 : e.who ≠ d.who) (w : World) (hw : 2 ≤ w.heap.size) : Calls Tryz.prog 78 #[.agg (evCells e P).toArray, .agg (evCells d Q).toArray] w (Says false w) := by
  letI : OTab := tab_n2
  letI : OVal := @OVal.mk tab_n2 (eval2 e P d Q) (eval2_shape e P d Q) (show ∀ r ∈ rules_n2, r.Holds (eval2 e P d Q) from List.forall_mem_cons.2 ⟨h_eql_yes e.kind d.kind h0, List.forall_mem_cons.2 ⟨h_eql_yes e.tick d.tick h1, List.forall_mem_cons.2 ⟨h_eql_no e.who d.who h2, (fun _ h => by cases h)⟩⟩⟩)
  have hval : ∀ i, OVal.val i = eval2 e P d Q i := fun _ => rfl
  exact ret_of_run (P := Tryz.prog) (cargs := [.agg (evCells e P).toArray, .agg (evCells d Q).toArray]) (cv := .bool false) mix (fun r hr => by cases hr) (Nat.le_of_eq globs) run_n2 (fun m => by simp [conc, concL, hval, eval2, evCells]) (fun m => by simp [conc]) hw
def rules_n3 : List Rule := [⟨.bin .eql, .float .f64 0, .float .f64 28, .bool true⟩, ⟨.bin .eql, .float .f64 1, .float .f64 29, .bool true⟩, ⟨.bin .eql, .float .f64 2, .float .f64 30, .bool true⟩, ⟨.bin .eql, .float .f64 3, .float .f64 31, .bool false⟩]
@[reducible] def tab_n3 : OTab := ⟨rules_n3, []⟩
theorem run_n3 : lowV 2 (@run tab_n3 Tryz.prog 78 [.agg ⟨[.float .f64 0, .float .f64 1, .float .f64 2, .float .f64 3, .float .f64 4, .float .f64 5, .float .f64 6, .float .f64 7, .float .f64 8, .float .f64 9, .float .f64 10, .float .f64 11, .float .f64 12, .float .f64 13, .float .f64 14, .float .f64 15, .float .f64 16, .float .f64 17, .float .f64 18, .float .f64 19, .float .f64 20, .float .f64 21, .float .f64 22, .float .f64 23, .float .f64 24, .float .f64 25, .float .f64 26, .float .f64 27]⟩, .agg ⟨[.float .f64 28, .float .f64 29, .float .f64 30, .float .f64 31, .float .f64 32, .float .f64 33, .float .f64 34, .float .f64 35, .float .f64 36, .float .f64 37, .float .f64 38, .float .f64 39, .float .f64 40, .float .f64 41, .float .f64 42, .float .f64 43, .float .f64 44, .float .f64 45, .float .f64 46, .float .f64 47, .float .f64 48, .float .f64 49, .float .f64 50, .float .f64 51, .float .f64 52, .float .f64 53, .float .f64 54, .float .f64 55]⟩] (@stT 2 [])) = some (.bool false, true) := by kernel_rfl
theorem one_n3 (e d : EvD) (P Q : EvP) (h0 : e.kind = d.kind) (h1 : e.tick = d.tick) (h2 : e.who = d.who) (h3 : e.call ≠ d.call) (w : World) (hw : 2 ≤ w.heap.size) : Calls Tryz.prog 78 #[.agg (evCells e P).toArray, .agg (evCells d Q).toArray] w (Says false w) := by
  letI : OTab := tab_n3
  letI : OVal := @OVal.mk tab_n3 (eval2 e P d Q) (eval2_shape e P d Q) (show ∀ r ∈ rules_n3, r.Holds (eval2 e P d Q) from List.forall_mem_cons.2 ⟨h_eql_yes e.kind d.kind h0, List.forall_mem_cons.2 ⟨h_eql_yes e.tick d.tick h1, List.forall_mem_cons.2 ⟨h_eql_yes e.who d.who h2, List.forall_mem_cons.2 ⟨h_eql_no e.call d.call h3, (fun _ h => by cases h)⟩⟩⟩⟩)
  have hval : ∀ i, OVal.val i = eval2 e P d Q i := fun _ => rfl
  exact ret_of_run (P := Tryz.prog) (cargs := [.agg (evCells e P).toArray, .agg (evCells d Q).toArray]) (cv := .bool false) mix (fun r hr => by cases hr) (Nat.le_of_eq globs) run_n3 (fun m => by simp [conc, concL, hval, eval2, evCells]) (fun m => by simp [conc]) hw
def rules_n4 : List Rule := [⟨.bin .eql, .float .f64 0, .float .f64 28, .bool true⟩, ⟨.bin .eql, .float .f64 1, .float .f64 29, .bool true⟩, ⟨.bin .eql, .float .f64 2, .float .f64 30, .bool true⟩, ⟨.bin .eql, .float .f64 3, .float .f64 31, .bool true⟩, ⟨.bin .eql, .float .f64 4, .float .f64 32, .bool false⟩]
@[reducible] def tab_n4 : OTab := ⟨rules_n4, []⟩
theorem run_n4 : lowV 2 (@run tab_n4 Tryz.prog 78 [.agg ⟨[.float .f64 0, .float .f64 1, .float .f64 2, .float .f64 3, .float .f64 4, .float .f64 5, .float .f64 6, .float .f64 7, .float .f64 8, .float .f64 9, .float .f64 10, .float .f64 11, .float .f64 12, .float .f64 13, .float .f64 14, .float .f64 15, .float .f64 16, .float .f64 17, .float .f64 18, .float .f64 19, .float .f64 20, .float .f64 21, .float .f64 22, .float .f64 23, .float .f64 24, .float .f64 25, .float .f64 26, .float .f64 27]⟩, .agg ⟨[.float .f64 28, .float .f64 29, .float .f64 30, .float .f64 31, .float .f64 32, .float .f64 33, .float .f64 34, .float .f64 35, .float .f64 36, .float .f64 37, .float .f64 38, .float .f64 39, .float .f64 40, .float .f64 41, .float .f64 42, .float .f64 43, .float .f64 44, .float .f64 45, .float .f64 46, .float .f64 47, .float .f64 48, .float .f64 49, .float .f64 50, .float .f64 51, .float .f64 52, .float .f64 53, .float .f64 54, .float .f64 55]⟩] (@stT 2 [])) = some (.bool false, true) := by kernel_rfl
theorem one_n4 (e d : EvD) (P Q : EvP) (h0 : e.kind = d.kind) (h1 : e.tick = d.tick) (h2 : e.who = d.who) (h3 : e.call = d.call) (h4 : e.epoch ≠ d.epoch) (w : World) (hw : 2 ≤ w.heap.size) : Calls Tryz.prog 78 #[.agg (evCells e P).toArray, .agg (evCells d Q).toArray] w (Says false w) := by
  letI : OTab := tab_n4
  letI : OVal := @OVal.mk tab_n4 (eval2 e P d Q) (eval2_shape e P d Q) (show ∀ r ∈ rules_n4, r.Holds (eval2 e P d Q) from List.forall_mem_cons.2 ⟨h_eql_yes e.kind d.kind h0, List.forall_mem_cons.2 ⟨h_eql_yes e.tick d.tick h1, List.forall_mem_cons.2 ⟨h_eql_yes e.who d.who h2, List.forall_mem_cons.2 ⟨h_eql_yes e.call d.call h3, List.forall_mem_cons.2 ⟨h_eql_no e.epoch d.epoch h4, (fun _ h => by cases h)⟩⟩⟩⟩⟩)
  have hval : ∀ i, OVal.val i = eval2 e P d Q i := fun _ => rfl
  exact ret_of_run (P := Tryz.prog) (cargs := [.agg (evCells e P).toArray, .agg (evCells d Q).toArray]) (cv := .bool false) mix (fun r hr => by cases hr) (Nat.le_of_eq globs) run_n4 (fun m => by simp [conc, concL, hval, eval2, evCells]) (fun m => by simp [conc]) hw
def rules_n5 : List Rule := [⟨.bin .eql, .float .f64 0, .float .f64 28, .bool true⟩, ⟨.bin .eql, .float .f64 1, .float .f64 29, .bool true⟩, ⟨.bin .eql, .float .f64 2, .float .f64 30, .bool true⟩, ⟨.bin .eql, .float .f64 3, .float .f64 31, .bool true⟩, ⟨.bin .eql, .float .f64 4, .float .f64 32, .bool true⟩, ⟨.bin .eql, .float .f64 5, .float .f64 33, .bool false⟩]
@[reducible] def tab_n5 : OTab := ⟨rules_n5, []⟩
theorem run_n5 : lowV 2 (@run tab_n5 Tryz.prog 78 [.agg ⟨[.float .f64 0, .float .f64 1, .float .f64 2, .float .f64 3, .float .f64 4, .float .f64 5, .float .f64 6, .float .f64 7, .float .f64 8, .float .f64 9, .float .f64 10, .float .f64 11, .float .f64 12, .float .f64 13, .float .f64 14, .float .f64 15, .float .f64 16, .float .f64 17, .float .f64 18, .float .f64 19, .float .f64 20, .float .f64 21, .float .f64 22, .float .f64 23, .float .f64 24, .float .f64 25, .float .f64 26, .float .f64 27]⟩, .agg ⟨[.float .f64 28, .float .f64 29, .float .f64 30, .float .f64 31, .float .f64 32, .float .f64 33, .float .f64 34, .float .f64 35, .float .f64 36, .float .f64 37, .float .f64 38, .float .f64 39, .float .f64 40, .float .f64 41, .float .f64 42, .float .f64 43, .float .f64 44, .float .f64 45, .float .f64 46, .float .f64 47, .float .f64 48, .float .f64 49, .float .f64 50, .float .f64 51, .float .f64 52, .float .f64 53, .float .f64 54, .float .f64 55]⟩] (@stT 2 [])) = some (.bool false, true) := by kernel_rfl
theorem one_n5 (e d : EvD) (P Q : EvP) (h0 : e.kind = d.kind) (h1 : e.tick = d.tick) (h2 : e.who = d.who) (h3 : e.call = d.call) (h4 : e.epoch = d.epoch) (h5 : e.n ≠ d.n) (w : World) (hw : 2 ≤ w.heap.size) : Calls Tryz.prog 78 #[.agg (evCells e P).toArray, .agg (evCells d Q).toArray] w (Says false w) := by
  letI : OTab := tab_n5
  letI : OVal := @OVal.mk tab_n5 (eval2 e P d Q) (eval2_shape e P d Q) (show ∀ r ∈ rules_n5, r.Holds (eval2 e P d Q) from List.forall_mem_cons.2 ⟨h_eql_yes e.kind d.kind h0, List.forall_mem_cons.2 ⟨h_eql_yes e.tick d.tick h1, List.forall_mem_cons.2 ⟨h_eql_yes e.who d.who h2, List.forall_mem_cons.2 ⟨h_eql_yes e.call d.call h3, List.forall_mem_cons.2 ⟨h_eql_yes e.epoch d.epoch h4, List.forall_mem_cons.2 ⟨h_eql_no e.n d.n h5, (fun _ h => by cases h)⟩⟩⟩⟩⟩⟩)
  have hval : ∀ i, OVal.val i = eval2 e P d Q i := fun _ => rfl
  exact ret_of_run (P := Tryz.prog) (cargs := [.agg (evCells e P).toArray, .agg (evCells d Q).toArray]) (cv := .bool false) mix (fun r hr => by cases hr) (Nat.le_of_eq globs) run_n5 (fun m => by simp [conc, concL, hval, eval2, evCells]) (fun m => by simp [conc]) hw
def rules_n6 : List Rule := [⟨.bin .eql, .float .f64 0, .float .f64 28, .bool true⟩, ⟨.bin .eql, .float .f64 1, .float .f64 29, .bool true⟩, ⟨.bin .eql, .float .f64 2, .float .f64 30, .bool true⟩, ⟨.bin .eql, .float .f64 3, .float .f64 31, .bool true⟩, ⟨.bin .eql, .float .f64 4, .float .f64 32, .bool true⟩, ⟨.bin .eql, .float .f64 5, .float .f64 33, .bool true⟩, ⟨.bin .eql, .float .f64 6, .float .f64 34, .bool false⟩]
@[reducible] def tab_n6 : OTab := ⟨rules_n6, []⟩
theorem run_n6 : lowV 2 (@run tab_n6 Tryz.prog 78 [.agg ⟨[.float .f64 0, .float .f64 1, .float .f64 2, .float .f64 3, .float .f64 4, .float .f64 5, .float .f64 6, .float .f64 7, .float .f64 8, .float .f64 9, .float .f64 10, .float .f64 11, .float .f64 12, .float .f64 13, .float .f64 14, .float .f64 15, .float .f64 16, .float .f64 17, .float .f64 18, .float .f64 19, .float .f64 20, .float .f64 21, .float .f64 22, .float .f64 23, .float .f64 24, .float .f64 25, .float .f64 26, .float .f64 27]⟩, .agg ⟨[.float .f64 28, .float .f64 29, .float .f64 30, .float .f64 31, .float .f64 32, .float .f64 33, .float .f64 34, .float .f64 35, .float .f64 36, .float .f64 37, .float .f64 38, .float .f64 39, .float .f64 40, .float .f64 41, .float .f64 42, .float .f64 43, .float .f64 44, .float .f64 45, .float .f64 46, .float .f64 47, .float .f64 48, .float .f64 49, .float .f64 50, .float .f64 51, .float .f64 52, .float .f64 53, .float .f64 54, .float .f64 55]⟩] (@stT 2 [])) = some (.bool false, true) := by kernel_rfl
theorem one_n6 (e d : EvD) (P Q : EvP) (h0 : e.kind = d.kind) (h1 : e.tick = d.tick) (h2 : e.who = d.who) (h3 : e.call = d.call) (h4 : e.epoch = d.epoch) (h5 : e.n = d.n) (h6 : e.term ≠ d.term) (w : World) (hw : 2 ≤ w.heap.size) : Calls Tryz.prog 78 #[.agg (evCells e P).toArray, .agg (evCells d Q).toArray] w (Says false w) := by
  letI : OTab := tab_n6
  letI : OVal := @OVal.mk tab_n6 (eval2 e P d Q) (eval2_shape e P d Q) (show ∀ r ∈ rules_n6, r.Holds (eval2 e P d Q) from List.forall_mem_cons.2 ⟨h_eql_yes e.kind d.kind h0, List.forall_mem_cons.2 ⟨h_eql_yes e.tick d.tick h1, List.forall_mem_cons.2 ⟨h_eql_yes e.who d.who h2, List.forall_mem_cons.2 ⟨h_eql_yes e.call d.call h3, List.forall_mem_cons.2 ⟨h_eql_yes e.epoch d.epoch h4, List.forall_mem_cons.2 ⟨h_eql_yes e.n d.n h5, List.forall_mem_cons.2 ⟨h_eql_no e.term d.term h6, (fun _ h => by cases h)⟩⟩⟩⟩⟩⟩⟩)
  have hval : ∀ i, OVal.val i = eval2 e P d Q i := fun _ => rfl
  exact ret_of_run (P := Tryz.prog) (cargs := [.agg (evCells e P).toArray, .agg (evCells d Q).toArray]) (cv := .bool false) mix (fun r hr => by cases hr) (Nat.le_of_eq globs) run_n6 (fun m => by simp [conc, concL, hval, eval2, evCells]) (fun m => by simp [conc]) hw
def rules_n7 : List Rule := [⟨.bin .eql, .float .f64 0, .float .f64 28, .bool true⟩, ⟨.bin .eql, .float .f64 1, .float .f64 29, .bool true⟩, ⟨.bin .eql, .float .f64 2, .float .f64 30, .bool true⟩, ⟨.bin .eql, .float .f64 3, .float .f64 31, .bool true⟩, ⟨.bin .eql, .float .f64 4, .float .f64 32, .bool true⟩, ⟨.bin .eql, .float .f64 5, .float .f64 33, .bool true⟩, ⟨.bin .eql, .float .f64 6, .float .f64 34, .bool true⟩, ⟨.bin .eql, .float .f64 7, .float .f64 35, .bool false⟩]
@[reducible] def tab_n7 : OTab := ⟨rules_n7, []⟩
theorem run_n7 : lowV 2 (@run tab_n7 Tryz.prog 78 [.agg ⟨[.float .f64 0, .float .f64 1, .float .f64 2, .float .f64 3, .float .f64 4, .float .f64 5, .float .f64 6, .float .f64 7, .float .f64 8, .float .f64 9, .float .f64 10, .float .f64 11, .float .f64 12, .float .f64 13, .float .f64 14, .float .f64 15, .float .f64 16, .float .f64 17, .float .f64 18, .float .f64 19, .float .f64 20, .float .f64 21, .float .f64 22, .float .f64 23, .float .f64 24, .float .f64 25, .float .f64 26, .float .f64 27]⟩, .agg ⟨[.float .f64 28, .float .f64 29, .float .f64 30, .float .f64 31, .float .f64 32, .float .f64 33, .float .f64 34, .float .f64 35, .float .f64 36, .float .f64 37, .float .f64 38, .float .f64 39, .float .f64 40, .float .f64 41, .float .f64 42, .float .f64 43, .float .f64 44, .float .f64 45, .float .f64 46, .float .f64 47, .float .f64 48, .float .f64 49, .float .f64 50, .float .f64 51, .float .f64 52, .float .f64 53, .float .f64 54, .float .f64 55]⟩] (@stT 2 [])) = some (.bool false, true) := by kernel_rfl
theorem one_n7 (e d : EvD) (P Q : EvP) (h0 : e.kind = d.kind) (h1 : e.tick = d.tick) (h2 : e.who = d.who) (h3 : e.call = d.call) (h4 : e.epoch = d.epoch) (h5 : e.n = d.n) (h6 : e.term = d.term) (h7 : e.ek ≠ d.ek) (w : World) (hw : 2 ≤ w.heap.size) : Calls Tryz.prog 78 #[.agg (evCells e P).toArray, .agg (evCells d Q).toArray] w (Says false w) := by
  letI : OTab := tab_n7
  letI : OVal := @OVal.mk tab_n7 (eval2 e P d Q) (eval2_shape e P d Q) (show ∀ r ∈ rules_n7, r.Holds (eval2 e P d Q) from List.forall_mem_cons.2 ⟨h_eql_yes e.kind d.kind h0, List.forall_mem_cons.2 ⟨h_eql_yes e.tick d.tick h1, List.forall_mem_cons.2 ⟨h_eql_yes e.who d.who h2, List.forall_mem_cons.2 ⟨h_eql_yes e.call d.call h3, List.forall_mem_cons.2 ⟨h_eql_yes e.epoch d.epoch h4, List.forall_mem_cons.2 ⟨h_eql_yes e.n d.n h5, List.forall_mem_cons.2 ⟨h_eql_yes e.term d.term h6, List.forall_mem_cons.2 ⟨h_eql_no e.ek d.ek h7, (fun _ h => by cases h)⟩⟩⟩⟩⟩⟩⟩⟩)
  have hval : ∀ i, OVal.val i = eval2 e P d Q i := fun _ => rfl
  exact ret_of_run (P := Tryz.prog) (cargs := [.agg (evCells e P).toArray, .agg (evCells d Q).toArray]) (cv := .bool false) mix (fun r hr => by cases hr) (Nat.le_of_eq globs) run_n7 (fun m => by simp [conc, concL, hval, eval2, evCells]) (fun m => by simp [conc]) hw

/-! ## where all numbers ahead of the body are equal -/
/-- bytes as a string -/
theorem conv_b {W : World} {B : Nat} {A : Option Addr} {xs : List Int} {c : Nat} (h : BytsAt W B A xs) : (convert 59 9 (.slice A xs.length c)).run Tryz.prog W = .ok (.string (strOfNums xs)) W := by
  by_cases h0 : 0 < xs.length
  · obtain ⟨b, o, rfl, _, hc⟩ := h h0
    exact run_convert_bytes_arg W 59 5 Tryz.underlying59 Tryz.underlying5 b o xs.length c xs rfl hc 9 Tryz.underlying9
  · have e : xs = [] := List.eq_nil_of_length_eq_zero (by omega)
    subst e
    cases A with
    | none => exact run_convert_bytes_nil W 59 5 Tryz.underlying59 Tryz.underlying5 0 c 9 Tryz.underlying9
    | some a =>
      show (convert 59 9 (.slice (some a) 0 c)).run Tryz.prog W = _
      rw [run_convert_bytes_string W 59 9 5 _ 0 c Tryz.underlying59 Tryz.underlying5 Tryz.underlying9, run_bytesToString W a 0 c [] (by simp [loadCells, loadCellsFrom])]
      rfl

/-- two structs of five numbers are equal or not -/
def eqL : List Int → List Int → Bool
  | a :: x, b :: y => a == b && eqL x y
  | _, _ => true
set_option maxRecDepth 100000 in
theorem eqs100 (a0 a1 a2 a3 a4 b0 b1 b2 b3 b4 : Int) (w : World) : (Op.equalIn 10000 100 (.agg #[.int .i64 a0, .int .i64 a1, .int .i64 a2, .int .i64 a3, .int .i64 a4]) (.agg #[.int .i64 b0, .int .i64 b1, .int .i64 b2, .int .i64 b3, .int .i64 b4])).run Tryz.prog w = .ok (eqL [a0, a1, a2, a3, a4] [b0, b1, b2, b3, b4]) w := by
  have u3 := Tryz.underlying3
  have u2 := Tryz.underlying2
  have a3' := Tryz.isAgg3
  have a2' := Tryz.isAgg2
  have hS : Tryz.prog.underlying 100 = some (.struct (Tryz.prog.fieldsOf 100)) := by kernel_rfl
  have hp : Tryz.prog.stoodInHeld 100 = false := by kernel_rfl
  rw [show (10000 : Nat) = 9999 + 1 from rfl, run_equalIn_agg w 9999 100 _ _ hS hp]
  simp only [Program.fieldsOf, Tryz.underlying100]
  go_simp
  by_cases h0 : a0 = b0 <;> by_cases h1 : a1 = b1 <;> by_cases h2 : a2 = b2 <;> by_cases h3 : a3 = b3 <;> by_cases h4 : a4 = b4 <;> simp [eqL, h0, h1, h2, h3, h4]
set_option maxRecDepth 100000 in
theorem eqs72 (a0 a1 a2 a3 a4 b0 b1 b2 b3 b4 : Int) (w : World) : (Op.equalIn 10000 72 (.agg #[.int .i64 a0, .int .i64 a1, .int .i64 a2, .int .i64 a3, .int .i64 a4]) (.agg #[.int .i64 b0, .int .i64 b1, .int .i64 b2, .int .i64 b3, .int .i64 b4])).run Tryz.prog w = .ok (eqL [a0, a1, a2, a3, a4] [b0, b1, b2, b3, b4]) w := by
  have u3 := Tryz.underlying3
  have u2 := Tryz.underlying2
  have a3' := Tryz.isAgg3
  have a2' := Tryz.isAgg2
  have hS : Tryz.prog.underlying 72 = some (.struct (Tryz.prog.fieldsOf 72)) := by kernel_rfl
  have hp : Tryz.prog.stoodInHeld 72 = false := by kernel_rfl
  rw [show (10000 : Nat) = 9999 + 1 from rfl, run_equalIn_agg w 9999 72 _ _ hS hp]
  simp only [Program.fieldsOf, Tryz.underlying72]
  go_simp
  by_cases h0 : a0 = b0 <;> by_cases h1 : a1 = b1 <;> by_cases h2 : a2 = b2 <;> by_cases h3 : a3 = b3 <;> by_cases h4 : a4 = b4 <;> simp [eqL, h0, h1, h2, h3, h4]
/-- a guarded load of a record, where it is wanted -/
theorem wpList_load_g {P : Program} {W : World} {ops : Array Oper} {rest : List Oper} {op : Oper} {a : Act} {Q : Exit → Act → World → Prop} (hg : Region.wanted op (yielded ops a.tmps) = true) (ty : TypeId) (x : Operand) (ho : op.op = .load ty x)
    (b off : Nat) (hx : a.eval x = .pointer (some ⟨b, off, none⟩)) (cs : List Value) (d : TypeDesc) (hc : W.rangeAt b off cs)
    (hu : P.underlying ty = some d) (hd : d.isRow = true) (hi : (P.info? ty).map (·.size) = some cs.length)
    (h : wpList P ops Q rest (a.put op.dst (.agg cs.toArray)) W) : wpList P ops Q (op :: rest) a W := by
  refine wpList_step fun K hK => ?_
  rw [if_pos hg]
  exact wp_load_mid ty x ho b off hx cs d hc hu hd hi (hK _ _ h)
/-- a guarded comparison of two structs, where it is wanted -/
theorem wpList_eqs_g {P : Program} {W : World} {ops : Array Oper} {rest : List Oper} {o : Oper} {a : Act} {Q : Exit → Act → World → Prop} (hg : Region.wanted o (yielded ops a.tmps) = true) (t u : TypeId) (x y : Operand) (ho : o.op = .binOp .eql t x y u)
    {xs ys : Array Value} (hx : a.eval x = .agg xs) (hy : a.eval y = .agg ys) (hm : P.eqGuardType P.depth t = false) {v : Bool} (hr : (Op.equalIn 10000 t (.agg xs) (.agg ys)).run P W = .ok v W)
    (h : wpList P ops Q rest (a.put o.dst (.bool v)) W) : wpList P ops Q (o :: rest) a W := by
  refine wpList_step fun K hK => ?_
  rw [if_pos hg]
  unfold Oper.wp
  have h1 := run_eqGuard_agg (P := P) (w := W) .eql t x y xs ys hm
  have h2 := run_eql_struct (P := P) (w := W) t xs ys
  rw [hr] at h2
  simp [execOp, ho, hx, hy, h1, h2, Result.andThen]
  exact hK _ _ h
theorem range_two_first {w : World} {ca cb : List Value} {t1 t2 : TypeId} (off n : Nat) : ((w.alloc (.cells ca.toArray t1)).alloc (.cells cb.toArray t2)).rangeAt w.heap.size off ((ca.drop off).take n) := fun j v hv => by
  rw [List.getElem?_take] at hv
  split at hv
  · rw [List.getElem?_drop] at hv
    exact two_first (by simpa using hv)
  · cases hv
theorem range_two_second {w : World} {ca cb : List Value} {t1 t2 : TypeId} (off n : Nat) : ((w.alloc (.cells ca.toArray t1)).alloc (.cells cb.toArray t2)).rangeAt (w.heap.size + 1) off ((cb.drop off).take n) := fun j v hv => by
  rw [List.getElem?_take] at hv
  split at hv
  · rw [List.getElem?_drop] at hv
    exact two_second (by simpa using hv)
  · cases hv
theorem size100 : (Tryz.prog.info? 100).map (·.size) = some 5 := by kernel_rfl
theorem size72 : (Tryz.prog.info? 72).map (·.size) = some 5 := by kernel_rfl
theorem size103' : (Tryz.prog.info? 103).map (·.size) = some 8 := by kernel_rfl

set_option maxHeartbeats 16000000 in
set_option maxRecDepth 100000 in
theorem one_walk (x0 x1 x2 x3 x4 x5 x6 x7 : Int) (bA bB : Option Addr) (bn bc bm bd : Nat) (yA yB : Option Addr) (yn yc ym yd : Nat) (oA oB tA tB aA aB : List Value) (s t s2 t2 : ByteArray) (v1 v2 va : Bool) (ca cb : Array Value) (w X : World)
    (hX : X = (w.alloc (.cells ca 105)).alloc (.cells cb 105))
    (q0 : X.cell? ⟨w.heap.size, 0, none⟩ = some (.int .i64 x0)) (r0 : X.cell? ⟨w.heap.size + 1, 0, none⟩ = some (.int .i64 x0))
    (q1 : X.cell? ⟨w.heap.size, 1, none⟩ = some (.int .i64 x1)) (r1 : X.cell? ⟨w.heap.size + 1, 1, none⟩ = some (.int .i64 x1))
    (q2 : X.cell? ⟨w.heap.size, 2, none⟩ = some (.int .i64 x2)) (r2 : X.cell? ⟨w.heap.size + 1, 2, none⟩ = some (.int .i64 x2))
    (q3 : X.cell? ⟨w.heap.size, 3, none⟩ = some (.int .i64 x3)) (r3 : X.cell? ⟨w.heap.size + 1, 3, none⟩ = some (.int .i64 x3))
    (q4 : X.cell? ⟨w.heap.size, 4, none⟩ = some (.int .i64 x4)) (r4 : X.cell? ⟨w.heap.size + 1, 4, none⟩ = some (.int .i64 x4))
    (q5 : X.cell? ⟨w.heap.size, 5, none⟩ = some (.int .i64 x5)) (r5 : X.cell? ⟨w.heap.size + 1, 5, none⟩ = some (.int .i64 x5))
    (q6 : X.cell? ⟨w.heap.size, 6, none⟩ = some (.int .i64 x6)) (r6 : X.cell? ⟨w.heap.size + 1, 6, none⟩ = some (.int .i64 x6))
    (q7 : X.cell? ⟨w.heap.size, 7, none⟩ = some (.int .i64 x7)) (r7 : X.cell? ⟨w.heap.size + 1, 7, none⟩ = some (.int .i64 x7))
    (q8 : X.cell? ⟨w.heap.size, 8, none⟩ = some (.slice bA bn bc)) (r8 : X.cell? ⟨w.heap.size + 1, 8, none⟩ = some (.slice bB bm bd))
    (cv1 : (convert 59 9 (.slice bA bn bc)).run Tryz.prog X = .ok (.string s) X) (cv2 : (convert 59 9 (.slice bB bm bd)).run Tryz.prog X = .ok (.string t) X)
    (HO : Hid (X.rangeAt w.heap.size 9 oA ∧ X.rangeAt (w.heap.size + 1) 9 oB ∧ oA.length = 5 ∧ oB.length = 5))
    (HT : Hid (X.rangeAt w.heap.size 14 tA ∧ X.rangeAt (w.heap.size + 1) 14 tB ∧ tA.length = 5 ∧ tB.length = 5))
    (HA : Hid (X.rangeAt w.heap.size 19 aA ∧ X.rangeAt (w.heap.size + 1) 19 aB ∧ aA.length = 8 ∧ aB.length = 8))
    (E100 : Hid ((Op.equalIn 10000 100 (.agg oA.toArray) (.agg oB.toArray)).run Tryz.prog X = .ok v1 X))
    (E72 : Hid ((Op.equalIn 10000 72 (.agg tA.toArray) (.agg tB.toArray)).run Tryz.prog X = .ok v2 X))
    (HS : Hid (Calls Tryz.prog 143 #[.agg aA.toArray, .agg aB.toArray] X (Says va X)))
    (HB2 : Hid (Below w.heap.size w X))
    (HY : Hid (∀ W, Below X.heap.size X W → (convert 59 9 (.slice yA yn yc)).run Tryz.prog W = .ok (.string s2) W ∧ (convert 59 9 (.slice yB ym yd)).run Tryz.prog W = .ok (.string t2) W ∧ W.cell? ⟨w.heap.size, 27, none⟩ = some (.slice yA yn yc) ∧ W.cell? ⟨w.heap.size + 1, 27, none⟩ = some (.slice yB ym yd)))
    (vv : Bool) (HF : Hid ((¬ s.toList = t.toList ∨ v1 = false ∨ v2 = false ∨ va = false ∨ ¬ s2.toList = t2.toList) → vv = false)) (HV : Hid (s.toList = t.toList → v1 = true → v2 = true → va = true → s2.toList = t2.toList → vv = true)) :
    Calls Tryz.prog 78 #[.agg ca, .agg cb] w (Says vv w) := by
  have hg100 := Lib.hid (show Tryz.prog.eqGuardType Tryz.prog.depth 100 = false by kernel_rfl)
  have hg72 := Lib.hid (show Tryz.prog.eqGuardType Tryz.prog.depth 72 = false by kernel_rfl)
  have L1 := Lib.hid (show (Tryz.prog.info? 100).map (·.size) = some oA.length by rw [HO.out.2.2.1]; exact size100)
  have L2 := Lib.hid (show (Tryz.prog.info? 100).map (·.size) = some oB.length by rw [HO.out.2.2.2]; exact size100)
  have L3 := Lib.hid (show (Tryz.prog.info? 72).map (·.size) = some tA.length by rw [HT.out.2.2.1]; exact size72)
  have L4 := Lib.hid (show (Tryz.prog.info? 72).map (·.size) = some tB.length by rw [HT.out.2.2.2]; exact size72)
  have L5 := Lib.hid (show (Tryz.prog.info? 103).map (·.size) = some aA.length by rw [HA.out.2.2.1]; exact size103')
  have L6 := Lib.hid (show (Tryz.prog.info? 103).map (·.size) = some aB.length by rw [HA.out.2.2.2]; exact size103')
  go_enter Tryz.func78, Tryz.ntmps78
  go_upto_region 1 with fail
  rw [← hX]
  clear hX
  go_wp2_with (first
    | (with_reducible refine wpList_load_g (by with_unfolding_all rfl) 100 (.tmp 75) rfl w.heap.size 9 rfl oA _ HO.out.1 Tryz.underlying100 rfl L1.out ?_)
    | (with_reducible refine wpList_load_g (by with_unfolding_all rfl) 100 (.tmp 77) rfl (w.heap.size + 1) 9 rfl oB _ HO.out.2.1 Tryz.underlying100 rfl L2.out ?_)
    | (with_reducible refine wpList_load_g (by with_unfolding_all rfl) 72 (.tmp 82) rfl w.heap.size 14 rfl tA _ HT.out.1 Tryz.underlying72 rfl L3.out ?_)
    | (with_reducible refine wpList_load_g (by with_unfolding_all rfl) 72 (.tmp 84) rfl (w.heap.size + 1) 14 rfl tB _ HT.out.2.1 Tryz.underlying72 rfl L4.out ?_)
    | (with_reducible refine wpList_load_g (by with_unfolding_all rfl) 103 (.tmp 89) rfl w.heap.size 19 rfl aA _ HA.out.1 Tryz.underlying103 rfl L5.out ?_)
    | (with_reducible refine wpList_load_g (by with_unfolding_all rfl) 103 (.tmp 91) rfl (w.heap.size + 1) 19 rfl aB _ HA.out.2.1 Tryz.underlying103 rfl L6.out ?_)
    | (with_reducible refine wpList_eqs_g (by with_unfolding_all rfl) 100 100 (.tmp 76) (.tmp 78) rfl rfl rfl hg100.out E100.out ?_; cases hv1 : v1)
    | (with_reducible refine wpList_eqs_g (by with_unfolding_all rfl) 72 72 (.tmp 83) (.tmp 85) rfl rfl rfl hg72.out E72.out ?_; cases hv2 : v2)
    | (go_at_call 143; go_loud (refine HS.out.mono ?_; rintro x W ⟨rfl, hb⟩; obtain ⟨cy1, cy2, y1, y2⟩ := HY.out W hb; have HBW := Lib.hid (HB2.out.trans (hb.mono HB2.out.size)); clear hb; cases hva : va)))
  all_goals first
    | (have HFF := HF.out (.inl (by assumption)); subst HFF; go_ret; exact ⟨rfl, HB2.out⟩)
    | (have HFF := HF.out (.inr (.inl hv1)); subst HFF; go_ret; exact ⟨rfl, HB2.out⟩)
    | (have HFF := HF.out (.inr (.inr (.inl hv2))); subst HFF; go_ret; exact ⟨rfl, HB2.out⟩)
    | (have HFF := HF.out (.inr (.inr (.inr (.inl hva)))); subst HFF; go_ret; exact ⟨rfl, HBW.out⟩)
    | (go_ret
       refine ⟨?_, HBW.out⟩
       by_cases h2 : s2.toList = t2.toList
       · rw [HV.out (by assumption) hv1 hv2 hva h2]; simp [h2]
       · rw [HF.out (.inr (.inr (.inr (.inr h2))))]; simp [h2])

set_option maxHeartbeats 4000000 in
set_option maxRecDepth 100000 in
/-- One's answer hangs on the two events alone -/
theorem one_det (e d : EvD) (P Q : EvP) : ∃ v, ∀ w : World, 2 ≤ w.heap.size → EvAt w w.heap.size e P → EvAt w w.heap.size d Q → Calls Tryz.prog 78 #[.agg (evCells e P).toArray, .agg (evCells d Q).toArray] w (Says v w) := by
  by_cases h0 : e.kind = d.kind
  rotate_left
  · exact ⟨false, fun w hw _ _ => one_n0 e d P Q h0 w hw⟩
  by_cases h1 : e.tick = d.tick
  rotate_left
  · exact ⟨false, fun w hw _ _ => one_n1 e d P Q h0 h1 w hw⟩
  by_cases h2 : e.who = d.who
  rotate_left
  · exact ⟨false, fun w hw _ _ => one_n2 e d P Q h0 h1 h2 w hw⟩
  by_cases h3 : e.call = d.call
  rotate_left
  · exact ⟨false, fun w hw _ _ => one_n3 e d P Q h0 h1 h2 h3 w hw⟩
  by_cases h4 : e.epoch = d.epoch
  rotate_left
  · exact ⟨false, fun w hw _ _ => one_n4 e d P Q h0 h1 h2 h3 h4 w hw⟩
  by_cases h5 : e.n = d.n
  rotate_left
  · exact ⟨false, fun w hw _ _ => one_n5 e d P Q h0 h1 h2 h3 h4 h5 w hw⟩
  by_cases h6 : e.term = d.term
  rotate_left
  · exact ⟨false, fun w hw _ _ => one_n6 e d P Q h0 h1 h2 h3 h4 h5 h6 w hw⟩
  by_cases h7 : e.ek = d.ek
  rotate_left
  · exact ⟨false, fun w hw _ _ => one_n7 e d P Q h0 h1 h2 h3 h4 h5 h6 h7 w hw⟩
  obtain ⟨vv, hvv⟩ : ∃ vv, @decide ((strOfNums e.body).toList = (strOfNums d.body).toList ∧ eqL [e.o0, e.o1, e.o2, e.o3, e.o4] [d.o0, d.o1, d.o2, d.o3, d.o4] = true ∧ eqL [e.t0, e.t1, e.t2, e.t3, e.t4] [d.t0, d.t1, d.t2, d.t3, d.t4] = true ∧ sameV e.act d.act = true ∧ (strOfNums e.bytes).toList = (strOfNums d.bytes).toList) (Classical.propDecidable _) = vv := ⟨_, rfl⟩
  refine ⟨vv, fun w hw hE hD => ?_⟩
  have hb2 : Below w.heap.size w ((w.alloc (.cells (evCells e P).toArray 105)).alloc (.cells (evCells d Q).toArray 105)) := below_two ..
  refine one_walk e.kind e.tick e.who e.call e.epoch e.n e.term e.ek P.b Q.b e.body.length P.bc d.body.length Q.bc P.y Q.y e.bytes.length P.yc d.bytes.length Q.yc
    (((evCells e P).drop 9).take 5) (((evCells d Q).drop 9).take 5) (((evCells e P).drop 14).take 5) (((evCells d Q).drop 14).take 5) (((evCells e P).drop 19).take 8) (((evCells d Q).drop 19).take 8)
    (strOfNums e.body) (strOfNums d.body) (strOfNums e.bytes) (strOfNums d.bytes) (eqL [e.o0, e.o1, e.o2, e.o3, e.o4] [d.o0, d.o1, d.o2, d.o3, d.o4]) (eqL [e.t0, e.t1, e.t2, e.t3, e.t4] [d.t0, d.t1, d.t2, d.t3, d.t4]) (sameV e.act d.act) (evCells e P).toArray (evCells d Q).toArray w ((w.alloc (.cells (evCells e P).toArray 105)).alloc (.cells (evCells d Q).toArray 105)) rfl
    (two_first rfl) (by rw [h0]; exact two_second rfl)
    (two_first rfl) (by rw [h1]; exact two_second rfl)
    (two_first rfl) (by rw [h2]; exact two_second rfl)
    (two_first rfl) (by rw [h3]; exact two_second rfl)
    (two_first rfl) (by rw [h4]; exact two_second rfl)
    (two_first rfl) (by rw [h5]; exact two_second rfl)
    (two_first rfl) (by rw [h6]; exact two_second rfl)
    (two_first rfl) (by rw [h7]; exact two_second rfl)
    (two_first rfl) (two_second rfl)
    (conv_b (hE.b.below hb2)) (conv_b (hD.b.below hb2))
    (Lib.hid ⟨range_two_first 9 5, range_two_second 9 5, rfl, rfl⟩) (Lib.hid ⟨range_two_first 14 5, range_two_second 14 5, rfl, rfl⟩) (Lib.hid ⟨range_two_first 19 8, range_two_second 19 8, rfl, rfl⟩)
    (Lib.hid (eqs100 e.o0 e.o1 e.o2 e.o3 e.o4 d.o0 d.o1 d.o2 d.o3 d.o4 _)) (Lib.hid (eqs72 e.t0 e.t1 e.t2 e.t3 e.t4 d.t0 d.t1 d.t2 d.t3 d.t4 _))
    (Lib.hid (sameact_any e.act d.act P.act Q.act ((w.alloc (.cells (evCells e P).toArray 105)).alloc (.cells (evCells d Q).toArray 105)) ((hE.a.below hb2).mono hb2.size) ((hD.a.below hb2).mono hb2.size))) (Lib.hid hb2)
    (Lib.hid fun W hW => ⟨conv_b (c := P.yc) (hE.y.below (hb2.trans (hW.mono hb2.size))), conv_b (c := Q.yc) (hD.y.below (hb2.trans (hW.mono hb2.size))), (hW.cell (p := ⟨w.heap.size, 27, none⟩) (by simp; omega)).trans (two_first rfl), (hW.cell (p := ⟨w.heap.size + 1, 27, none⟩) (by simp)).trans (two_second rfl)⟩)
    vv (Lib.hid fun h => ?_) (Lib.hid fun a1 a2 a3 a4 a5 => ?_)
  · rw [← hvv]
    refine @decide_eq_false _ (Classical.propDecidable _) ?_
    rintro ⟨q1, q2, q3, q4, q5⟩
    rcases h with h | h | h | h | h
    · exact h q1
    · rw [q2] at h; cases h
    · rw [q3] at h; cases h
    · rw [q4] at h; cases h
    · exact h q5
  · rw [← hvv]
    exact @decide_eq_true _ (Classical.propDecidable _) ⟨a1, a2, a3, a4, a5⟩
end Go.Proofs.YtgaimkgaooiieaaGreatDoor
