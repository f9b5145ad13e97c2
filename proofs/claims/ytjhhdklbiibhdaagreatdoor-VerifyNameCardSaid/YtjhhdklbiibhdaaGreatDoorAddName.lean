/-
  VerifyName of samaritanlaw53 answers true for every number: runs of the verified evaluator, at an unknown number below 1, at an unknown number above 8, and at 1 to 8.
-/
import Derived.Test.YtjhhdklbiibhdaaGreatDoorAwakeV
import Derived.Test.YtjhhdklbiibhdaaGreatDoorEvRules
namespace Go.Proofs.YtjhhdklbiibhdaaGreatDoor
open Go Go.Ev
def nameCalls : List CRule := [⟨8, [], [t64], .bool true⟩]
def rulesLow : List Rule := [⟨.bin .lss, (.float .f64 0), (.int .i64 1), (.bool true)⟩]
def rulesHigh : List Rule := [⟨.bin .lss, (.float .f64 0), (.int .i64 1), (.bool false)⟩, ⟨.bin .geq, (.float .f64 0), (.int .i64 9), (.bool true)⟩, ⟨.bin .gtr, (.float .f64 0), (.int .i64 8), (.bool true)⟩]
@[reducible] def tabLow : OTab := ⟨rulesLow, nameCalls⟩
@[reducible] def tabHigh : OTab := ⟨rulesHigh, nameCalls⟩
@[reducible] def tabC : OTab := ⟨[], nameCalls⟩
theorem name_run_low : okTrue 4 (@run tabLow Tryz.prog 6 [.float .f64 0] (stT 4 [t64])) = true := by kernel_rfl
theorem name_run_high : okTrue 4 (@run tabHigh Tryz.prog 6 [.float .f64 0] (stT 4 [t64])) = true := by kernel_rfl
theorem name_run1 : okTrue 4 (@run tabC Tryz.prog 6 [.int .i64 1] (stT 4 [t64])) = true := by kernel_rfl
theorem name_run2 : okTrue 4 (@run tabC Tryz.prog 6 [.int .i64 2] (stT 4 [t64])) = true := by kernel_rfl
theorem name_run3 : okTrue 4 (@run tabC Tryz.prog 6 [.int .i64 3] (stT 4 [t64])) = true := by kernel_rfl
theorem name_run4 : okTrue 4 (@run tabC Tryz.prog 6 [.int .i64 4] (stT 4 [t64])) = true := by kernel_rfl
theorem name_run5 : okTrue 4 (@run tabC Tryz.prog 6 [.int .i64 5] (stT 4 [t64])) = true := by kernel_rfl
theorem name_run6 : okTrue 4 (@run tabC Tryz.prog 6 [.int .i64 6] (stT 4 [t64])) = true := by kernel_rfl
theorem name_run7 : okTrue 4 (@run tabC Tryz.prog 6 [.int .i64 7] (stT 4 [t64])) = true := by kernel_rfl
theorem name_run8 : okTrue 4 (@run tabC Tryz.prog 6 [.int .i64 8] (stT 4 [t64])) = true := by kernel_rfl
@[reducible] def valLow (n : Int) (h : n < 1) : @OVal tabLow :=
  @OVal.mk tabLow (fun _ => .int .i64 n) (fun _ => .inl ⟨_, _, rfl⟩) (show ∀ r ∈ rulesLow, r.Holds (fun _ => .int .i64 n) from
    List.forall_mem_cons.2 ⟨h_lss .i64 n 1 _ (decide_eq_true h), (fun _ h => by cases h)⟩)
@[reducible] def valHigh (n : Int) (h1 : ¬ n < 1) (h : 8 < n) : @OVal tabHigh :=
  @OVal.mk tabHigh (fun _ => .int .i64 n) (fun _ => .inl ⟨_, _, rfl⟩) (show ∀ r ∈ rulesHigh, r.Holds (fun _ => .int .i64 n) from
    List.forall_mem_cons.2 ⟨h_lss .i64 n 1 _ (decide_eq_false h1), List.forall_mem_cons.2 ⟨h_geq .i64 n 9 _ (by rw [decide_eq_false (by omega)]; rfl), List.forall_mem_cons.2 ⟨h_gtr .i64 n 8 _ (decide_eq_true h), (fun _ h => by cases h)⟩⟩⟩)
@[reducible] def valC : @OVal tabC := @OVal.mk tabC (fun _ => .int .i64 0) (fun _ => .inl ⟨_, _, rfl⟩) (fun _ h => by cases h)
theorem calls_hold (val : Nat → Value) : ∀ r ∈ nameCalls, CRule.Holds Tryz.prog val r := fun r hr => by
  obtain rfl := List.mem_singleton.1 hr
  exact awake_rule val
theorem name_answers (n : Int) (w : World) (hw : 4 ≤ w.heap.size) (hT : t64.In w) : Answers Tryz.prog 6 [.int .i64 n] w := by
  have hT' : ∀ t ∈ [t64], t.In w := fun t ht => by
    obtain rfl := List.mem_singleton.1 ht
    exact hT
  by_cases h1 : n < 1
  · exact @answers_of_run Tryz.prog tabLow (valLow n h1) mix (calls_hold _) 6 [.float .f64 0] _ 4 [t64] (Nat.le_of_eq globs) t64_lt name_run_low (fun m => letI := tabLow; letI := valLow n h1; concL_cons' (conc_float m _ _) (concL_nil m)) w hw hT'
  · by_cases h8 : 8 < n
    · exact @answers_of_run Tryz.prog tabHigh (valHigh n h1 h8) mix (calls_hold _) 6 [.float .f64 0] _ 4 [t64] (Nat.le_of_eq globs) t64_lt name_run_high (fun m => letI := tabHigh; letI := valHigh n h1 h8; concL_cons' (conc_float m _ _) (concL_nil m)) w hw hT'
    · obtain rfl | rfl | rfl | rfl | rfl | rfl | rfl | rfl : n = 1 ∨ n = 2 ∨ n = 3 ∨ n = 4 ∨ n = 5 ∨ n = 6 ∨ n = 7 ∨ n = 8 := by omega
      · exact @answers_of_run Tryz.prog tabC valC mix (calls_hold _) 6 [.int .i64 1] _ 4 [t64] (Nat.le_of_eq globs) t64_lt name_run1 (fun m => letI := tabC; letI := valC; concL_cons' (conc_int m _ _) (concL_nil m)) w hw hT'
      · exact @answers_of_run Tryz.prog tabC valC mix (calls_hold _) 6 [.int .i64 2] _ 4 [t64] (Nat.le_of_eq globs) t64_lt name_run2 (fun m => letI := tabC; letI := valC; concL_cons' (conc_int m _ _) (concL_nil m)) w hw hT'
      · exact @answers_of_run Tryz.prog tabC valC mix (calls_hold _) 6 [.int .i64 3] _ 4 [t64] (Nat.le_of_eq globs) t64_lt name_run3 (fun m => letI := tabC; letI := valC; concL_cons' (conc_int m _ _) (concL_nil m)) w hw hT'
      · exact @answers_of_run Tryz.prog tabC valC mix (calls_hold _) 6 [.int .i64 4] _ 4 [t64] (Nat.le_of_eq globs) t64_lt name_run4 (fun m => letI := tabC; letI := valC; concL_cons' (conc_int m _ _) (concL_nil m)) w hw hT'
      · exact @answers_of_run Tryz.prog tabC valC mix (calls_hold _) 6 [.int .i64 5] _ 4 [t64] (Nat.le_of_eq globs) t64_lt name_run5 (fun m => letI := tabC; letI := valC; concL_cons' (conc_int m _ _) (concL_nil m)) w hw hT'
      · exact @answers_of_run Tryz.prog tabC valC mix (calls_hold _) 6 [.int .i64 6] _ 4 [t64] (Nat.le_of_eq globs) t64_lt name_run6 (fun m => letI := tabC; letI := valC; concL_cons' (conc_int m _ _) (concL_nil m)) w hw hT'
      · exact @answers_of_run Tryz.prog tabC valC mix (calls_hold _) 6 [.int .i64 7] _ 4 [t64] (Nat.le_of_eq globs) t64_lt name_run7 (fun m => letI := tabC; letI := valC; concL_cons' (conc_int m _ _) (concL_nil m)) w hw hT'
      · exact @answers_of_run Tryz.prog tabC valC mix (calls_hold _) 6 [.int .i64 8] _ 4 [t64] (Nat.le_of_eq globs) t64_lt name_run8 (fun m => letI := tabC; letI := valC; concL_cons' (conc_int m _ _) (concL_nil m)) w hw hT'
end Go.Proofs.YtjhhdklbiibhdaaGreatDoor
