/-
  The example 'wakes' of samaritanlaw47 answers true in every world in which the listed table lies as it should: one run of the verified evaluator by the kernel.
-/
import Derived.Test.YtgaimkgaooiieaaGreatDoorProg
import Derived.Test.YtgaimkgaooiieaaGreatDoorEvCall
import Derived.KernelRfl
namespace Go.Proofs.YtgaimkgaooiieaaGreatDoor
open Go Go.Ev
/-- the table deBruijn64tab of package bits -/
def tab64 : List Int := [0, 1, 56, 2, 57, 49, 28, 3, 61, 58, 42, 50, 38, 29, 17, 4, 62, 47, 59, 36, 45, 43, 51, 22, 53, 39, 33, 30, 24, 18, 12, 5, 63, 55, 48, 27, 60, 41, 37, 16, 46, 35, 44, 21, 52, 32, 23, 11, 54, 26, 40, 15, 34, 20, 31, 10, 25, 14, 19, 9, 13, 8, 7, 6]
def t64 : Tab := ⟨0, .u8, tab64⟩
theorem mix : Tryz.prog.follows .mixedOrders = true := by kernel_rfl
theorem globs : Tryz.prog.globals.size = 2 := by kernel_rfl
theorem t64_lt : ∀ t ∈ [t64], t.g < 2 := fun t ht => by
  obtain rfl := List.mem_singleton.1 ht
  exact (by decide : (0 : Nat) < 2)
theorem wakes_run : okTrue 2 (@run tab0 Tryz.prog 5 [] (stT 2 [t64])) = true := by kernel_rfl
/-- the rule for later runs -/
theorem wakes_rule (val : Nat → Value) : CRule.Holds Tryz.prog val ⟨5, [], [t64], .bool true⟩ := rule_of_run mix globs t64_lt wakes_run val
end Go.Proofs.YtgaimkgaooiieaaGreatDoor
