/-
  Runs of start and of the offers.
-/
import Derived.Test.YtnfmgkkhejminaaGreatDoorStStaF
namespace Go.Proofs.YtnfmgkkhejminaaGreatDoor
open Go Go.Ev
theorem runZ3_02 : okS 3 0 2 0 false = true := by kernel_rfl
theorem runZ5_11 : okS 5 1 1 0 false = true := by kernel_rfl
theorem runZ7_22 : okS 7 2 2 1 false = true := by kernel_rfl
theorem runZ10_10 : okS 10 1 0 0 false = true := by kernel_rfl
end Go.Proofs.YtnfmgkkhejminaaGreatDoor

namespace Go.Proofs.YtnfmgkkhejminaaGreatDoor
open Go Go.Ev
theorem runZ3_10 : okS 3 1 0 0 false = true := by kernel_rfl
theorem runZ5_12 : okS 5 1 2 2 false = true := by kernel_rfl
theorem runZ8_02 : okS 8 0 2 0 false = true := by kernel_rfl
theorem runZ10_11 : okS 10 1 1 0 false = true := by kernel_rfl
end Go.Proofs.YtnfmgkkhejminaaGreatDoor

namespace Go.Proofs.YtnfmgkkhejminaaGreatDoor
open Go Go.Ev
theorem runZ3_11 : okS 3 1 1 0 false = true := by kernel_rfl
theorem runZ5_22 : okS 5 2 2 1 false = true := by kernel_rfl
theorem runZ8_10 : okS 8 1 0 0 false = true := by kernel_rfl
theorem runZ10_12 : okS 10 1 2 2 false = true := by kernel_rfl
theorem runZ_nil : okS 0 0 0 0 true = true := by kernel_rfl
end Go.Proofs.YtnfmgkkhejminaaGreatDoor
