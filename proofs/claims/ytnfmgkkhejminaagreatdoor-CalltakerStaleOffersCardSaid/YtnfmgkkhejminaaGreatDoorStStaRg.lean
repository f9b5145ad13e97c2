/-
  Runs of start and of the offers.
-/
import Derived.Test.YtnfmgkkhejminaaGreatDoorStStaF
namespace Go.Proofs.YtnfmgkkhejminaaGreatDoor
open Go Go.Ev
theorem runZ2_11 : okS 2 1 1 0 false = true := by kernel_rfl
theorem runZ4_22 : okS 4 2 2 1 false = true := by kernel_rfl
theorem runZ7_10 : okS 7 1 0 0 false = true := by kernel_rfl
theorem runZ9_12 : okS 9 1 2 2 false = true := by kernel_rfl
end Go.Proofs.YtnfmgkkhejminaaGreatDoor

namespace Go.Proofs.YtnfmgkkhejminaaGreatDoor
open Go Go.Ev
theorem runZ2_12 : okS 2 1 2 2 false = true := by kernel_rfl
theorem runZ5_02 : okS 5 0 2 0 false = true := by kernel_rfl
theorem runZ7_11 : okS 7 1 1 0 false = true := by kernel_rfl
theorem runZ9_22 : okS 9 2 2 1 false = true := by kernel_rfl
end Go.Proofs.YtnfmgkkhejminaaGreatDoor

namespace Go.Proofs.YtnfmgkkhejminaaGreatDoor
open Go Go.Ev
theorem runZ2_22 : okS 2 2 2 1 false = true := by kernel_rfl
theorem runZ5_10 : okS 5 1 0 0 false = true := by kernel_rfl
theorem runZ7_12 : okS 7 1 2 2 false = true := by kernel_rfl
theorem runZ10_02 : okS 10 0 2 0 false = true := by kernel_rfl
end Go.Proofs.YtnfmgkkhejminaaGreatDoor
