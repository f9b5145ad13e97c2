/-
  Runs of start and of the offers.
-/
import Derived.Test.YtnfmgkkhejminaaGreatDoorStStaF
namespace Go.Proofs.YtnfmgkkhejminaaGreatDoor
open Go Go.Ev
theorem runZ0_00 : okS 0 0 0 0 false = true := by kernel_rfl
theorem runZ3_12 : okS 3 1 2 2 false = true := by kernel_rfl
theorem runZ6_02 : okS 6 0 2 0 false = true := by kernel_rfl
theorem runZ8_11 : okS 8 1 1 0 false = true := by kernel_rfl
theorem runZ10_22 : okS 10 2 2 1 false = true := by kernel_rfl
end Go.Proofs.YtnfmgkkhejminaaGreatDoor

namespace Go.Proofs.YtnfmgkkhejminaaGreatDoor
open Go Go.Ev
theorem runZ1_00 : okS 1 0 0 0 false = true := by kernel_rfl
theorem runZ3_22 : okS 3 2 2 1 false = true := by kernel_rfl
theorem runZ6_10 : okS 6 1 0 0 false = true := by kernel_rfl
theorem runZ8_12 : okS 8 1 2 2 false = true := by kernel_rfl
end Go.Proofs.YtnfmgkkhejminaaGreatDoor

namespace Go.Proofs.YtnfmgkkhejminaaGreatDoor
open Go Go.Ev
theorem runZ1_10 : okS 1 1 0 0 false = true := by kernel_rfl
theorem runZ4_02 : okS 4 0 2 0 false = true := by kernel_rfl
theorem runZ6_11 : okS 6 1 1 0 false = true := by kernel_rfl
theorem runZ8_22 : okS 8 2 2 1 false = true := by kernel_rfl
end Go.Proofs.YtnfmgkkhejminaaGreatDoor
