/-
  Runs of start and of the offers.
-/
import Derived.Test.YtnfmgkkhejminaaGreatDoorStStaF
namespace Go.Proofs.YtnfmgkkhejminaaGreatDoor
open Go Go.Ev
theorem runZ1_20 : okS 1 2 0 1 false = true := by kernel_rfl
theorem runZ4_10 : okS 4 1 0 0 false = true := by kernel_rfl
theorem runZ6_12 : okS 6 1 2 2 false = true := by kernel_rfl
theorem runZ9_02 : okS 9 0 2 0 false = true := by kernel_rfl
end Go.Proofs.YtnfmgkkhejminaaGreatDoor

namespace Go.Proofs.YtnfmgkkhejminaaGreatDoor
open Go Go.Ev
theorem runZ2_02 : okS 2 0 2 0 false = true := by kernel_rfl
theorem runZ4_11 : okS 4 1 1 0 false = true := by kernel_rfl
theorem runZ6_22 : okS 6 2 2 1 false = true := by kernel_rfl
theorem runZ9_10 : okS 9 1 0 0 false = true := by kernel_rfl
end Go.Proofs.YtnfmgkkhejminaaGreatDoor

namespace Go.Proofs.YtnfmgkkhejminaaGreatDoor
open Go Go.Ev
theorem runZ2_10 : okS 2 1 0 0 false = true := by kernel_rfl
theorem runZ4_12 : okS 4 1 2 2 false = true := by kernel_rfl
theorem runZ7_02 : okS 7 0 2 0 false = true := by kernel_rfl
theorem runZ9_11 : okS 9 1 1 0 false = true := by kernel_rfl
end Go.Proofs.YtnfmgkkhejminaaGreatDoor
