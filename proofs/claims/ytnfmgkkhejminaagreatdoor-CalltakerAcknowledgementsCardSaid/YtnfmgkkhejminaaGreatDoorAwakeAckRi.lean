/-
  Runs of the verified evaluator: CalltakerAcknowledgements at unknown numbers within 0 to 15 answers true.
-/
import Derived.Test.YtnfmgkkhejminaaGreatDoorAwakeAckQ
namespace Go.Proofs.YtnfmgkkhejminaaGreatDoor
open Go Go.Ev
theorem runK_f2_12 : okK false 2 1 2 2 = true := by kernel_rfl
theorem runK_f2_22 : okK false 2 2 2 1 = true := by kernel_rfl
theorem runK_f3_02 : okK false 3 0 2 0 = true := by kernel_rfl
theorem runK_f3_10 : okK false 3 1 0 0 = true := by kernel_rfl
theorem runK_f3_11 : okK false 3 1 1 0 = true := by kernel_rfl
theorem runK_f3_12 : okK false 3 1 2 2 = true := by kernel_rfl
theorem runK_f3_22 : okK false 3 2 2 1 = true := by kernel_rfl
end Go.Proofs.YtnfmgkkhejminaaGreatDoor

namespace Go.Proofs.YtnfmgkkhejminaaGreatDoor
open Go Go.Ev
theorem runK_f4_02 : okK false 4 0 2 0 = true := by kernel_rfl
theorem runK_f4_10 : okK false 4 1 0 0 = true := by kernel_rfl
theorem runK_f4_11 : okK false 4 1 1 0 = true := by kernel_rfl
theorem runK_f4_12 : okK false 4 1 2 2 = true := by kernel_rfl
theorem runK_f4_22 : okK false 4 2 2 1 = true := by kernel_rfl
theorem runK_f5_02 : okK false 5 0 2 0 = true := by kernel_rfl
theorem runK_f5_10 : okK false 5 1 0 0 = true := by kernel_rfl
end Go.Proofs.YtnfmgkkhejminaaGreatDoor
