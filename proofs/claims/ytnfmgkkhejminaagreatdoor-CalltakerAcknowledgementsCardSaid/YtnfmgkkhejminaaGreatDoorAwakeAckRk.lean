/-
  Runs of the verified evaluator: CalltakerAcknowledgements at unknown numbers within 0 to 15 answers true.
-/
import Derived.Test.YtnfmgkkhejminaaGreatDoorAwakeAckQ
namespace Go.Proofs.YtnfmgkkhejminaaGreatDoor
open Go Go.Ev
theorem runK_f5_11 : okK false 5 1 1 0 = true := by kernel_rfl
theorem runK_f5_12 : okK false 5 1 2 2 = true := by kernel_rfl
theorem runK_f5_22 : okK false 5 2 2 1 = true := by kernel_rfl
theorem runK_f6_02 : okK false 6 0 2 0 = true := by kernel_rfl
theorem runK_f6_10 : okK false 6 1 0 0 = true := by kernel_rfl
theorem runK_f6_11 : okK false 6 1 1 0 = true := by kernel_rfl
theorem runK_f6_12 : okK false 6 1 2 2 = true := by kernel_rfl
end Go.Proofs.YtnfmgkkhejminaaGreatDoor

namespace Go.Proofs.YtnfmgkkhejminaaGreatDoor
open Go Go.Ev
theorem runK_f6_22 : okK false 6 2 2 1 = true := by kernel_rfl
theorem runK_f7_02 : okK false 7 0 2 0 = true := by kernel_rfl
theorem runK_f7_10 : okK false 7 1 0 0 = true := by kernel_rfl
theorem runK_f7_11 : okK false 7 1 1 0 = true := by kernel_rfl
theorem runK_f7_12 : okK false 7 1 2 2 = true := by kernel_rfl
theorem runK_f7_22 : okK false 7 2 2 1 = true := by kernel_rfl
theorem runK_f8_02 : okK false 8 0 2 0 = true := by kernel_rfl
end Go.Proofs.YtnfmgkkhejminaaGreatDoor
