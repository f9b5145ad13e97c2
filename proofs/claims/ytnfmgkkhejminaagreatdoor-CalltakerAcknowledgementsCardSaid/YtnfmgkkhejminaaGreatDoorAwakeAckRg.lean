/-
  Runs of the verified evaluator: CalltakerAcknowledgements at unknown numbers within 0 to 15 answers true.
-/
import Derived.Test.YtnfmgkkhejminaaGreatDoorAwakeAckQ
namespace Go.Proofs.YtnfmgkkhejminaaGreatDoor
open Go Go.Ev
theorem runK_t9_12 : okK true 9 1 2 2 = true := by kernel_rfl
theorem runK_t9_22 : okK true 9 2 2 1 = true := by kernel_rfl
theorem runK_t10_02 : okK true 10 0 2 0 = true := by kernel_rfl
theorem runK_t10_10 : okK true 10 1 0 0 = true := by kernel_rfl
theorem runK_t10_11 : okK true 10 1 1 0 = true := by kernel_rfl
theorem runK_t10_12 : okK true 10 1 2 2 = true := by kernel_rfl
theorem runK_t10_22 : okK true 10 2 2 1 = true := by kernel_rfl
end Go.Proofs.YtnfmgkkhejminaaGreatDoor

namespace Go.Proofs.YtnfmgkkhejminaaGreatDoor
open Go Go.Ev
theorem runK_f0_00 : okK false 0 0 0 0 = true := by kernel_rfl
theorem runK_f1_00 : okK false 1 0 0 0 = true := by kernel_rfl
theorem runK_f1_10 : okK false 1 1 0 0 = true := by kernel_rfl
theorem runK_f1_20 : okK false 1 2 0 1 = true := by kernel_rfl
theorem runK_f2_02 : okK false 2 0 2 0 = true := by kernel_rfl
theorem runK_f2_10 : okK false 2 1 0 0 = true := by kernel_rfl
theorem runK_f2_11 : okK false 2 1 1 0 = true := by kernel_rfl
end Go.Proofs.YtnfmgkkhejminaaGreatDoor
