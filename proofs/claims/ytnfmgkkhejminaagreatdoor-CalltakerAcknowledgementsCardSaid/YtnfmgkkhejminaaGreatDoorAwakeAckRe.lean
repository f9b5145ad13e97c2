/-
  Runs of the verified evaluator: CalltakerAcknowledgements at unknown numbers within 0 to 15 answers true.
-/
import Derived.Test.YtnfmgkkhejminaaGreatDoorAwakeAckQ
namespace Go.Proofs.YtnfmgkkhejminaaGreatDoor
open Go Go.Ev
theorem runK_t6_22 : okK true 6 2 2 1 = true := by kernel_rfl
theorem runK_t7_02 : okK true 7 0 2 0 = true := by kernel_rfl
theorem runK_t7_10 : okK true 7 1 0 0 = true := by kernel_rfl
theorem runK_t7_11 : okK true 7 1 1 0 = true := by kernel_rfl
theorem runK_t7_12 : okK true 7 1 2 2 = true := by kernel_rfl
theorem runK_t7_22 : okK true 7 2 2 1 = true := by kernel_rfl
theorem runK_t8_02 : okK true 8 0 2 0 = true := by kernel_rfl
end Go.Proofs.YtnfmgkkhejminaaGreatDoor

namespace Go.Proofs.YtnfmgkkhejminaaGreatDoor
open Go Go.Ev
theorem runK_t8_10 : okK true 8 1 0 0 = true := by kernel_rfl
theorem runK_t8_11 : okK true 8 1 1 0 = true := by kernel_rfl
theorem runK_t8_12 : okK true 8 1 2 2 = true := by kernel_rfl
theorem runK_t8_22 : okK true 8 2 2 1 = true := by kernel_rfl
theorem runK_t9_02 : okK true 9 0 2 0 = true := by kernel_rfl
theorem runK_t9_10 : okK true 9 1 0 0 = true := by kernel_rfl
theorem runK_t9_11 : okK true 9 1 1 0 = true := by kernel_rfl
end Go.Proofs.YtnfmgkkhejminaaGreatDoor
