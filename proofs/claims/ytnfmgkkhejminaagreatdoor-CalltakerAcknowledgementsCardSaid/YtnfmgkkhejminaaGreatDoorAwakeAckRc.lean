/-
  Runs of the verified evaluator: CalltakerAcknowledgements at unknown numbers within 0 to 15 answers true.
-/
import Derived.Test.YtnfmgkkhejminaaGreatDoorAwakeAckQ
namespace Go.Proofs.YtnfmgkkhejminaaGreatDoor
open Go Go.Ev
theorem runK_t4_02 : okK true 4 0 2 0 = true := by kernel_rfl
theorem runK_t4_10 : okK true 4 1 0 0 = true := by kernel_rfl
theorem runK_t4_11 : okK true 4 1 1 0 = true := by kernel_rfl
theorem runK_t4_12 : okK true 4 1 2 2 = true := by kernel_rfl
theorem runK_t4_22 : okK true 4 2 2 1 = true := by kernel_rfl
theorem runK_t5_02 : okK true 5 0 2 0 = true := by kernel_rfl
theorem runK_t5_10 : okK true 5 1 0 0 = true := by kernel_rfl
end Go.Proofs.YtnfmgkkhejminaaGreatDoor

namespace Go.Proofs.YtnfmgkkhejminaaGreatDoor
open Go Go.Ev
theorem runK_t5_11 : okK true 5 1 1 0 = true := by kernel_rfl
theorem runK_t5_12 : okK true 5 1 2 2 = true := by kernel_rfl
theorem runK_t5_22 : okK true 5 2 2 1 = true := by kernel_rfl
theorem runK_t6_02 : okK true 6 0 2 0 = true := by kernel_rfl
theorem runK_t6_10 : okK true 6 1 0 0 = true := by kernel_rfl
theorem runK_t6_11 : okK true 6 1 1 0 = true := by kernel_rfl
theorem runK_t6_12 : okK true 6 1 2 2 = true := by kernel_rfl
end Go.Proofs.YtnfmgkkhejminaaGreatDoor
