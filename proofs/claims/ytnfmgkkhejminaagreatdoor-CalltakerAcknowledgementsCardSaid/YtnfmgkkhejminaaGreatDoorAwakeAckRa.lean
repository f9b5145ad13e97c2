/-
  Runs of the verified evaluator: CalltakerAcknowledgements at unknown numbers within 0 to 15 answers true.
-/
import Derived.Test.YtnfmgkkhejminaaGreatDoorAwakeAckQ
namespace Go.Proofs.YtnfmgkkhejminaaGreatDoor
open Go Go.Ev
theorem runN_t : okN true = true := by kernel_rfl
theorem runN_f : okN false = true := by kernel_rfl
theorem runK_t0_00 : okK true 0 0 0 0 = true := by kernel_rfl
theorem runK_t1_00 : okK true 1 0 0 0 = true := by kernel_rfl
theorem runK_t1_10 : okK true 1 1 0 0 = true := by kernel_rfl
theorem runK_t1_20 : okK true 1 2 0 1 = true := by kernel_rfl
theorem runK_t2_02 : okK true 2 0 2 0 = true := by kernel_rfl
theorem runK_t2_10 : okK true 2 1 0 0 = true := by kernel_rfl
theorem runK_t2_11 : okK true 2 1 1 0 = true := by kernel_rfl
end Go.Proofs.YtnfmgkkhejminaaGreatDoor

namespace Go.Proofs.YtnfmgkkhejminaaGreatDoor
open Go Go.Ev
theorem runK_t2_12 : okK true 2 1 2 2 = true := by kernel_rfl
theorem runK_t2_22 : okK true 2 2 2 1 = true := by kernel_rfl
theorem runK_t3_02 : okK true 3 0 2 0 = true := by kernel_rfl
theorem runK_t3_10 : okK true 3 1 0 0 = true := by kernel_rfl
theorem runK_t3_11 : okK true 3 1 1 0 = true := by kernel_rfl
theorem runK_t3_12 : okK true 3 1 2 2 = true := by kernel_rfl
theorem runK_t3_22 : okK true 3 2 2 1 = true := by kernel_rfl
end Go.Proofs.YtnfmgkkhejminaaGreatDoor
