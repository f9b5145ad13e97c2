/-
  Runs of the verified evaluator: CalltakerAcknowledgements at unknown numbers within 0 to 15 answers true.
-/
import Derived.Test.YtnfmgkkhejminaaGreatDoorAwakeAckQ
namespace Go.Proofs.YtnfmgkkhejminaaGreatDoor
open Go Go.Ev
theorem runK_f8_10 : okK false 8 1 0 0 = true := by kernel_rfl
theorem runK_f8_11 : okK false 8 1 1 0 = true := by kernel_rfl
theorem runK_f8_12 : okK false 8 1 2 2 = true := by kernel_rfl
theorem runK_f8_22 : okK false 8 2 2 1 = true := by kernel_rfl
theorem runK_f9_02 : okK false 9 0 2 0 = true := by kernel_rfl
theorem runK_f9_10 : okK false 9 1 0 0 = true := by kernel_rfl
theorem runK_f9_11 : okK false 9 1 1 0 = true := by kernel_rfl
end Go.Proofs.YtnfmgkkhejminaaGreatDoor

namespace Go.Proofs.YtnfmgkkhejminaaGreatDoor
open Go Go.Ev
theorem runK_f9_12 : okK false 9 1 2 2 = true := by kernel_rfl
theorem runK_f9_22 : okK false 9 2 2 1 = true := by kernel_rfl
theorem runK_f10_02 : okK false 10 0 2 0 = true := by kernel_rfl
theorem runK_f10_10 : okK false 10 1 0 0 = true := by kernel_rfl
theorem runK_f10_11 : okK false 10 1 1 0 = true := by kernel_rfl
theorem runK_f10_12 : okK false 10 1 2 2 = true := by kernel_rfl
theorem runK_f10_22 : okK false 10 2 2 1 = true := by kernel_rfl
end Go.Proofs.YtnfmgkkhejminaaGreatDoor
