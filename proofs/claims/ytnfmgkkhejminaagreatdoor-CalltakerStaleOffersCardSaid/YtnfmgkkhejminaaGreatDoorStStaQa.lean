/-
  Runs of Checksum.
-/
import Derived.Test.YtnfmgkkhejminaaGreatDoorStStaJ
namespace Go.Proofs.YtnfmgkkhejminaaGreatDoor
open Go Go.Ev
theorem sumR0 : (List.range 9).all (fun j => okC 0 (Nat.succ j)) = true := by kernel_rfl
theorem sumR1 : (List.range 9).all (fun j => okC 1 (Nat.succ j)) = true := by kernel_rfl
theorem sumR10 : (List.range 9).all (fun j => okC 10 (Nat.succ j)) = true := by kernel_rfl
end Go.Proofs.YtnfmgkkhejminaaGreatDoor

namespace Go.Proofs.YtnfmgkkhejminaaGreatDoor
open Go Go.Ev
theorem sumR2 : (List.range 9).all (fun j => okC 2 (Nat.succ j)) = true := by kernel_rfl
theorem sumR3 : (List.range 9).all (fun j => okC 3 (Nat.succ j)) = true := by kernel_rfl
theorem sumR9 : (List.range 9).all (fun j => okC 9 (Nat.succ j)) = true := by kernel_rfl
end Go.Proofs.YtnfmgkkhejminaaGreatDoor
