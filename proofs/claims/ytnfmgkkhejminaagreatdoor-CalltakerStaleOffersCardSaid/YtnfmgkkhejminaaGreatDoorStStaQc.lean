/-
  Runs of Checksum and List.
-/
import Derived.Test.YtnfmgkkhejminaaGreatDoorStStaJ
namespace Go.Proofs.YtnfmgkkhejminaaGreatDoor
open Go Go.Ev
theorem sumR4 : (List.range 9).all (fun j => okC 4 (Nat.succ j)) = true := by kernel_rfl
theorem sumR5 : (List.range 9).all (fun j => okC 5 (Nat.succ j)) = true := by kernel_rfl
theorem sumR8 : (List.range 9).all (fun j => okC 8 (Nat.succ j)) = true := by kernel_rfl
end Go.Proofs.YtnfmgkkhejminaaGreatDoor

namespace Go.Proofs.YtnfmgkkhejminaaGreatDoor
open Go Go.Ev
theorem sumR6 : (List.range 9).all (fun j => okC 6 (Nat.succ j)) = true := by kernel_rfl
theorem sumR7 : (List.range 9).all (fun j => okC 7 (Nat.succ j)) = true := by kernel_rfl
theorem listR : (List.range 9).all (fun j => okL (Nat.succ j)) = true := by kernel_rfl
end Go.Proofs.YtnfmgkkhejminaaGreatDoor
