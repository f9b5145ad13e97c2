/-
  The example 'wakes' of samaritanlaw55 answers true in every world in which the listed table lies as it should: one run of the verified evaluator by the kernel.
-/
import Derived.Test.YtgaimkgaooiieaaGreatDoorWakes
namespace Go.Proofs.YtgaimkgaooiieaaGreatDoor
open Go Go.Ev
theorem wakesB_run : okTrue 2 (@run tab0 Tryz.prog 11 [] (stT 2 [t64])) = true := by kernel_rfl
end Go.Proofs.YtgaimkgaooiieaaGreatDoor
