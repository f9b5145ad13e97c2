/-
  The example 'awake' of samaritanlaw54 answers true in every world in which the listed table lies as it should: one run of the verified evaluator by the kernel.
-/
import Derived.Test.YtjhhdklbiibhdaaGreatDoorAwakeV
namespace Go.Proofs.YtjhhdklbiibhdaaGreatDoor
open Go Go.Ev
theorem awakeI_run : okTrue 4 (@run tab0 Tryz.prog 21 [] (stT 4 [t64])) = true := by kernel_rfl
theorem awakeI_any (w : World) (hw : 4 ≤ w.heap.size) (hT : t64.In w) : Calls Tryz.prog 21 #[] w fun e w' => e = .returned (.bool true) ∧ Go.RowKit.Below w.heap.size w w' :=
  (@answers_of_run Tryz.prog tab0 val0 mix (fun r hr => by cases hr) 21 [] [] 4 [t64] (Nat.le_of_eq globs) t64_lt awakeI_run (fun m => @concL_nil tab0 val0 m) w hw (fun t ht => by
    obtain rfl := List.mem_singleton.1 ht
    exact hT)).calls
end Go.Proofs.YtjhhdklbiibhdaaGreatDoor
