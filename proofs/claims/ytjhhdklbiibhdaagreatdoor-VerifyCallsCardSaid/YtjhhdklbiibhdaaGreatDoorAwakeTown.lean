/-
  Town(1) of samaritanref48 hands back a configuration that samaritanref44.Small accepts: one run of the verified evaluator by the kernel.
-/
import Derived.Test.YtjhhdklbiibhdaaGreatDoorAwakeV
import Derived.Test.YtjhhdklbiibhdaaGreatDoorEvTwo
namespace Go.Proofs.YtjhhdklbiibhdaaGreatDoor
open Go Go.Ev
theorem cells61 : Tryz.prog.cellsOf 61 = 15 := by kernel_rfl
theorem town_run : @okTwo tab0 Tryz.prog 25 [.int .i64 1] 60 [.slice none 0 0, .int .i64 0] 4 [t64] true 15 = true := by kernel_rfl
theorem town_any (w : World) (hw : 4 ≤ w.heap.size) (hT : t64.In w) :
    Calls Tryz.prog 25 #[.int .i64 1] w fun e w' => ∃ cs : List Value, e = .returned (.agg ⟨cs⟩) ∧ cs.length = 15 ∧ (∀ u ∈ cs, u.oneCell' = true) ∧ Go.RowKit.Below w.heap.size w w' ∧
      ∀ W, Go.RowKit.Below w'.heap.size w' W → Calls Tryz.prog 60 #[.agg ⟨cs⟩, .slice none 0 0, .int .i64 0] W fun e W' => e = .returned (.bool true) ∧ Go.RowKit.Below W.heap.size W W' :=
  @two_of_run Tryz.prog tab0 val0 mix (fun r hr => by cases hr) 25 60 [.int .i64 1] [.int .i64 1] [.slice none 0 0, .int .i64 0] [.slice none 0 0, .int .i64 0] 4 [t64] true 15 (Nat.le_of_eq globs) t64_lt town_run
    (fun m => by simp [concL, conc]) (fun m => by simp [concL, conc]) w hw (fun t ht => by
    obtain rfl := List.mem_singleton.1 ht
    exact hT)
end Go.Proofs.YtjhhdklbiibhdaaGreatDoor
