/-
  Runs of the verified evaluator: the fixed example wakes answers true; what start makes.
-/
import Derived.Test.YtnfmgkkhejminaaGreatDoorAwakeAckQ
import Derived.Test.YtnfmgkkhejminaaGreatDoorEvLift
namespace Go.Proofs.YtnfmgkkhejminaaGreatDoor
open Go Go.Ev
theorem good47_ok : Ev.Good Tryz.prog good47 := @good_of tab0 _ _ (by kernel_rfl)
theorem wakes_runF : okTrue 2 (@runF tab0 Tryz.prog good47 5 [] (stT 2 [t64])) = true := by kernel_rfl
end Go.Proofs.YtnfmgkkhejminaaGreatDoor

namespace Go.Proofs.YtnfmgkkhejminaaGreatDoor
open Go Go.RowKit Go.Ev
theorem mix : Tryz.prog.follows .mixedOrders = true := by kernel_rfl
theorem globs : Tryz.prog.globals.size = 2 := by kernel_rfl
theorem t64_lt : ∀ t ∈ [t64], t.g < 2 := fun t ht => by
  obtain rfl := List.mem_singleton.1 ht
  exact (by decide : (0 : Nat) < 2)
noncomputable def okStart [OTab] (r : Option (Value × St)) : Bool :=
  match r with
  | some (.tuple ⟨[.pointer (some ⟨b, o, none⟩), .pointer (some ⟨_, _, none⟩), .bool true]⟩, st) => Nat.ble 2 st.low && (match load1 st ⟨b, Nat.succ o, none⟩ with
    | some (.int .i64 z) => eqI z 3
    | _ => false)
  | _ => false
theorem start_runF : @okStart tab0 (@runF tab0 Tryz.prog good47 7 [] (stT 2 [t64])) = true := by kernel_rfl
end Go.Proofs.YtnfmgkkhejminaaGreatDoor
