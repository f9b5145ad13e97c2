/-
  Runs of Intersect, Len, Equal and location.New at unknown words.
-/
import Derived.Test.YtnfmgkkhejminaaGreatDoorStNodA
namespace Go.Proofs.YtnfmgkkhejminaaGreatDoor
open Go Go.RowKit Go.Ev
noncomputable section
/-! Intersect of [a, 0, ..] and sixty-four unknown words -/
def words64 : List Value := (List.range 64).map fun i => .float .f64 (100 + i)
def andR (l : List Rule) : List Rule := ((List.range 63).map fun i => ⟨.bin .and, .int .u64 0, .float .f64 (101 + i), .int .u64 0⟩) ++ l
@[reducible] def tabI : OTab := { rules := andR [⟨.bin .and, .float .f64 0, .float .f64 100, .float .f64 65⟩, ⟨.eqi, .float .f64 65, .int .u64 0, .bool false⟩], calls := [] }
@[reducible] def tabI0 : OTab := { rules := andR [⟨.bin .and, .float .f64 0, .float .f64 100, .int .u64 0⟩], calls := [] }
@[reducible] def tabI1 : OTab := { rules := [⟨.bin .and, .float .f64 0, .int .u64 0, .int .u64 0⟩], calls := [] }
def stI : St := stB [(2, blkR (words9 (.float .f64 0))), (3, blkR words64)] 4
theorem inter_run : isNew 4 (words9 (.float .f64 65)) (@run tabI Tryz.prog 128 [.agg ⟨[.pointer (some ⟨2, 0, none⟩)]⟩, .agg ⟨[.pointer (some ⟨3, 0, none⟩)]⟩] stI) = true := by kernel_rfl
theorem inter_run0 : isNil 4 (@run tabI0 Tryz.prog 128 [.agg ⟨[.pointer (some ⟨2, 0, none⟩)]⟩, .agg ⟨[.pointer (some ⟨3, 0, none⟩)]⟩] stI) = true := by kernel_rfl
theorem inter_run1 : isNil 3 (@run tabI1 Tryz.prog 128 [.agg ⟨[.pointer (some ⟨2, 0, none⟩)]⟩, .agg ⟨[.pointer none]⟩] (stB [(2, blkR (words9 (.float .f64 0)))] 3)) = true := by kernel_rfl
/-! Len -/
@[reducible] def tabL (L : Nat) : OTab := { rules := [], calls := [⟨87, [.float .f64 0], [], .int .i64 L⟩] }
theorem len_runs : (List.range 10).all (fun L => isVal 3 (.int .i64 L) (@run (tabL L) Tryz.prog 35 [.agg ⟨[.pointer (some ⟨2, 0, none⟩)]⟩] (stB [(2, blkR (words9 (.float .f64 0)))] 3))) = true := by kernel_rfl
theorem len_run0 : isVal 2 (.int .i64 0) (@run tab0 Tryz.prog 35 [.agg ⟨[.pointer none]⟩] (stB [] 2)) = true := by kernel_rfl
/-! Equal -/
@[reducible] def tabE (q : Bool) : OTab := { rules := [⟨.eqi, .float .f64 0, .float .f64 1, .bool q⟩], calls := [] }
def stE : St := stB [(2, blkR (words9 (.float .f64 0))), (3, blkR (words9 (.float .f64 1)))] 4
theorem equal_runs : [true, false].all (fun q => isVal 4 (.bool q) (@run (tabE q) Tryz.prog 156 [.agg ⟨[.pointer (some ⟨2, 0, none⟩)]⟩, .agg ⟨[.pointer (some ⟨3, 0, none⟩)]⟩] stE)) = true := by kernel_rfl
/-! location.New -/
def isEst (r : Option (Value × St)) : Bool :=
  match r with
  | some (.tuple ⟨[.pointer (some ⟨c, 0, none⟩), .int .i64 z]⟩, st) => eqI z 0 && Nat.ble 3 st.low && Nat.ble 3 c && (match st.mem.get c with
    | some (.cells k cs) => Nat.beq k 3 && (cs.get roI).isNone && (match takeT cs 3 0 with
      | some [.pointer (some ⟨2, 0, none⟩), .pointer (some ⟨2, 0, none⟩), .slice none 0 0] => true
      | _ => false)
    | _ => false)
  | _ => false
theorem new_run : isEst (@run tab0 Tryz.prog 76 [.agg ⟨[.pointer (some ⟨2, 0, none⟩)]⟩] (stB [(2, blkR (words9 (.int .u64 511)))] 3)) = true := by kernel_rfl
end
end Go.Proofs.YtnfmgkkhejminaaGreatDoor
