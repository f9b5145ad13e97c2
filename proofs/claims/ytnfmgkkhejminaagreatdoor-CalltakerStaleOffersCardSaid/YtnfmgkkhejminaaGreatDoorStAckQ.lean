/-
  The rules for unknown numbers, and that they hold; the states in which runs begin.
-/
import Derived.Test.YtnfmgkkhejminaaGreatDoorProg
import Derived.Test.YtnfmgkkhejminaaGreatDoorStEvFast
import Derived.Test.YtnfmgkkhejminaaGreatDoorStEvCall
import Derived.KernelRfl
import Derived.Tactics
import Derived.WalkKit
namespace Go.Proofs.YtnfmgkkhejminaaGreatDoor
open Go Go.Ev
noncomputable section
/-- the functions that are reached -/
def good47 : Nat := 602401288913222009247578539141998130546203210144678839670493733054655108904050432447710891377535451696040115120
/-- the table deBruijn64tab of package bits -/
def tab64 : List Int := [0, 1, 56, 2, 57, 49, 28, 3, 61, 58, 42, 50, 38, 29, 17, 4, 62, 47, 59, 36, 45, 43, 51, 22, 53, 39, 33, 30, 24, 18, 12, 5, 63, 55, 48, 27, 60, 41, 37, 16, 46, 35, 44, 21, 52, 32, 23, 11, 54, 26, 40, 15, 34, 20, 31, 10, 25, 14, 19, 9, 13, 8, 7, 6]
def t64 : Tab := ⟨0, .u8, tab64⟩
def symR0 (l : List Rule) : List Rule := ⟨.conv .u64, .float .f64 0, .float .f64 0, .float .f64 10⟩ :: ⟨.bin .mul, .float .f64 10, .int .u64 2, .float .f64 20⟩ :: ⟨.bin .lss, .float .f64 0, .int .i64 0, .bool false⟩ :: ⟨.bin .geq, .float .f64 20, .int .u64 128, .bool false⟩ :: ⟨.conv .u8, .float .f64 20, .float .f64 20, .float .f64 30⟩ :: ⟨.bin .and, .float .f64 30, .int .u8 127, .float .f64 30⟩ :: ⟨.conv .u64, .float .f64 30, .float .f64 30, .float .f64 20⟩ :: ⟨.bin .shl, .float .f64 20, .int .i64 0, .float .f64 20⟩ :: ⟨.bin .or, .int .u64 0, .float .f64 20, .float .f64 20⟩ :: ⟨.bin .lss, .float .f64 30, .int .u8 128, .bool true⟩ :: ⟨.bin .shr, .float .f64 20, .int .u64 1, .float .f64 10⟩ :: ⟨.conv .i64, .float .f64 10, .float .f64 10, .float .f64 0⟩ :: ⟨.bin .and, .float .f64 20, .int .u64 1, .int .u64 0⟩ :: ⟨.bin .xor, .float .f64 0, .int .i64 0, .float .f64 0⟩ :: ⟨.bin .gtr, .float .f64 0, .int .i64 15, .bool false⟩ :: l
def symR1 (l : List Rule) : List Rule := ⟨.conv .u64, .float .f64 1, .float .f64 1, .float .f64 11⟩ :: ⟨.bin .mul, .float .f64 11, .int .u64 2, .float .f64 21⟩ :: ⟨.bin .lss, .float .f64 1, .int .i64 0, .bool false⟩ :: ⟨.bin .geq, .float .f64 21, .int .u64 128, .bool false⟩ :: ⟨.conv .u8, .float .f64 21, .float .f64 21, .float .f64 31⟩ :: ⟨.bin .and, .float .f64 31, .int .u8 127, .float .f64 31⟩ :: ⟨.conv .u64, .float .f64 31, .float .f64 31, .float .f64 21⟩ :: ⟨.bin .shl, .float .f64 21, .int .i64 0, .float .f64 21⟩ :: ⟨.bin .or, .int .u64 0, .float .f64 21, .float .f64 21⟩ :: ⟨.bin .lss, .float .f64 31, .int .u8 128, .bool true⟩ :: ⟨.bin .shr, .float .f64 21, .int .u64 1, .float .f64 11⟩ :: ⟨.conv .i64, .float .f64 11, .float .f64 11, .float .f64 1⟩ :: ⟨.bin .and, .float .f64 21, .int .u64 1, .int .u64 0⟩ :: ⟨.bin .xor, .float .f64 1, .int .i64 0, .float .f64 1⟩ :: ⟨.bin .gtr, .float .f64 1, .int .i64 15, .bool false⟩ :: l
def symR2 (l : List Rule) : List Rule := ⟨.conv .u64, .float .f64 2, .float .f64 2, .float .f64 12⟩ :: ⟨.bin .mul, .float .f64 12, .int .u64 2, .float .f64 22⟩ :: ⟨.bin .lss, .float .f64 2, .int .i64 0, .bool false⟩ :: ⟨.bin .geq, .float .f64 22, .int .u64 128, .bool false⟩ :: ⟨.conv .u8, .float .f64 22, .float .f64 22, .float .f64 32⟩ :: ⟨.bin .and, .float .f64 32, .int .u8 127, .float .f64 32⟩ :: ⟨.conv .u64, .float .f64 32, .float .f64 32, .float .f64 22⟩ :: ⟨.bin .shl, .float .f64 22, .int .i64 0, .float .f64 22⟩ :: ⟨.bin .or, .int .u64 0, .float .f64 22, .float .f64 22⟩ :: ⟨.bin .lss, .float .f64 32, .int .u8 128, .bool true⟩ :: ⟨.bin .shr, .float .f64 22, .int .u64 1, .float .f64 12⟩ :: ⟨.conv .i64, .float .f64 12, .float .f64 12, .float .f64 2⟩ :: ⟨.bin .and, .float .f64 22, .int .u64 1, .int .u64 0⟩ :: ⟨.bin .xor, .float .f64 2, .int .i64 0, .float .f64 2⟩ :: ⟨.bin .gtr, .float .f64 2, .int .i64 15, .bool false⟩ :: l
def symR3 (l : List Rule) : List Rule := ⟨.conv .u64, .float .f64 3, .float .f64 3, .float .f64 13⟩ :: ⟨.bin .mul, .float .f64 13, .int .u64 2, .float .f64 23⟩ :: ⟨.bin .lss, .float .f64 3, .int .i64 0, .bool false⟩ :: ⟨.bin .geq, .float .f64 23, .int .u64 128, .bool false⟩ :: ⟨.conv .u8, .float .f64 23, .float .f64 23, .float .f64 33⟩ :: ⟨.bin .and, .float .f64 33, .int .u8 127, .float .f64 33⟩ :: ⟨.conv .u64, .float .f64 33, .float .f64 33, .float .f64 23⟩ :: ⟨.bin .shl, .float .f64 23, .int .i64 0, .float .f64 23⟩ :: ⟨.bin .or, .int .u64 0, .float .f64 23, .float .f64 23⟩ :: ⟨.bin .lss, .float .f64 33, .int .u8 128, .bool true⟩ :: ⟨.bin .shr, .float .f64 23, .int .u64 1, .float .f64 13⟩ :: ⟨.conv .i64, .float .f64 13, .float .f64 13, .float .f64 3⟩ :: ⟨.bin .and, .float .f64 23, .int .u64 1, .int .u64 0⟩ :: ⟨.bin .xor, .float .f64 3, .int .i64 0, .float .f64 3⟩ :: ⟨.bin .gtr, .float .f64 3, .int .i64 15, .bool false⟩ :: l
def symR4 (l : List Rule) : List Rule := ⟨.conv .u64, .float .f64 4, .float .f64 4, .float .f64 14⟩ :: ⟨.bin .mul, .float .f64 14, .int .u64 2, .float .f64 24⟩ :: ⟨.bin .lss, .float .f64 4, .int .i64 0, .bool false⟩ :: ⟨.bin .geq, .float .f64 24, .int .u64 128, .bool false⟩ :: ⟨.conv .u8, .float .f64 24, .float .f64 24, .float .f64 34⟩ :: ⟨.bin .and, .float .f64 34, .int .u8 127, .float .f64 34⟩ :: ⟨.conv .u64, .float .f64 34, .float .f64 34, .float .f64 24⟩ :: ⟨.bin .shl, .float .f64 24, .int .i64 0, .float .f64 24⟩ :: ⟨.bin .or, .int .u64 0, .float .f64 24, .float .f64 24⟩ :: ⟨.bin .lss, .float .f64 34, .int .u8 128, .bool true⟩ :: ⟨.bin .shr, .float .f64 24, .int .u64 1, .float .f64 14⟩ :: ⟨.conv .i64, .float .f64 14, .float .f64 14, .float .f64 4⟩ :: ⟨.bin .and, .float .f64 24, .int .u64 1, .int .u64 0⟩ :: ⟨.bin .xor, .float .f64 4, .int .i64 0, .float .f64 4⟩ :: ⟨.bin .gtr, .float .f64 4, .int .i64 15, .bool false⟩ :: l
def symR5 (l : List Rule) : List Rule := ⟨.conv .u64, .float .f64 5, .float .f64 5, .float .f64 15⟩ :: ⟨.bin .mul, .float .f64 15, .int .u64 2, .float .f64 25⟩ :: ⟨.bin .lss, .float .f64 5, .int .i64 0, .bool false⟩ :: ⟨.bin .geq, .float .f64 25, .int .u64 128, .bool false⟩ :: ⟨.conv .u8, .float .f64 25, .float .f64 25, .float .f64 35⟩ :: ⟨.bin .and, .float .f64 35, .int .u8 127, .float .f64 35⟩ :: ⟨.conv .u64, .float .f64 35, .float .f64 35, .float .f64 25⟩ :: ⟨.bin .shl, .float .f64 25, .int .i64 0, .float .f64 25⟩ :: ⟨.bin .or, .int .u64 0, .float .f64 25, .float .f64 25⟩ :: ⟨.bin .lss, .float .f64 35, .int .u8 128, .bool true⟩ :: ⟨.bin .shr, .float .f64 25, .int .u64 1, .float .f64 15⟩ :: ⟨.conv .i64, .float .f64 15, .float .f64 15, .float .f64 5⟩ :: ⟨.bin .and, .float .f64 25, .int .u64 1, .int .u64 0⟩ :: ⟨.bin .xor, .float .f64 5, .int .i64 0, .float .f64 5⟩ :: ⟨.bin .gtr, .float .f64 5, .int .i64 15, .bool false⟩ :: l
def symR6 (l : List Rule) : List Rule := ⟨.conv .u64, .float .f64 6, .float .f64 6, .float .f64 16⟩ :: ⟨.bin .mul, .float .f64 16, .int .u64 2, .float .f64 26⟩ :: ⟨.bin .lss, .float .f64 6, .int .i64 0, .bool false⟩ :: ⟨.bin .geq, .float .f64 26, .int .u64 128, .bool false⟩ :: ⟨.conv .u8, .float .f64 26, .float .f64 26, .float .f64 36⟩ :: ⟨.bin .and, .float .f64 36, .int .u8 127, .float .f64 36⟩ :: ⟨.conv .u64, .float .f64 36, .float .f64 36, .float .f64 26⟩ :: ⟨.bin .shl, .float .f64 26, .int .i64 0, .float .f64 26⟩ :: ⟨.bin .or, .int .u64 0, .float .f64 26, .float .f64 26⟩ :: ⟨.bin .lss, .float .f64 36, .int .u8 128, .bool true⟩ :: ⟨.bin .shr, .float .f64 26, .int .u64 1, .float .f64 16⟩ :: ⟨.conv .i64, .float .f64 16, .float .f64 16, .float .f64 6⟩ :: ⟨.bin .and, .float .f64 26, .int .u64 1, .int .u64 0⟩ :: ⟨.bin .xor, .float .f64 6, .int .i64 0, .float .f64 6⟩ :: ⟨.bin .gtr, .float .f64 6, .int .i64 15, .bool false⟩ :: l
def symR7 (l : List Rule) : List Rule := ⟨.conv .u64, .float .f64 7, .float .f64 7, .float .f64 17⟩ :: ⟨.bin .mul, .float .f64 17, .int .u64 2, .float .f64 27⟩ :: ⟨.bin .lss, .float .f64 7, .int .i64 0, .bool false⟩ :: ⟨.bin .geq, .float .f64 27, .int .u64 128, .bool false⟩ :: ⟨.conv .u8, .float .f64 27, .float .f64 27, .float .f64 37⟩ :: ⟨.bin .and, .float .f64 37, .int .u8 127, .float .f64 37⟩ :: ⟨.conv .u64, .float .f64 37, .float .f64 37, .float .f64 27⟩ :: ⟨.bin .shl, .float .f64 27, .int .i64 0, .float .f64 27⟩ :: ⟨.bin .or, .int .u64 0, .float .f64 27, .float .f64 27⟩ :: ⟨.bin .lss, .float .f64 37, .int .u8 128, .bool true⟩ :: ⟨.bin .shr, .float .f64 27, .int .u64 1, .float .f64 17⟩ :: ⟨.conv .i64, .float .f64 17, .float .f64 17, .float .f64 7⟩ :: ⟨.bin .and, .float .f64 27, .int .u64 1, .int .u64 0⟩ :: ⟨.bin .xor, .float .f64 7, .int .i64 0, .float .f64 7⟩ :: ⟨.bin .gtr, .float .f64 7, .int .i64 15, .bool false⟩ :: l
def symR8 (l : List Rule) : List Rule := ⟨.conv .u64, .float .f64 8, .float .f64 8, .float .f64 18⟩ :: ⟨.bin .mul, .float .f64 18, .int .u64 2, .float .f64 28⟩ :: ⟨.bin .lss, .float .f64 8, .int .i64 0, .bool false⟩ :: ⟨.bin .geq, .float .f64 28, .int .u64 128, .bool false⟩ :: ⟨.conv .u8, .float .f64 28, .float .f64 28, .float .f64 38⟩ :: ⟨.bin .and, .float .f64 38, .int .u8 127, .float .f64 38⟩ :: ⟨.conv .u64, .float .f64 38, .float .f64 38, .float .f64 28⟩ :: ⟨.bin .shl, .float .f64 28, .int .i64 0, .float .f64 28⟩ :: ⟨.bin .or, .int .u64 0, .float .f64 28, .float .f64 28⟩ :: ⟨.bin .lss, .float .f64 38, .int .u8 128, .bool true⟩ :: ⟨.bin .shr, .float .f64 28, .int .u64 1, .float .f64 18⟩ :: ⟨.conv .i64, .float .f64 18, .float .f64 18, .float .f64 8⟩ :: ⟨.bin .and, .float .f64 28, .int .u64 1, .int .u64 0⟩ :: ⟨.bin .xor, .float .f64 8, .int .i64 0, .float .f64 8⟩ :: ⟨.bin .gtr, .float .f64 8, .int .i64 15, .bool false⟩ :: l
def symR9 (l : List Rule) : List Rule := ⟨.conv .u64, .float .f64 9, .float .f64 9, .float .f64 19⟩ :: ⟨.bin .mul, .float .f64 19, .int .u64 2, .float .f64 29⟩ :: ⟨.bin .lss, .float .f64 9, .int .i64 0, .bool false⟩ :: ⟨.bin .geq, .float .f64 29, .int .u64 128, .bool false⟩ :: ⟨.conv .u8, .float .f64 29, .float .f64 29, .float .f64 39⟩ :: ⟨.bin .and, .float .f64 39, .int .u8 127, .float .f64 39⟩ :: ⟨.conv .u64, .float .f64 39, .float .f64 39, .float .f64 29⟩ :: ⟨.bin .shl, .float .f64 29, .int .i64 0, .float .f64 29⟩ :: ⟨.bin .or, .int .u64 0, .float .f64 29, .float .f64 29⟩ :: ⟨.bin .lss, .float .f64 39, .int .u8 128, .bool true⟩ :: ⟨.bin .shr, .float .f64 29, .int .u64 1, .float .f64 19⟩ :: ⟨.conv .i64, .float .f64 19, .float .f64 19, .float .f64 9⟩ :: ⟨.bin .and, .float .f64 29, .int .u64 1, .int .u64 0⟩ :: ⟨.bin .xor, .float .f64 9, .int .i64 0, .float .f64 9⟩ :: ⟨.bin .gtr, .float .f64 9, .int .i64 15, .bool false⟩ :: l
def geR (c : Nat) : List Rule := match c with
  | 0 => []
  | 1 => [⟨.bin .geq, .float .f64 0, .int .i64 2, .bool true⟩]
  | _ => [⟨.bin .geq, .float .f64 1, .int .i64 2, .bool true⟩]
/-- what is known of the first k numbers, and of those that are at least two -/
def rulesK (k c : Nat) : List Rule := match k with
  | 0 => geR c
  | 1 => symR0 (geR c)
  | 2 => symR0 (symR1 (geR c))
  | 3 => symR0 (symR1 (symR2 (geR c)))
  | 4 => symR0 (symR1 (symR2 (symR3 (geR c))))
  | 5 => symR0 (symR1 (symR2 (symR3 (symR4 (geR c)))))
  | 6 => symR0 (symR1 (symR2 (symR3 (symR4 (symR5 (geR c))))))
  | 7 => symR0 (symR1 (symR2 (symR3 (symR4 (symR5 (symR6 (geR c)))))))
  | 8 => symR0 (symR1 (symR2 (symR3 (symR4 (symR5 (symR6 (symR7 (geR c))))))))
  | 9 => symR0 (symR1 (symR2 (symR3 (symR4 (symR5 (symR6 (symR7 (symR8 (geR c)))))))))
  | 10 => symR0 (symR1 (symR2 (symR3 (symR4 (symR5 (symR6 (symR7 (symR8 (symR9 (geR c))))))))))
  | _ => []
def callsK : List CRule := [⟨5, [], [t64], .bool true⟩, ⟨17, [.float .f64 40], [], .float .f64 41⟩]
@[reducible] def tabK (k c : Nat) : OTab := { rules := rulesK k c, calls := callsK }
/-- where a run begins: the table, and the numbers said -/
def cellK (v : Nat) (i : Nat) : Value := match v with
  | 0 => .int .i64 0
  | 1 => .int .i64 1
  | _ => .float .f64 i
def saidK (k a b : Nat) : List Value := match k with
  | 0 => []
  | 1 => [cellK a 0]
  | k + 2 => cellK a 0 :: cellK b 1 :: (List.range k).map fun i => .float .f64 (i + 2)
def stK (k a b : Nat) : St := ⟨match k with
  | 0 => memT [t64]
  | k => (memT [t64]).put (some (.cells k ((fillT (saidK k a b) 0 .lf).put (some (.float .f64 0)) roI))) 2, 3, 3⟩
def argsK (k : Nat) (h : Bool) : List Value := [.slice (some ⟨2, 0, none⟩) k 2, .bool h, .float .f64 40]
/-- a run of the law without a slice answers true -/
def okN (h : Bool) : Bool := okTrue 3 (@runF (tabK 0 0) Tryz.prog good47 4 [.slice none 0 0, .bool h, .float .f64 40] (stK 0 0 0))
/-- a run of the law answers true -/
def okK (h : Bool) (k a b c : Nat) : Bool := okTrue 3 (@runF (tabK k c) Tryz.prog good47 4 (argsK k h) (stK k a b))
end
end Go.Proofs.YtnfmgkkhejminaaGreatDoor

namespace Go.Proofs.YtnfmgkkhejminaaGreatDoor
open Go Go.RowKit Go.Ev
theorem sixteen {n : Int} (h0 : 0 ≤ n) (h1 : n ≤ 15) : n = 0 ∨ n = 1 ∨ n = 2 ∨ n = 3 ∨ n = 4 ∨ n = 5 ∨ n = 6 ∨ n = 7 ∨ n = 8 ∨ n = 9 ∨ n = 10 ∨ n = 11 ∨ n = 12 ∨ n = 13 ∨ n = 14 ∨ n = 15 := by omega
theorem r_conv1 {n : Int} (h0 : 0 ≤ n) (h1 : n ≤ 15) : ∃ q a, (Value.int .i64 n) = .int q a ∧ (Value.int .u64 n) = .int .u64 (IntKind.u64.wrap a) := by
  rcases sixteen h0 h1 with rfl | rfl | rfl | rfl | rfl | rfl | rfl | rfl | rfl | rfl | rfl | rfl | rfl | rfl | rfl | rfl <;> exact ⟨_, _, rfl, by kernel_rfl⟩
theorem r_mul {n : Int} (h0 : 0 ≤ n) (h1 : n ≤ 15) : scalB .mul (.int .u64 n) (.int .u64 2) = some (.int .u64 (2 * n)) := by
  rcases sixteen h0 h1 with rfl | rfl | rfl | rfl | rfl | rfl | rfl | rfl | rfl | rfl | rfl | rfl | rfl | rfl | rfl | rfl <;> kernel_rfl
theorem r_lss0 {n : Int} (h0 : 0 ≤ n) (h1 : n ≤ 15) : scalB .lss (.int .i64 n) (.int .i64 0) = some (.bool false) := by
  rcases sixteen h0 h1 with rfl | rfl | rfl | rfl | rfl | rfl | rfl | rfl | rfl | rfl | rfl | rfl | rfl | rfl | rfl | rfl <;> kernel_rfl
theorem r_geq128 {n : Int} (h0 : 0 ≤ n) (h1 : n ≤ 15) : scalB .geq (.int .u64 (2 * n)) (.int .u64 128) = some (.bool false) := by
  rcases sixteen h0 h1 with rfl | rfl | rfl | rfl | rfl | rfl | rfl | rfl | rfl | rfl | rfl | rfl | rfl | rfl | rfl | rfl <;> kernel_rfl
theorem r_conv2 {n : Int} (h0 : 0 ≤ n) (h1 : n ≤ 15) : ∃ q a, (Value.int .u64 (2 * n)) = .int q a ∧ (Value.int .u8 (2 * n)) = .int .u8 (IntKind.u8.wrap a) := by
  rcases sixteen h0 h1 with rfl | rfl | rfl | rfl | rfl | rfl | rfl | rfl | rfl | rfl | rfl | rfl | rfl | rfl | rfl | rfl <;> exact ⟨_, _, rfl, by kernel_rfl⟩
theorem r_and127 {n : Int} (h0 : 0 ≤ n) (h1 : n ≤ 15) : scalB .and (.int .u8 (2 * n)) (.int .u8 127) = some (.int .u8 (2 * n)) := by
  rcases sixteen h0 h1 with rfl | rfl | rfl | rfl | rfl | rfl | rfl | rfl | rfl | rfl | rfl | rfl | rfl | rfl | rfl | rfl <;> kernel_rfl
theorem r_conv3 {n : Int} (h0 : 0 ≤ n) (h1 : n ≤ 15) : ∃ q a, (Value.int .u8 (2 * n)) = .int q a ∧ (Value.int .u64 (2 * n)) = .int .u64 (IntKind.u64.wrap a) := by
  rcases sixteen h0 h1 with rfl | rfl | rfl | rfl | rfl | rfl | rfl | rfl | rfl | rfl | rfl | rfl | rfl | rfl | rfl | rfl <;> exact ⟨_, _, rfl, by kernel_rfl⟩
theorem r_shl0 {n : Int} (h0 : 0 ≤ n) (h1 : n ≤ 15) : scalB .shl (.int .u64 (2 * n)) (.int .i64 0) = some (.int .u64 (2 * n)) := by
  rcases sixteen h0 h1 with rfl | rfl | rfl | rfl | rfl | rfl | rfl | rfl | rfl | rfl | rfl | rfl | rfl | rfl | rfl | rfl <;> kernel_rfl
theorem r_or0 {n : Int} (h0 : 0 ≤ n) (h1 : n ≤ 15) : scalB .or (.int .u64 0) (.int .u64 (2 * n)) = some (.int .u64 (2 * n)) := by
  rcases sixteen h0 h1 with rfl | rfl | rfl | rfl | rfl | rfl | rfl | rfl | rfl | rfl | rfl | rfl | rfl | rfl | rfl | rfl <;> kernel_rfl
theorem r_lss128 {n : Int} (h0 : 0 ≤ n) (h1 : n ≤ 15) : scalB .lss (.int .u8 (2 * n)) (.int .u8 128) = some (.bool true) := by
  rcases sixteen h0 h1 with rfl | rfl | rfl | rfl | rfl | rfl | rfl | rfl | rfl | rfl | rfl | rfl | rfl | rfl | rfl | rfl <;> kernel_rfl
theorem r_shr1 {n : Int} (h0 : 0 ≤ n) (h1 : n ≤ 15) : scalB .shr (.int .u64 (2 * n)) (.int .u64 1) = some (.int .u64 n) := by
  rcases sixteen h0 h1 with rfl | rfl | rfl | rfl | rfl | rfl | rfl | rfl | rfl | rfl | rfl | rfl | rfl | rfl | rfl | rfl <;> kernel_rfl
theorem r_conv4 {n : Int} (h0 : 0 ≤ n) (h1 : n ≤ 15) : ∃ q a, (Value.int .u64 n) = .int q a ∧ (Value.int .i64 n) = .int .i64 (IntKind.i64.wrap a) := by
  rcases sixteen h0 h1 with rfl | rfl | rfl | rfl | rfl | rfl | rfl | rfl | rfl | rfl | rfl | rfl | rfl | rfl | rfl | rfl <;> exact ⟨_, _, rfl, by kernel_rfl⟩
theorem r_and1 {n : Int} (h0 : 0 ≤ n) (h1 : n ≤ 15) : scalB .and (.int .u64 (2 * n)) (.int .u64 1) = some (.int .u64 0) := by
  rcases sixteen h0 h1 with rfl | rfl | rfl | rfl | rfl | rfl | rfl | rfl | rfl | rfl | rfl | rfl | rfl | rfl | rfl | rfl <;> kernel_rfl
theorem r_xor0 {n : Int} (h0 : 0 ≤ n) (h1 : n ≤ 15) : scalB .xor (.int .i64 n) (.int .i64 0) = some (.int .i64 n) := by
  rcases sixteen h0 h1 with rfl | rfl | rfl | rfl | rfl | rfl | rfl | rfl | rfl | rfl | rfl | rfl | rfl | rfl | rfl | rfl <;> kernel_rfl
theorem r_gtr15 {n : Int} (h0 : 0 ≤ n) (h1 : n ≤ 15) : scalB .gtr (.int .i64 n) (.int .i64 15) = some (.bool false) := by
  rcases sixteen h0 h1 with rfl | rfl | rfl | rfl | rfl | rfl | rfl | rfl | rfl | rfl | rfl | rfl | rfl | rfl | rfl | rfl <;> kernel_rfl
/-- what the letters stand for -/
def valK (l : List Int) (now top : Int) (i : Nat) : Value :=
  if i < 10 then .int .i64 (l.getD i 0) else if i < 20 then .int .u64 (l.getD (i - 10) 0) else if i < 30 then .int .u64 (2 * l.getD (i - 20) 0) else if i < 40 then .int .u8 (2 * l.getD (i - 30) 0) else if i < 41 then .int .i64 now else .int .i64 top
theorem valK_shape (l : List Int) (now top : Int) (i : Nat) : (∃ k n, valK l now top i = .int k n) ∨ (∃ s, valK l now top i = .string s) ∨ ∃ a m c, valK l now top i = .slice a m c := by
  unfold valK
  refine .inl ?_
  repeat' split
  all_goals exact ⟨_, _, rfl⟩
def small (l : List Int) : Prop := ∀ x ∈ l, 0 ≤ x ∧ x ≤ 15
theorem small_at {l : List Int} (h : small l) (i : Nat) : 0 ≤ l.getD i 0 ∧ l.getD i 0 ≤ 15 := by
  rw [List.getD_eq_getElem?_getD]
  cases hi : l[i]? with
  | none => simp
  | some x => simpa using h x (List.mem_of_getElem? hi)
theorem sym_holds0 {l : List Int} {now top : Int} (h : small l) {R : List Rule} (hR : ∀ r ∈ R, r.Holds (valK l now top)) : ∀ r ∈ symR0 R, r.Holds (valK l now top) := by
  obtain ⟨h0, h1⟩ := small_at h 0
  exact List.forall_mem_cons.2 ⟨r_conv1 h0 h1, List.forall_mem_cons.2 ⟨r_mul h0 h1, List.forall_mem_cons.2 ⟨r_lss0 h0 h1, List.forall_mem_cons.2 ⟨r_geq128 h0 h1, List.forall_mem_cons.2 ⟨r_conv2 h0 h1, List.forall_mem_cons.2 ⟨r_and127 h0 h1, List.forall_mem_cons.2 ⟨r_conv3 h0 h1, List.forall_mem_cons.2 ⟨r_shl0 h0 h1, List.forall_mem_cons.2 ⟨r_or0 h0 h1, List.forall_mem_cons.2 ⟨r_lss128 h0 h1, List.forall_mem_cons.2 ⟨r_shr1 h0 h1, List.forall_mem_cons.2 ⟨r_conv4 h0 h1, List.forall_mem_cons.2 ⟨r_and1 h0 h1, List.forall_mem_cons.2 ⟨r_xor0 h0 h1, List.forall_mem_cons.2 ⟨r_gtr15 h0 h1, hR⟩⟩⟩⟩⟩⟩⟩⟩⟩⟩⟩⟩⟩⟩⟩
theorem sym_holds1 {l : List Int} {now top : Int} (h : small l) {R : List Rule} (hR : ∀ r ∈ R, r.Holds (valK l now top)) : ∀ r ∈ symR1 R, r.Holds (valK l now top) := by
  obtain ⟨h0, h1⟩ := small_at h 1
  exact List.forall_mem_cons.2 ⟨r_conv1 h0 h1, List.forall_mem_cons.2 ⟨r_mul h0 h1, List.forall_mem_cons.2 ⟨r_lss0 h0 h1, List.forall_mem_cons.2 ⟨r_geq128 h0 h1, List.forall_mem_cons.2 ⟨r_conv2 h0 h1, List.forall_mem_cons.2 ⟨r_and127 h0 h1, List.forall_mem_cons.2 ⟨r_conv3 h0 h1, List.forall_mem_cons.2 ⟨r_shl0 h0 h1, List.forall_mem_cons.2 ⟨r_or0 h0 h1, List.forall_mem_cons.2 ⟨r_lss128 h0 h1, List.forall_mem_cons.2 ⟨r_shr1 h0 h1, List.forall_mem_cons.2 ⟨r_conv4 h0 h1, List.forall_mem_cons.2 ⟨r_and1 h0 h1, List.forall_mem_cons.2 ⟨r_xor0 h0 h1, List.forall_mem_cons.2 ⟨r_gtr15 h0 h1, hR⟩⟩⟩⟩⟩⟩⟩⟩⟩⟩⟩⟩⟩⟩⟩
theorem sym_holds2 {l : List Int} {now top : Int} (h : small l) {R : List Rule} (hR : ∀ r ∈ R, r.Holds (valK l now top)) : ∀ r ∈ symR2 R, r.Holds (valK l now top) := by
  obtain ⟨h0, h1⟩ := small_at h 2
  exact List.forall_mem_cons.2 ⟨r_conv1 h0 h1, List.forall_mem_cons.2 ⟨r_mul h0 h1, List.forall_mem_cons.2 ⟨r_lss0 h0 h1, List.forall_mem_cons.2 ⟨r_geq128 h0 h1, List.forall_mem_cons.2 ⟨r_conv2 h0 h1, List.forall_mem_cons.2 ⟨r_and127 h0 h1, List.forall_mem_cons.2 ⟨r_conv3 h0 h1, List.forall_mem_cons.2 ⟨r_shl0 h0 h1, List.forall_mem_cons.2 ⟨r_or0 h0 h1, List.forall_mem_cons.2 ⟨r_lss128 h0 h1, List.forall_mem_cons.2 ⟨r_shr1 h0 h1, List.forall_mem_cons.2 ⟨r_conv4 h0 h1, List.forall_mem_cons.2 ⟨r_and1 h0 h1, List.forall_mem_cons.2 ⟨r_xor0 h0 h1, List.forall_mem_cons.2 ⟨r_gtr15 h0 h1, hR⟩⟩⟩⟩⟩⟩⟩⟩⟩⟩⟩⟩⟩⟩⟩
theorem sym_holds3 {l : List Int} {now top : Int} (h : small l) {R : List Rule} (hR : ∀ r ∈ R, r.Holds (valK l now top)) : ∀ r ∈ symR3 R, r.Holds (valK l now top) := by
  obtain ⟨h0, h1⟩ := small_at h 3
  exact List.forall_mem_cons.2 ⟨r_conv1 h0 h1, List.forall_mem_cons.2 ⟨r_mul h0 h1, List.forall_mem_cons.2 ⟨r_lss0 h0 h1, List.forall_mem_cons.2 ⟨r_geq128 h0 h1, List.forall_mem_cons.2 ⟨r_conv2 h0 h1, List.forall_mem_cons.2 ⟨r_and127 h0 h1, List.forall_mem_cons.2 ⟨r_conv3 h0 h1, List.forall_mem_cons.2 ⟨r_shl0 h0 h1, List.forall_mem_cons.2 ⟨r_or0 h0 h1, List.forall_mem_cons.2 ⟨r_lss128 h0 h1, List.forall_mem_cons.2 ⟨r_shr1 h0 h1, List.forall_mem_cons.2 ⟨r_conv4 h0 h1, List.forall_mem_cons.2 ⟨r_and1 h0 h1, List.forall_mem_cons.2 ⟨r_xor0 h0 h1, List.forall_mem_cons.2 ⟨r_gtr15 h0 h1, hR⟩⟩⟩⟩⟩⟩⟩⟩⟩⟩⟩⟩⟩⟩⟩
theorem sym_holds4 {l : List Int} {now top : Int} (h : small l) {R : List Rule} (hR : ∀ r ∈ R, r.Holds (valK l now top)) : ∀ r ∈ symR4 R, r.Holds (valK l now top) := by
  obtain ⟨h0, h1⟩ := small_at h 4
  exact List.forall_mem_cons.2 ⟨r_conv1 h0 h1, List.forall_mem_cons.2 ⟨r_mul h0 h1, List.forall_mem_cons.2 ⟨r_lss0 h0 h1, List.forall_mem_cons.2 ⟨r_geq128 h0 h1, List.forall_mem_cons.2 ⟨r_conv2 h0 h1, List.forall_mem_cons.2 ⟨r_and127 h0 h1, List.forall_mem_cons.2 ⟨r_conv3 h0 h1, List.forall_mem_cons.2 ⟨r_shl0 h0 h1, List.forall_mem_cons.2 ⟨r_or0 h0 h1, List.forall_mem_cons.2 ⟨r_lss128 h0 h1, List.forall_mem_cons.2 ⟨r_shr1 h0 h1, List.forall_mem_cons.2 ⟨r_conv4 h0 h1, List.forall_mem_cons.2 ⟨r_and1 h0 h1, List.forall_mem_cons.2 ⟨r_xor0 h0 h1, List.forall_mem_cons.2 ⟨r_gtr15 h0 h1, hR⟩⟩⟩⟩⟩⟩⟩⟩⟩⟩⟩⟩⟩⟩⟩
theorem sym_holds5 {l : List Int} {now top : Int} (h : small l) {R : List Rule} (hR : ∀ r ∈ R, r.Holds (valK l now top)) : ∀ r ∈ symR5 R, r.Holds (valK l now top) := by
  obtain ⟨h0, h1⟩ := small_at h 5
  exact List.forall_mem_cons.2 ⟨r_conv1 h0 h1, List.forall_mem_cons.2 ⟨r_mul h0 h1, List.forall_mem_cons.2 ⟨r_lss0 h0 h1, List.forall_mem_cons.2 ⟨r_geq128 h0 h1, List.forall_mem_cons.2 ⟨r_conv2 h0 h1, List.forall_mem_cons.2 ⟨r_and127 h0 h1, List.forall_mem_cons.2 ⟨r_conv3 h0 h1, List.forall_mem_cons.2 ⟨r_shl0 h0 h1, List.forall_mem_cons.2 ⟨r_or0 h0 h1, List.forall_mem_cons.2 ⟨r_lss128 h0 h1, List.forall_mem_cons.2 ⟨r_shr1 h0 h1, List.forall_mem_cons.2 ⟨r_conv4 h0 h1, List.forall_mem_cons.2 ⟨r_and1 h0 h1, List.forall_mem_cons.2 ⟨r_xor0 h0 h1, List.forall_mem_cons.2 ⟨r_gtr15 h0 h1, hR⟩⟩⟩⟩⟩⟩⟩⟩⟩⟩⟩⟩⟩⟩⟩
theorem sym_holds6 {l : List Int} {now top : Int} (h : small l) {R : List Rule} (hR : ∀ r ∈ R, r.Holds (valK l now top)) : ∀ r ∈ symR6 R, r.Holds (valK l now top) := by
  obtain ⟨h0, h1⟩ := small_at h 6
  exact List.forall_mem_cons.2 ⟨r_conv1 h0 h1, List.forall_mem_cons.2 ⟨r_mul h0 h1, List.forall_mem_cons.2 ⟨r_lss0 h0 h1, List.forall_mem_cons.2 ⟨r_geq128 h0 h1, List.forall_mem_cons.2 ⟨r_conv2 h0 h1, List.forall_mem_cons.2 ⟨r_and127 h0 h1, List.forall_mem_cons.2 ⟨r_conv3 h0 h1, List.forall_mem_cons.2 ⟨r_shl0 h0 h1, List.forall_mem_cons.2 ⟨r_or0 h0 h1, List.forall_mem_cons.2 ⟨r_lss128 h0 h1, List.forall_mem_cons.2 ⟨r_shr1 h0 h1, List.forall_mem_cons.2 ⟨r_conv4 h0 h1, List.forall_mem_cons.2 ⟨r_and1 h0 h1, List.forall_mem_cons.2 ⟨r_xor0 h0 h1, List.forall_mem_cons.2 ⟨r_gtr15 h0 h1, hR⟩⟩⟩⟩⟩⟩⟩⟩⟩⟩⟩⟩⟩⟩⟩
theorem sym_holds7 {l : List Int} {now top : Int} (h : small l) {R : List Rule} (hR : ∀ r ∈ R, r.Holds (valK l now top)) : ∀ r ∈ symR7 R, r.Holds (valK l now top) := by
  obtain ⟨h0, h1⟩ := small_at h 7
  exact List.forall_mem_cons.2 ⟨r_conv1 h0 h1, List.forall_mem_cons.2 ⟨r_mul h0 h1, List.forall_mem_cons.2 ⟨r_lss0 h0 h1, List.forall_mem_cons.2 ⟨r_geq128 h0 h1, List.forall_mem_cons.2 ⟨r_conv2 h0 h1, List.forall_mem_cons.2 ⟨r_and127 h0 h1, List.forall_mem_cons.2 ⟨r_conv3 h0 h1, List.forall_mem_cons.2 ⟨r_shl0 h0 h1, List.forall_mem_cons.2 ⟨r_or0 h0 h1, List.forall_mem_cons.2 ⟨r_lss128 h0 h1, List.forall_mem_cons.2 ⟨r_shr1 h0 h1, List.forall_mem_cons.2 ⟨r_conv4 h0 h1, List.forall_mem_cons.2 ⟨r_and1 h0 h1, List.forall_mem_cons.2 ⟨r_xor0 h0 h1, List.forall_mem_cons.2 ⟨r_gtr15 h0 h1, hR⟩⟩⟩⟩⟩⟩⟩⟩⟩⟩⟩⟩⟩⟩⟩
theorem sym_holds8 {l : List Int} {now top : Int} (h : small l) {R : List Rule} (hR : ∀ r ∈ R, r.Holds (valK l now top)) : ∀ r ∈ symR8 R, r.Holds (valK l now top) := by
  obtain ⟨h0, h1⟩ := small_at h 8
  exact List.forall_mem_cons.2 ⟨r_conv1 h0 h1, List.forall_mem_cons.2 ⟨r_mul h0 h1, List.forall_mem_cons.2 ⟨r_lss0 h0 h1, List.forall_mem_cons.2 ⟨r_geq128 h0 h1, List.forall_mem_cons.2 ⟨r_conv2 h0 h1, List.forall_mem_cons.2 ⟨r_and127 h0 h1, List.forall_mem_cons.2 ⟨r_conv3 h0 h1, List.forall_mem_cons.2 ⟨r_shl0 h0 h1, List.forall_mem_cons.2 ⟨r_or0 h0 h1, List.forall_mem_cons.2 ⟨r_lss128 h0 h1, List.forall_mem_cons.2 ⟨r_shr1 h0 h1, List.forall_mem_cons.2 ⟨r_conv4 h0 h1, List.forall_mem_cons.2 ⟨r_and1 h0 h1, List.forall_mem_cons.2 ⟨r_xor0 h0 h1, List.forall_mem_cons.2 ⟨r_gtr15 h0 h1, hR⟩⟩⟩⟩⟩⟩⟩⟩⟩⟩⟩⟩⟩⟩⟩
theorem sym_holds9 {l : List Int} {now top : Int} (h : small l) {R : List Rule} (hR : ∀ r ∈ R, r.Holds (valK l now top)) : ∀ r ∈ symR9 R, r.Holds (valK l now top) := by
  obtain ⟨h0, h1⟩ := small_at h 9
  exact List.forall_mem_cons.2 ⟨r_conv1 h0 h1, List.forall_mem_cons.2 ⟨r_mul h0 h1, List.forall_mem_cons.2 ⟨r_lss0 h0 h1, List.forall_mem_cons.2 ⟨r_geq128 h0 h1, List.forall_mem_cons.2 ⟨r_conv2 h0 h1, List.forall_mem_cons.2 ⟨r_and127 h0 h1, List.forall_mem_cons.2 ⟨r_conv3 h0 h1, List.forall_mem_cons.2 ⟨r_shl0 h0 h1, List.forall_mem_cons.2 ⟨r_or0 h0 h1, List.forall_mem_cons.2 ⟨r_lss128 h0 h1, List.forall_mem_cons.2 ⟨r_shr1 h0 h1, List.forall_mem_cons.2 ⟨r_conv4 h0 h1, List.forall_mem_cons.2 ⟨r_and1 h0 h1, List.forall_mem_cons.2 ⟨r_xor0 h0 h1, List.forall_mem_cons.2 ⟨r_gtr15 h0 h1, hR⟩⟩⟩⟩⟩⟩⟩⟩⟩⟩⟩⟩⟩⟩⟩
theorem rules_hold {l : List Int} {now top : Int} (h : small l) (c : Nat) (h1 : c = 1 → 2 ≤ l.getD 0 0) (h2 : c ≠ 0 → c ≠ 1 → 2 ≤ l.getD 1 0) (k : Nat) : ∀ r ∈ rulesK k c, r.Holds (valK l now top) := by
  have hg : ∀ r ∈ geR c, r.Holds (valK l now top) := by
    match c with
    | 0 => intro r hr; cases hr
    | 1 => exact List.forall_mem_cons.2 ⟨h_geq .i64 (l.getD 0 0) 2 true (by rw [decide_eq_false (by have := h1 rfl; omega)]; rfl), fun r hr => by cases hr⟩
    | c + 2 => exact List.forall_mem_cons.2 ⟨h_geq .i64 (l.getD 1 0) 2 true (by rw [decide_eq_false (by have := h2 (by omega) (by omega); omega)]; rfl), fun r hr => by cases hr⟩
  match k with
  | 0 => exact hg
  | 1 => exact (sym_holds0 h hg)
  | 2 => exact (sym_holds0 h (sym_holds1 h hg))
  | 3 => exact (sym_holds0 h (sym_holds1 h (sym_holds2 h hg)))
  | 4 => exact (sym_holds0 h (sym_holds1 h (sym_holds2 h (sym_holds3 h hg))))
  | 5 => exact (sym_holds0 h (sym_holds1 h (sym_holds2 h (sym_holds3 h (sym_holds4 h hg)))))
  | 6 => exact (sym_holds0 h (sym_holds1 h (sym_holds2 h (sym_holds3 h (sym_holds4 h (sym_holds5 h hg))))))
  | 7 => exact (sym_holds0 h (sym_holds1 h (sym_holds2 h (sym_holds3 h (sym_holds4 h (sym_holds5 h (sym_holds6 h hg)))))))
  | 8 => exact (sym_holds0 h (sym_holds1 h (sym_holds2 h (sym_holds3 h (sym_holds4 h (sym_holds5 h (sym_holds6 h (sym_holds7 h hg))))))))
  | 9 => exact (sym_holds0 h (sym_holds1 h (sym_holds2 h (sym_holds3 h (sym_holds4 h (sym_holds5 h (sym_holds6 h (sym_holds7 h (sym_holds8 h hg)))))))))
  | 10 => exact (sym_holds0 h (sym_holds1 h (sym_holds2 h (sym_holds3 h (sym_holds4 h (sym_holds5 h (sym_holds6 h (sym_holds7 h (sym_holds8 h (sym_holds9 h hg))))))))))
  | k + 11 => intro r hr; cases hr
end Go.Proofs.YtnfmgkkhejminaaGreatDoor
