/-
  The rules for unknown numbers and the states in which the runs of the law begin: definitions alone.
-/
import Derived.Test.YtnfmgkkhejminaaGreatDoorProg
import Derived.Test.YtnfmgkkhejminaaGreatDoorEvFastB
import Derived.Test.YtnfmgkkhejminaaGreatDoorEvTwo
import Derived.Test.YtnfmgkkhejminaaGreatDoorEvRules
import Derived.KernelRfl
namespace Go.Proofs.YtnfmgkkhejminaaGreatDoor
open Go Go.Ev
noncomputable section
/-- the functions that are reached -/
def good47 : Nat := 602401288913222009247578539141998130546203210144678839670493733054655108904050432447710891377535451696040115120
/-- the table deBruijn64tab of package bits -/
def tab64 : List Int := [0, 1, 56, 2, 57, 49, 28, 3, 61, 58, 42, 50, 38, 29, 17, 4, 62, 47, 59, 36, 45, 43, 51, 22, 53, 39, 33, 30, 24, 18, 12, 5, 63, 55, 48, 27, 60, 41, 37, 16, 46, 35, 44, 21, 52, 32, 23, 11, 54, 26, 40, 15, 34, 20, 31, 10, 25, 14, 19, 9, 13, 8, 7, 6]
def t64 : Tab := ⟨0, .u8, tab64⟩
def symR0 (l : List Rule) : List Rule := ⟨.conv .u64, .float .f64 0, .float .f64 0, .float .f64 10⟩ :: ⟨.bin .mul, .float .f64 10, .int .u64 2, .float .f64 20⟩ :: ⟨.bin .lss, .float .f64 0, .int .i64 0, .bool false⟩ :: ⟨.bin .geq, .float .f64 20, .int .u64 128, .bool false⟩ :: ⟨.conv .u8, .float .f64 20, .float .f64 20, .float .f64 30⟩ :: ⟨.bin .and, .float .f64 30, .int .u8 127, .float .f64 30⟩ :: ⟨.conv .u64, .float .f64 30, .float .f64 30, .float .f64 20⟩ :: ⟨.bin .shl, .float .f64 20, .int .i64 0, .float .f64 20⟩ :: ⟨.bin .or, .int .u64 0, .float .f64 20, .float .f64 20⟩ :: ⟨.bin .lss, .float .f64 30, .int .u8 128, .bool true⟩ :: ⟨.bin .shr, .float .f64 20, .int .u64 1, .float .f64 10⟩ :: ⟨.conv .i64, .float .f64 10, .float .f64 10, .float .f64 0⟩ :: ⟨.bin .and, .float .f64 20, .int .u64 1, .int .u64 0⟩ :: ⟨.bin .xor, .float .f64 0, .int .i64 0, .float .f64 0⟩ :: ⟨.bin .gtr, .float .f64 0, .int .i64 15, .bool false⟩ :: l
def symR1 (l : List Rule) : List Rule := ⟨.conv .u64, .float .f64 1, .float .f64 1, .float .f64 11⟩ :: ⟨.bin .mul, .float .f64 11, .int .u64 2, .float .f64 21⟩ :: ⟨.bin .lss, .float .f64 1, .int .i64 0, .bool false⟩ :: ⟨.bin .geq, .float .f64 21, .int .u64 128, .bool false⟩ :: ⟨.conv .u8, .float .f64 21, .float .f64 21, .float .f64 31⟩ :: ⟨.bin .and, .float .f64 31, .int .u8 127, .float .f64 31⟩ :: ⟨.conv .u64, .float .f64 31, .float .f64 31, .float .f64 21⟩ :: ⟨.bin .shl, .float .f64 21, .int .i64 0, .float .f64 21⟩ :: ⟨.bin .or, .int .u64 0, .float .f64 21, .float .f64 21⟩ :: ⟨.bin .lss, .float .f64 31, .int .u8 128, .bool true⟩ :: ⟨.bin .shr, .float .f64 21, .int .u64 1, .float .f64 11⟩ :: ⟨.conv .i64, .float .f64 11, .float .f64 11, .float .f64 1⟩ :: ⟨.bin .and, .float .f64 21, .int .u64 1, .int .u64 0⟩ :: ⟨.bin .xor, .float .f64 1, .int .i64 0, .float .f64 1⟩ :: ⟨.bin .gtr, .float .f64 1, .int .i64 15, .bool false⟩ :: l
def symR2 (l : List Rule) : List Rule := ⟨.conv .u64, .float .f64 2, .float .f64 2, .float .f64 12⟩ :: ⟨.bin .mul, .float .f64 12, .int .u64 2, .float .f64 22⟩ :: ⟨.bin .lss, .float .f64 2, .int .i64 0, .bool false⟩ :: ⟨.bin .geq, .float .f64 22, .int .u64 128, .bool false⟩ :: ⟨.conv .u8, .float .f64 22, .float .f64 22, .float .f64 32⟩ :: ⟨.bin .and, .float .f64 32, .int .u8 127, .float .f64 32⟩ :: ⟨.conv .u64, .float .f64 32, .float .f64 32, .float .f64 22⟩ :: ⟨.bin .shl, .float .f64 22, .int .i64 0, .float .f64 22⟩ :: ⟨.bin .or, .int .u64 0, .float .f64 22, .float .f64 22⟩ :: ⟨.bin .lss, .float .f64 32, .int .u8 128, .bool true⟩ :: ⟨.bin .shr, .float .f64 22, .int .u64 1, .float .f64 12⟩ :: ⟨.conv .i64, .float .f64 12, .float .f64 12, .float .f64 2⟩ :: ⟨.bin .and, .float .f64 22, .int .u64 1, .int .u64 0⟩ :: ⟨.bin .xor, .float .f64 2, .int .i64 0, .float .f64 2⟩ :: ⟨.bin .gtr, .float .f64 2, .int .i64 15, .bool false⟩ :: l
def symR3 (l : List Rule) : List Rule := ⟨.conv .u64, .float .f64 3, .float .f64 3, .float .f64 13⟩ :: ⟨.bin .mul, .float .f64 13, .int .u64 2, .float .f64 23⟩ :: ⟨.bin .lss, .float .f64 3, .int .i64 0, .bool false⟩ :: ⟨.bin .geq, .float .f64 23, .int .u64 128, .bool false⟩ :: ⟨.conv .u8, .float .f64 23, .float .f64 23, .float .f64 33⟩ :: ⟨.bin .and, .float .f64 33, .int .u8 127, .float .f64 33⟩ :: ⟨.conv .u64, .float .f64 33, .float .f64 33, .float .f64 23⟩ :: ⟨.bin .shl, .float .f64 23, .int .i64 0, .float .f64 23⟩ :: ⟨.bin .or, .int .u64 0, .float .f64 23, .float .f64 23⟩ :: ⟨.bin .lss, .float .f64 33, .int .u8 128, .bool true⟩ :: ⟨.bin .shr, .float .f64 23, .int .u64 1, .float .f64 13⟩ :: ⟨.conv .i64, .float .f64 13, .float .f64 13, .float .f64 3⟩ :: ⟨.bin .and, .float .f64 23, .int .u64 1, .int .u64 0⟩ :: ⟨.bin .xor, .float .f64 3, .int .i64 0, .float .f64 3⟩ :: ⟨.bin .gtr, .float .f64 3, .int .i64 15, .bool false⟩ :: l
def symR4 (l : List Rule) : List Rule := ⟨.conv .u64, .float .f64 4, .float .f64 4, .float .f64 14⟩ :: ⟨.bin .mul, .float .f64 14, .int .u64 2, .float .f64 24⟩ :: ⟨.bin .lss, .float .f64 4, .int .i64 0, .bool false⟩ :: ⟨.bin .geq, .float .f64 24, .int .u64 128, .bool false⟩ :: ⟨.conv .u8, .float .f64 24, .float .f64 24, .float .f64 34⟩ :: ⟨.bin .and, .float .f64 34, .int .u8 127, .float .f64 34⟩ :: ⟨.conv .u64, .float .f64 34, .float .f64 34, .float .f64 24⟩ :: ⟨.bin .shl, .float .f64 24, .int .i64 0, .float .f64 24⟩ :: ⟨.bin .or, .int .u64 0, .float .f64 24, .float .f64 24⟩ :: ⟨.bin .lss, .float .f64 34, .int .u8 128, .bool true⟩ :: ⟨.bin .shr, .float .f64 24, .int .u64 1, .float .f64 14⟩ :: ⟨.conv .i64, .float .f64 14, .float .f64 14, .float .f64 4⟩ :: ⟨.bin .and, .float .f64 24, .int .u64 1, .int .u64 0⟩ :: ⟨.bin .xor, .float .f64 4, .int .i64 0, .float .f64 4⟩ :: ⟨.bin .gtr, .float .f64 4, .int .i64 15, .bool false⟩ :: l
def symR5 (l : List Rule) : List Rule := ⟨.conv .u64, .float .f64 5, .float .f64 5, .float .f64 15⟩ :: ⟨.bin .mul, .float .f64 15, .int .u64 2, .float .f64 25⟩ :: ⟨.bin .lss, .float .f64 5, .int .i64 0, .bool false⟩ :: ⟨.bin .geq, .float .f64 25, .int .u64 128, .bool false⟩ :: ⟨.conv .u8, .float .f64 25, .float .f64 25, .float .f64 35⟩ :: ⟨.bin .and, .float .f64 35, .int .u8 127, .float .f64 35⟩ :: ⟨.conv .u64, .float .f64 35, .float .f64 35, .float .f64 25⟩ :: ⟨.bin .shl, .float .f64 25, .int .i64 0, .float .f64 25⟩ :: ⟨.bin .or, .int .u64 0, .float .f64 25, .float .f64 25⟩ :: ⟨.bin .lss, .float .f64 35, .int .u8 128, .bool true⟩ :: ⟨.bin .shr, .float .f64 25, .int .u64 1, .float .f64 15⟩ :: ⟨.conv .i64, .float .f64 15, .float .f64 15, .float .f64 5⟩ :: ⟨.bin .and, .float .f64 25, .int .u64 1, .int .u64 0⟩ :: ⟨.bin .xor, .float .f64 5, .int .i64 0, .float .f64 5⟩ :: ⟨.bin .gtr, .float .f64 5, .int .i64 15, .bool false⟩ :: l
def symR6 (l : List Rule) : List Rule := ⟨.conv .u64, .float .f64 6, .float .f64 6, .float .f64 16⟩ :: ⟨.bin .mul, .float .f64 16, .int .u64 2, .float .f64 26⟩ :: ⟨.bin .lss, .float .f64 6, .int .i64 0, .bool false⟩ :: ⟨.bin .geq, .float .f64 26, .int .u64 128, .bool false⟩ :: ⟨.conv .u8, .float .f64 26, .float .f64 26, .float .f64 36⟩ :: ⟨.bin .and, .float .f64 36, .int .u8 127, .float .f64 36⟩ :: ⟨.conv .u64, .float .f64 36, .float .f64 36, .float .f64 26⟩ :: ⟨.bin .shl, .float .f64 26, .int .i64 0, .float .f64 26⟩ :: ⟨.bin .or, .int .u64 0, .float .f64 26, .float .f64 26⟩ :: ⟨.bin .lss, .float .f64 36, .int .u8 128, .bool true⟩ :: ⟨.bin .shr, .float .f64 26, .int .u64 1, .float .f64 16⟩ :: ⟨.conv .i64, .float .f64 16, .float .f64 16, .float .f64 6⟩ :: ⟨.bin .and, .float .f64 26, .int .u64 1, .int .u64 0⟩ :: ⟨.bin .xor, .float .f64 6, .int .i64 0, .float .f64 6⟩ :: ⟨.bin .gtr, .float .f64 6, .int .i64 15, .bool false⟩ :: l
def symR7 (l : List Rule) : List Rule := ⟨.conv .u64, .float .f64 7, .float .f64 7, .float .f64 17⟩ :: ⟨.bin .mul, .float .f64 17, .int .u64 2, .float .f64 27⟩ :: ⟨.bin .lss, .float .f64 7, .int .i64 0, .bool false⟩ :: ⟨.bin .geq, .float .f64 27, .int .u64 128, .bool false⟩ :: ⟨.conv .u8, .float .f64 27, .float .f64 27, .float .f64 37⟩ :: ⟨.bin .and, .float .f64 37, .int .u8 127, .float .f64 37⟩ :: ⟨.conv .u64, .float .f64 37, .float .f64 37, .float .f64 27⟩ :: ⟨.bin .shl, .float .f64 27, .int .i64 0, .float .f64 27⟩ :: ⟨.bin .or, .int .u64 0, .float .f64 27, .float .f64 27⟩ :: ⟨.bin .lss, .float .f64 37, .int .u8 128, .bool true⟩ :: ⟨.bin .shr, .float .f64 27, .int .u64 1, .float .f64 17⟩ :: ⟨.conv .i64, .float .f64 17, .float .f64 17, .float .f64 7⟩ :: ⟨.bin .and, .float .f64 27, .int .u64 1, .int .u64 0⟩ :: ⟨.bin .xor, .float .f64 7, .int .i64 0, .float .f64 7⟩ :: ⟨.bin .gtr, .float .f64 7, .int .i64 15, .bool false⟩ :: l
def symR8 (l : List Rule) : List Rule := ⟨.conv .u64, .float .f64 8, .float .f64 8, .float .f64 18⟩ :: ⟨.bin .mul, .float .f64 18, .int .u64 2, .float .f64 28⟩ :: ⟨.bin .lss, .float .f64 8, .int .i64 0, .bool false⟩ :: ⟨.bin .geq, .float .f64 28, .int .u64 128, .bool false⟩ :: ⟨.conv .u8, .float .f64 28, .float .f64 28, .float .f64 38⟩ :: ⟨.bin .and, .float .f64 38, .int .u8 127, .float .f64 38⟩ :: ⟨.conv .u64, .float .f64 38, .float .f64 38, .float .f64 28⟩ :: ⟨.bin .shl, .float .f64 28, .int .i64 0, .float .f64 28⟩ :: ⟨.bin .or, .int .u64 0, .float .f64 28, .float .f64 28⟩ :: ⟨.bin .lss, .float .f64 38, .int .u8 128, .bool true⟩ :: ⟨.bin .shr, .float .f64 28, .int .u64 1, .float .f64 18⟩ :: ⟨.conv .i64, .float .f64 18, .float .f64 18, .float .f64 8⟩ :: ⟨.bin .and, .float .f64 28, .int .u64 1, .int .u64 0⟩ :: ⟨.bin .xor, .float .f64 8, .int .i64 0, .float .f64 8⟩ :: ⟨.bin .gtr, .float .f64 8, .int .i64 15, .bool false⟩ :: l
def symR9 (l : List Rule) : List Rule := ⟨.conv .u64, .float .f64 9, .float .f64 9, .float .f64 19⟩ :: ⟨.bin .mul, .float .f64 19, .int .u64 2, .float .f64 29⟩ :: ⟨.bin .lss, .float .f64 9, .int .i64 0, .bool false⟩ :: ⟨.bin .geq, .float .f64 29, .int .u64 128, .bool false⟩ :: ⟨.conv .u8, .float .f64 29, .float .f64 29, .float .f64 39⟩ :: ⟨.bin .and, .float .f64 39, .int .u8 127, .float .f64 39⟩ :: ⟨.conv .u64, .float .f64 39, .float .f64 39, .float .f64 29⟩ :: ⟨.bin .shl, .float .f64 29, .int .i64 0, .float .f64 29⟩ :: ⟨.bin .or, .int .u64 0, .float .f64 29, .float .f64 29⟩ :: ⟨.bin .lss, .float .f64 39, .int .u8 128, .bool true⟩ :: ⟨.bin .shr, .float .f64 29, .int .u64 1, .float .f64 19⟩ :: ⟨.conv .i64, .float .f64 19, .float .f64 19, .float .f64 9⟩ :: ⟨.bin .and, .float .f64 29, .int .u64 1, .int .u64 0⟩ :: ⟨.bin .xor, .float .f64 9, .int .i64 0, .float .f64 9⟩ :: ⟨.bin .gtr, .float .f64 9, .int .i64 15, .bool false⟩ :: l
def geR (c : Nat) : List Rule := match c with
  | 0 => []
  | 1 => [⟨.bin .geq, .float .f64 0, .int .i64 2, .bool true⟩]
  | _ => [⟨.bin .geq, .float .f64 1, .int .i64 2, .bool true⟩]
/-- what is known of the first k numbers, and of those that are at least two -/
def rulesK (k c : Nat) : List Rule := match k with
  | 0 => geR c
  | 1 => symR0 (geR c)
  | 2 => symR0 (symR1 (geR c))
  | 3 => symR0 (symR1 (symR2 (geR c)))
  | 4 => symR0 (symR1 (symR2 (symR3 (geR c))))
  | 5 => symR0 (symR1 (symR2 (symR3 (symR4 (geR c)))))
  | 6 => symR0 (symR1 (symR2 (symR3 (symR4 (symR5 (geR c))))))
  | 7 => symR0 (symR1 (symR2 (symR3 (symR4 (symR5 (symR6 (geR c)))))))
  | 8 => symR0 (symR1 (symR2 (symR3 (symR4 (symR5 (symR6 (symR7 (geR c))))))))
  | 9 => symR0 (symR1 (symR2 (symR3 (symR4 (symR5 (symR6 (symR7 (symR8 (geR c)))))))))
  | 10 => symR0 (symR1 (symR2 (symR3 (symR4 (symR5 (symR6 (symR7 (symR8 (symR9 (geR c))))))))))
  | _ => []
def callsK : List CRule := [⟨5, [], [t64], .bool true⟩, ⟨17, [.float .f64 40], [], .float .f64 41⟩]
@[reducible] def tabK (k c : Nat) : OTab := { rules := rulesK k c, calls := callsK }
/-- where a run begins: the table, and the numbers said -/
def cellK (v : Nat) (i : Nat) : Value := match v with
  | 0 => .int .i64 0
  | 1 => .int .i64 1
  | _ => .float .f64 i
def saidK (k a b : Nat) : List Value := match k with
  | 0 => []
  | 1 => [cellK a 0]
  | k + 2 => cellK a 0 :: cellK b 1 :: (List.range k).map fun i => .float .f64 (i + 2)
def stK (k a b : Nat) : St := ⟨match k with
  | 0 => memT [t64]
  | k => (memT [t64]).put (some (.cells k ((fillT (saidK k a b) 0 .lf).put (some (.float .f64 0)) roI))) 2, 3, 3⟩
def argsK (k : Nat) (h : Bool) : List Value := [.slice (some ⟨2, 0, none⟩) k 2, .bool h, .float .f64 40]
/-- a run of the law without a slice answers true -/
def okN (h : Bool) : Bool := okTrue 3 (@runF (tabK 0 0) Tryz.prog good47 4 [.slice none 0 0, .bool h, .float .f64 40] (stK 0 0 0))
/-- a run of the law answers true -/
def okK (h : Bool) (k a b c : Nat) : Bool := okTrue 3 (@runF (tabK k c) Tryz.prog good47 4 (argsK k h) (stK k a b))
end
end Go.Proofs.YtnfmgkkhejminaaGreatDoor
