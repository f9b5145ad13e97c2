/-
  The runs of Checksum and List: definitions alone.
-/
import Derived.Test.YtnfmgkkhejminaaGreatDoorStStaF
namespace Go.Proofs.YtnfmgkkhejminaaGreatDoor
open Go Go.Ev
noncomputable section
/-! ## Checksum at unknown answers and an unknown word of nodes, of which it is known how many bits it has -/
def p64 : Nat := 18446744073709551616
def p65 : Nat := 36893488147419103232
def p70 : Nat := 1180591620717411303424
/-- the first argument of addInt: a number, or what addInt gave before -/
def codeS : Value → Option Nat
  | .int .u64 (.ofNat z) => gd (Nat.blt 0 z && Nat.blt z p64) (some z)
  | .float .f64 i => gd (Nat.ble p70 i) (some i)
  | _ => none
/-- the second: a number, or a letter -/
def codeN : Value → Option Nat
  | .int .u64 (.ofNat z) => gd (Nat.blt z p64) (some z)
  | .float .f64 j => gd ((Nat.ble 10 j && Nat.blt j 20) || (Nat.ble 110 j && Nat.blt j 120)) (some (Nat.add p65 j))
  | _ => none
def genA (f : Nat) (args : List Value) : Option Value := bsel (Nat.beq f 90) none (match args with
  | [a, b] => ob (codeS a) fun s => ob (codeN b) fun n => some (.float .f64 (Nat.add (Nat.mul s p70) n))
  | _ => none)
/-- the word behind j of its bits -/
def wordV (j : Nat) : Value := match j with
  | 0 => .float .f64 78
  | j + 1 => .float .f64 (Nat.add 141 j)
def wordR (L : Nat) (j : Nat) (r : List Rule) : List Rule :=
  ⟨.bin .neq, wordV j, .int .u64 0, .bool true⟩ :: ⟨.bin .sub, wordV j, .int .u64 1, .float .f64 (Nat.add 130 j)⟩ :: ⟨.bin .and, wordV j, .float .f64 (Nat.add 130 j), bsel (Nat.beq (Nat.succ j) L) (wordV (Nat.succ j)) (.int .u64 0)⟩ ::
  ⟨.bin .add, .int .i64 0, .float .f64 (Nat.add 100 j), .float .f64 (Nat.add 100 j)⟩ :: ⟨.conv .u64, .float .f64 (Nat.add 100 j), .float .f64 (Nat.add 100 j), .float .f64 (Nat.add 110 j)⟩ :: r
def wordsR (L : Nat) : Nat → List Rule → List Rule
  | 0, r => r
  | j + 1, r => wordR L j (wordsR L j r)
def saidR : Nat → List Rule
  | 0 => []
  | i + 1 => ⟨.conv .u64, .float .f64 i, .float .f64 i, .float .f64 (Nat.add 10 i)⟩ :: saidR i
def wordsC : Nat → List CRule
  | 0 => []
  | j + 1 => ⟨89, [wordV j], [t64], .float .f64 (Nat.add 100 j)⟩ :: wordsC j
@[reducible] def tabC (n L : Nat) : OTab := { rules := wordsR L L (saidR n), calls := ⟨87, [.float .f64 78], [], .int .i64 L⟩ :: ⟨87, [.int .u64 0], [], .int .i64 0⟩ :: wordsC L, gen := genA }
/-- where Checksum begins: the table, the call taker, its map, the entry, its line, its nodes, its answers; the store and the interview are not looked at -/
def ansV (n : Nat) : Value := match n with
  | 0 => .slice none 0 0
  | n => .slice (some ⟨7, 0, none⟩) n 2
def deskV : List Value := [.int .i64 0, .int .i64 3, .int .i64 9, .int .i64 20, .int .i64 4, .pointer (some ⟨20, 0, none⟩), .map (some 3)]
def entryV : List Value := [.pointer (some ⟨5, 0, none⟩), .int .i64 1, .int .i64 5, .pointer (some ⟨6, 0, none⟩), .pointer (some ⟨21, 0, none⟩)]
def lineV (n : Nat) : List Value := [.int .i64 7, .int .i64 2, .int .i64 (-1), .int .i64 0, .int .i64 1, .string ⟨#[109, 97, 105, 110]⟩, .int .i64 1, ansV n]
def lettersV (n : Nat) : List Value := (List.range n).map fun i => .float .f64 i
def blksC (n : Nat) : List (Nat × Blk) :=
  [(0, .cells t64.vals.length (fillT t64.vals 0 .lf)), (2, blkR deskV), (3, .map [⟨.int .i64 7, .pointer (some ⟨4, 0, none⟩), 0⟩] 1), (4, blkR entryV), (5, blkR (lineV n)), (6, blkR (words9 (.float .f64 78)))]
def stC (n : Nat) : St := match n with
  | 0 => stB (blksC 0) 22
  | n => stB ((7, blkR (lettersV n)) :: blksC n) 22
/-- the answer is a letter; nothing that was there turns -/
def isLetter (n : Nat) (r : Option (Value × St)) : Bool :=
  match r with
  | some (.float .f64 i, st) => Nat.ble n st.low && Nat.ble p70 i
  | _ => false
def sumRun (n L : Nat) : Option (Value × St) := @run (tabC n L) Tryz.prog 10 [.pointer (some ⟨2, 0, none⟩)] (stC n)
def okC (n L : Nat) : Bool := isLetter 22 (sumRun n L)
/-- List: a slice as long as there are bits -/
@[reducible] def tabL2 (L : Nat) : OTab := { rules := wordsR L L [], calls := ⟨87, [.float .f64 78], [], .int .i64 L⟩ :: ⟨87, [.int .u64 0], [], .int .i64 0⟩ :: wordsC L }
def isSlice (n L : Nat) (r : Option (Value × St)) : Bool :=
  match r with
  | some (.slice (some ⟨_, _, none⟩) l _, st) => Nat.ble n st.low && Nat.beq l L
  | _ => false
def okL (L : Nat) : Bool := isSlice 22 L (@run (tabL2 L) Tryz.prog 93 [.agg ⟨[.pointer (some ⟨6, 0, none⟩)]⟩] (stB [(0, .cells t64.vals.length (fillT t64.vals 0 .lf)), (6, blkR (words9 (.float .f64 78)))] 22))
end
end Go.Proofs.YtnfmgkkhejminaaGreatDoor
