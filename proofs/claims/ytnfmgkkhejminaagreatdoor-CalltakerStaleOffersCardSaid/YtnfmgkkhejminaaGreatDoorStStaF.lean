/-
  The runs of the offers: definitions alone.
-/
import Derived.Test.YtnfmgkkhejminaaGreatDoorStNodA
namespace Go.Proofs.YtnfmgkkhejminaaGreatDoor
open Go Go.Ev
noncomputable section
/-! ## what the runs of the offers ask: the contract of 'locate' (its answer is a new row of words, of which the first is the letter 78) -/
def locV (f : Nat) (args : List Value) (st : St) : Option (Value × List NStep) :=
  bsel (Nat.beq f 31) none (match args with
    | [.pointer (some ⟨b, o, none⟩), .float .f64 77] => (match load1 st ⟨b, o + 2, none⟩ with
      | some (.int .i64 z) => gd (eqI z 9) (some (.agg ⟨[.pointer (some ⟨st.nxt, 0, none⟩)]⟩, [.push (blkR (words9 (.float .f64 78)))]))
      | _ => none)
    | _ => none)
@[reducible] def tabS (k c : Nat) : OTab := { rules := rulesK k c, calls := [], nat := locV }
/-- one run -/
def runS (k c : Nat) (f : Nat) (args : List Value) (st : St) : Option (Value × St) := @runF (tabS k c) Tryz.prog good47 f args st
/-- the answers of an interview can be read; nothing that was there turns -/
def ivOk (k c : Nat) (I : Nat) (st : St) : Bool :=
  (match runS k c 91 [.pointer (some ⟨I, 0, none⟩)] ⟨st.mem, st.nxt, st.nxt⟩ with
  | some (.tuple ⟨[.int .i64 _, .string _, .bool _]⟩, s) => Nat.ble st.nxt s.low
  | _ => false) && (match runS k c 92 [.pointer (some ⟨I, 0, none⟩)] ⟨st.mem, st.nxt, st.nxt⟩ with
  | some (.tuple ⟨[.int .i64 _, .int .i64 _]⟩, s) => Nat.ble st.nxt s.low
  | _ => false)
/-- different blocks, all of them new -/
def apart : List Nat → Bool
  | [] => true
  | b :: r => Nat.ble 3 b && r.all (fun c => not (Nat.beq b c)) && apart r
/-- a line: its cells, and where its answers lie -/
def lineOk (k : Nat) (sv : List Value) (L : Nat) (ds : List Nat) (st : St) : Bool :=
  match loadN st ⟨L, 0, none⟩ 8 with
  | some [.int .i64 c, .int .i64 s, .int .i64 n, .int .i64 t, .int .i64 e, .string nm, .int .i64 v, .slice (some ⟨A, 0, none⟩) m code] =>
    eqI c 7 && eqI s 2 && eqI n (-1) && eqI t 0 && eqI e 1 && sEq (.string nm) (.string ⟨#[109, 97, 105, 110]⟩) && eqI v 1 && Nat.beq m k && Nat.blt 0 k && Nat.beq code 2 && apart (A :: ds) && (match loadN st ⟨A, 0, none⟩ k with
      | some l => sEqL l sv
      | none => false)
  | some [.int .i64 c, .int .i64 s, .int .i64 n, .int .i64 t, .int .i64 e, .string nm, .int .i64 v, .slice none 0 0] =>
    eqI c 7 && eqI s 2 && eqI n (-1) && eqI t 0 && eqI e 1 && sEq (.string nm) (.string ⟨#[109, 97, 105, 110]⟩) && eqI v 1 && Nat.beq 0 k && apart ds
  | _ => false
/-- the entry of the call 7 -/
def entryOk (k c : Nat) (sv : List Value) (d : Nat) (iv : Bool) (st : St) : Bool :=
  match loadN st ⟨d, 0, none⟩ 7 with
  | some [.int .i64 c0, .int .i64 c1, .int .i64 c2, .int .i64 c3, .int .i64 c4, .pointer (some ⟨_, _, none⟩), .map (some M)] =>
    eqI c0 0 && eqI c1 3 && eqI c2 9 && eqI c3 20 && eqI c4 4 && (match st.mem.get M with
    | some (.map [⟨.int .i64 key, .pointer (some ⟨X, 0, none⟩), born⟩] clock) => eqI key 7 && Nat.beq born 0 && Nat.beq clock 1 && (match loadN st ⟨X, 0, none⟩ 6 with
      | some [.pointer (some ⟨L, 0, none⟩), .int .i64 dist, .int .i64 since, .pointer (some ⟨G, 0, none⟩), .pointer (some ⟨I, 0, none⟩), .int .i64 _] =>
        eqI dist 1 && eqI since 5 && cellsAre st G (words9 (.float .f64 78)) && lineOk k sv L [d, M, X, L, G] st && bsel iv true (ivOk k c I st)
      | _ => false)
    | _ => false)
  | _ => false
def saidV (k : Nat) (nl : Bool) : Value := bsel nl (.slice (some ⟨2, 0, none⟩) k 2) (.slice none 0 0)
/-- the third offer -/
def okThird (k a b c d : Nat) (st : St) (j : Nat) : Bool :=
  match runS k c 8 [.int .i64 7, .slice (some ⟨2, 0, none⟩) j 2] st with
  | some (.slice A n cp, s4) => (match runS k c 9 [.pointer (some ⟨d, 0, none⟩), .slice A n cp, .slice none 0 0, .int .i64 2, .int .i64 12] s4 with
    | some (.tuple ⟨[.agg ⟨[.int .i64 _, .int .i64 _, .slice _ _ _]⟩, .int .i64 z]⟩, s5) => eqI z 0 && Nat.ble 3 s5.low && entryOk k c (saidK k a b) d true s5
    | _ => false)
  | _ => false
/-- the whole: two offers of the line, and a third of each shorter one -/
def okS (k a b c : Nat) (nl : Bool) : Bool :=
  match runS k c 7 [] (stK k a b) with
  | some (.tuple ⟨[.pointer (some ⟨d, 0, none⟩), .pointer (some ⟨_, _, none⟩), .bool true]⟩, s0) => (match runS k c 8 [.int .i64 7, saidV k nl] s0 with
    | some (.slice A n cp, s1) => (match runS k c 9 [.pointer (some ⟨d, 0, none⟩), .slice A n cp, .float .f64 77, .int .i64 1, .int .i64 5] s1 with
      | some (.tuple ⟨[.agg ⟨[.int .i64 _, .int .i64 _, .slice _ _ _]⟩, .int .i64 z]⟩, s2) => eqI z 0 && entryOk k c (saidK k a b) d false s2 && (match runS k c 9 [.pointer (some ⟨d, 0, none⟩), .slice A n cp, .float .f64 77, .int .i64 1, .int .i64 9] s2 with
        | some (.tuple ⟨[.agg ⟨[.int .i64 _, .int .i64 _, .slice _ _ _]⟩, .int .i64 z]⟩, s3) => eqI z 0 && Nat.ble 3 s3.low && entryOk k c (saidK k a b) d true s3 && (List.range k).all (okThird k a b c d s3)
        | _ => false)
      | _ => false)
    | _ => false)
  | _ => false
end
end Go.Proofs.YtnfmgkkhejminaaGreatDoor
