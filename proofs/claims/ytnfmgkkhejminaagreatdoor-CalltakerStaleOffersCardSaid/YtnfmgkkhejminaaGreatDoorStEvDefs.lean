/-
  An evaluator of the model over an abstract memory: definitions alone, nothing is proved here.
-/
import Derived.Orders
namespace Go.Ev
noncomputable section

/-! ## a binary trie over the naturals -/
inductive T (α : Type) where
  | lf
  | nd (l : T α) (v : Option α) (r : T α)

def getK {α : Type} (il ir : Nat → Option α) (k' : Nat) : Option α :=
  Nat.rec (motive := fun _ => Option α) (il (Nat.div k' 2)) (fun _ _ => ir (Nat.div k' 2)) (Nat.mod k' 2)
def getN {α : Type} (v : Option α) (il ir : Nat → Option α) (k : Nat) : Option α :=
  Nat.rec (motive := fun _ => Option α) v (fun k' _ => getK il ir k') k
def T.get {α : Type} (t : T α) : Nat → Option α :=
  T.rec (motive := fun _ => Nat → Option α) (fun _ => none) (fun _ v _ il ir => getN v il ir) t

def putL {α : Type} (ih : Nat → T α → T α) (l : T α) (v : Option α) (r : T α) (k' : Nat) : T α :=
  Nat.rec (motive := fun _ => T α) (T.nd (ih (Nat.div k' 2) l) v r) (fun _ _ => T.nd l v (ih (Nat.div k' 2) r)) (Nat.mod k' 2)
def putN {α : Type} (x : Option α) (ih : Nat → T α → T α) (k : Nat) (l : T α) (v : Option α) (r : T α) : T α :=
  Nat.rec (motive := fun _ => T α) (T.nd l x r) (fun k' _ => putL ih l v r k') k
def putS {α : Type} (x : Option α) (ih : Nat → T α → T α) (k : Nat) (t : T α) : T α :=
  T.rec (motive := fun _ => T α) (putN x ih k .lf none .lf) (fun l v r _ _ => putN x ih k l v r) t
def T.putF {α : Type} (x : Option α) (fuel : Nat) : Nat → T α → T α :=
  Nat.rec (motive := fun _ => Nat → T α → T α) (fun _ t => t) (fun _ ih => putS x ih) fuel

def T.put {α : Type} (x : Option α) (k : Nat) (t : T α) : T α := T.putF x (Nat.succ k) k t

/-! ## small tools -/
def idd {α : Type} (a : α) : α := a
def ob {α β : Type} (x : Option α) (k : α → Option β) : Option β := Option.rec (motive := fun _ => Option β) none k x
def gd {β : Type} (b : Bool) (k : Option β) : Option β := Bool.rec (motive := fun _ => Option β) none k b
def bsel {β : Type} (b : Bool) (f t : β) : β := Bool.rec (motive := fun _ => β) f t b

/-! ## the abstract memory -/
structure ALoop where
  state : LoopState
  pending : Option Code
  fn : FuncId
  tm : T Value
  ntm : Nat
  params : List Tmp
  assign : Code
  body : Code
  defers : Nat

inductive Blk where
  | cells (n : Nat) (c : T Value)
  | map (es : List MapEntry) (clock : Nat)
  | iter (mp : Option Nat) (since : Nat) (seen : List Nat) (stepped : Nat)
  | loop (l : ALoop)
  | defd

/-! ## the memory: a binary tree of seventeen levels, and a trie for what lies beyond -/
structure N2 (α : Type) where
  l : α
  r : α
abbrev D0 : Type := Option Blk
abbrev D1 : Type := N2 D0
abbrev D2 : Type := N2 D1
abbrev D3 : Type := N2 D2
abbrev D4 : Type := N2 D3
abbrev D5 : Type := N2 D4
abbrev D6 : Type := N2 D5
abbrev D7 : Type := N2 D6
abbrev D8 : Type := N2 D7
abbrev D9 : Type := N2 D8
abbrev D10 : Type := N2 D9
abbrev D11 : Type := N2 D10
abbrev D12 : Type := N2 D11
abbrev D13 : Type := N2 D12
abbrev D14 : Type := N2 D13
abbrev D15 : Type := N2 D14
abbrev D16 : Type := N2 D15
abbrev D17 : Type := N2 D16
def z0 : D0 := none
def z1 : D1 := ⟨z0, z0⟩
def z2 : D2 := ⟨z1, z1⟩
def z3 : D3 := ⟨z2, z2⟩
def z4 : D4 := ⟨z3, z3⟩
def z5 : D5 := ⟨z4, z4⟩
def z6 : D6 := ⟨z5, z5⟩
def z7 : D7 := ⟨z6, z6⟩
def z8 : D8 := ⟨z7, z7⟩
def z9 : D9 := ⟨z8, z8⟩
def z10 : D10 := ⟨z9, z9⟩
def z11 : D11 := ⟨z10, z10⟩
def z12 : D12 := ⟨z11, z11⟩
def z13 : D13 := ⟨z12, z12⟩
def z14 : D14 := ⟨z13, z13⟩
def z15 : D15 := ⟨z14, z14⟩
def z16 : D16 := ⟨z15, z15⟩
def z17 : D17 := ⟨z16, z16⟩
def g0 (x : D0) (_ : Nat) : Option Blk := x
def g1 (x : D1) (b : Nat) : Option Blk := Bool.rec (motive := fun _ => Option Blk) (g0 x.l b) (g0 x.r (Nat.sub b 1)) (Nat.ble 1 b)
def g2 (x : D2) (b : Nat) : Option Blk := Bool.rec (motive := fun _ => Option Blk) (g1 x.l b) (g1 x.r (Nat.sub b 2)) (Nat.ble 2 b)
def g3 (x : D3) (b : Nat) : Option Blk := Bool.rec (motive := fun _ => Option Blk) (g2 x.l b) (g2 x.r (Nat.sub b 4)) (Nat.ble 4 b)
def g4 (x : D4) (b : Nat) : Option Blk := Bool.rec (motive := fun _ => Option Blk) (g3 x.l b) (g3 x.r (Nat.sub b 8)) (Nat.ble 8 b)
def g5 (x : D5) (b : Nat) : Option Blk := Bool.rec (motive := fun _ => Option Blk) (g4 x.l b) (g4 x.r (Nat.sub b 16)) (Nat.ble 16 b)
def g6 (x : D6) (b : Nat) : Option Blk := Bool.rec (motive := fun _ => Option Blk) (g5 x.l b) (g5 x.r (Nat.sub b 32)) (Nat.ble 32 b)
def g7 (x : D7) (b : Nat) : Option Blk := Bool.rec (motive := fun _ => Option Blk) (g6 x.l b) (g6 x.r (Nat.sub b 64)) (Nat.ble 64 b)
def g8 (x : D8) (b : Nat) : Option Blk := Bool.rec (motive := fun _ => Option Blk) (g7 x.l b) (g7 x.r (Nat.sub b 128)) (Nat.ble 128 b)
def g9 (x : D9) (b : Nat) : Option Blk := Bool.rec (motive := fun _ => Option Blk) (g8 x.l b) (g8 x.r (Nat.sub b 256)) (Nat.ble 256 b)
def g10 (x : D10) (b : Nat) : Option Blk := Bool.rec (motive := fun _ => Option Blk) (g9 x.l b) (g9 x.r (Nat.sub b 512)) (Nat.ble 512 b)
def g11 (x : D11) (b : Nat) : Option Blk := Bool.rec (motive := fun _ => Option Blk) (g10 x.l b) (g10 x.r (Nat.sub b 1024)) (Nat.ble 1024 b)
def g12 (x : D12) (b : Nat) : Option Blk := Bool.rec (motive := fun _ => Option Blk) (g11 x.l b) (g11 x.r (Nat.sub b 2048)) (Nat.ble 2048 b)
def g13 (x : D13) (b : Nat) : Option Blk := Bool.rec (motive := fun _ => Option Blk) (g12 x.l b) (g12 x.r (Nat.sub b 4096)) (Nat.ble 4096 b)
def g14 (x : D14) (b : Nat) : Option Blk := Bool.rec (motive := fun _ => Option Blk) (g13 x.l b) (g13 x.r (Nat.sub b 8192)) (Nat.ble 8192 b)
def g15 (x : D15) (b : Nat) : Option Blk := Bool.rec (motive := fun _ => Option Blk) (g14 x.l b) (g14 x.r (Nat.sub b 16384)) (Nat.ble 16384 b)
def g16 (x : D16) (b : Nat) : Option Blk := Bool.rec (motive := fun _ => Option Blk) (g15 x.l b) (g15 x.r (Nat.sub b 32768)) (Nat.ble 32768 b)
def g17 (x : D17) (b : Nat) : Option Blk := Bool.rec (motive := fun _ => Option Blk) (g16 x.l b) (g16 x.r (Nat.sub b 65536)) (Nat.ble 65536 b)
def p0 (_ : D0) (v : Option Blk) (_ : Nat) : D0 := v
def p1l (x : D1) (v : Option Blk) (b : Nat) : D1 := N2.rec (motive := fun _ => Option Blk → Nat → D1) (fun l r v b => N2.mk (p0 l v b) r) x v b
def p1r (x : D1) (v : Option Blk) (b : Nat) : D1 := N2.rec (motive := fun _ => Option Blk → Nat → D1) (fun l r v b => N2.mk l (p0 r v (Nat.sub b 1))) x v b
def p1 (x : D1) (v : Option Blk) (b : Nat) : D1 := Bool.rec (motive := fun _ => D1 → Option Blk → Nat → D1) p1l p1r (Nat.ble 1 b) x v b
def p2l (x : D2) (v : Option Blk) (b : Nat) : D2 := N2.rec (motive := fun _ => Option Blk → Nat → D2) (fun l r v b => N2.mk (p1 l v b) r) x v b
def p2r (x : D2) (v : Option Blk) (b : Nat) : D2 := N2.rec (motive := fun _ => Option Blk → Nat → D2) (fun l r v b => N2.mk l (p1 r v (Nat.sub b 2))) x v b
def p2 (x : D2) (v : Option Blk) (b : Nat) : D2 := Bool.rec (motive := fun _ => D2 → Option Blk → Nat → D2) p2l p2r (Nat.ble 2 b) x v b
def p3l (x : D3) (v : Option Blk) (b : Nat) : D3 := N2.rec (motive := fun _ => Option Blk → Nat → D3) (fun l r v b => N2.mk (p2 l v b) r) x v b
def p3r (x : D3) (v : Option Blk) (b : Nat) : D3 := N2.rec (motive := fun _ => Option Blk → Nat → D3) (fun l r v b => N2.mk l (p2 r v (Nat.sub b 4))) x v b
def p3 (x : D3) (v : Option Blk) (b : Nat) : D3 := Bool.rec (motive := fun _ => D3 → Option Blk → Nat → D3) p3l p3r (Nat.ble 4 b) x v b
def p4l (x : D4) (v : Option Blk) (b : Nat) : D4 := N2.rec (motive := fun _ => Option Blk → Nat → D4) (fun l r v b => N2.mk (p3 l v b) r) x v b
def p4r (x : D4) (v : Option Blk) (b : Nat) : D4 := N2.rec (motive := fun _ => Option Blk → Nat → D4) (fun l r v b => N2.mk l (p3 r v (Nat.sub b 8))) x v b
def p4 (x : D4) (v : Option Blk) (b : Nat) : D4 := Bool.rec (motive := fun _ => D4 → Option Blk → Nat → D4) p4l p4r (Nat.ble 8 b) x v b
def p5l (x : D5) (v : Option Blk) (b : Nat) : D5 := N2.rec (motive := fun _ => Option Blk → Nat → D5) (fun l r v b => N2.mk (p4 l v b) r) x v b
def p5r (x : D5) (v : Option Blk) (b : Nat) : D5 := N2.rec (motive := fun _ => Option Blk → Nat → D5) (fun l r v b => N2.mk l (p4 r v (Nat.sub b 16))) x v b
def p5 (x : D5) (v : Option Blk) (b : Nat) : D5 := Bool.rec (motive := fun _ => D5 → Option Blk → Nat → D5) p5l p5r (Nat.ble 16 b) x v b
def p6l (x : D6) (v : Option Blk) (b : Nat) : D6 := N2.rec (motive := fun _ => Option Blk → Nat → D6) (fun l r v b => N2.mk (p5 l v b) r) x v b
def p6r (x : D6) (v : Option Blk) (b : Nat) : D6 := N2.rec (motive := fun _ => Option Blk → Nat → D6) (fun l r v b => N2.mk l (p5 r v (Nat.sub b 32))) x v b
def p6 (x : D6) (v : Option Blk) (b : Nat) : D6 := Bool.rec (motive := fun _ => D6 → Option Blk → Nat → D6) p6l p6r (Nat.ble 32 b) x v b
def p7l (x : D7) (v : Option Blk) (b : Nat) : D7 := N2.rec (motive := fun _ => Option Blk → Nat → D7) (fun l r v b => N2.mk (p6 l v b) r) x v b
def p7r (x : D7) (v : Option Blk) (b : Nat) : D7 := N2.rec (motive := fun _ => Option Blk → Nat → D7) (fun l r v b => N2.mk l (p6 r v (Nat.sub b 64))) x v b
def p7 (x : D7) (v : Option Blk) (b : Nat) : D7 := Bool.rec (motive := fun _ => D7 → Option Blk → Nat → D7) p7l p7r (Nat.ble 64 b) x v b
def p8l (x : D8) (v : Option Blk) (b : Nat) : D8 := N2.rec (motive := fun _ => Option Blk → Nat → D8) (fun l r v b => N2.mk (p7 l v b) r) x v b
def p8r (x : D8) (v : Option Blk) (b : Nat) : D8 := N2.rec (motive := fun _ => Option Blk → Nat → D8) (fun l r v b => N2.mk l (p7 r v (Nat.sub b 128))) x v b
def p8 (x : D8) (v : Option Blk) (b : Nat) : D8 := Bool.rec (motive := fun _ => D8 → Option Blk → Nat → D8) p8l p8r (Nat.ble 128 b) x v b
def p9l (x : D9) (v : Option Blk) (b : Nat) : D9 := N2.rec (motive := fun _ => Option Blk → Nat → D9) (fun l r v b => N2.mk (p8 l v b) r) x v b
def p9r (x : D9) (v : Option Blk) (b : Nat) : D9 := N2.rec (motive := fun _ => Option Blk → Nat → D9) (fun l r v b => N2.mk l (p8 r v (Nat.sub b 256))) x v b
def p9 (x : D9) (v : Option Blk) (b : Nat) : D9 := Bool.rec (motive := fun _ => D9 → Option Blk → Nat → D9) p9l p9r (Nat.ble 256 b) x v b
def p10l (x : D10) (v : Option Blk) (b : Nat) : D10 := N2.rec (motive := fun _ => Option Blk → Nat → D10) (fun l r v b => N2.mk (p9 l v b) r) x v b
def p10r (x : D10) (v : Option Blk) (b : Nat) : D10 := N2.rec (motive := fun _ => Option Blk → Nat → D10) (fun l r v b => N2.mk l (p9 r v (Nat.sub b 512))) x v b
def p10 (x : D10) (v : Option Blk) (b : Nat) : D10 := Bool.rec (motive := fun _ => D10 → Option Blk → Nat → D10) p10l p10r (Nat.ble 512 b) x v b
def p11l (x : D11) (v : Option Blk) (b : Nat) : D11 := N2.rec (motive := fun _ => Option Blk → Nat → D11) (fun l r v b => N2.mk (p10 l v b) r) x v b
def p11r (x : D11) (v : Option Blk) (b : Nat) : D11 := N2.rec (motive := fun _ => Option Blk → Nat → D11) (fun l r v b => N2.mk l (p10 r v (Nat.sub b 1024))) x v b
def p11 (x : D11) (v : Option Blk) (b : Nat) : D11 := Bool.rec (motive := fun _ => D11 → Option Blk → Nat → D11) p11l p11r (Nat.ble 1024 b) x v b
def p12l (x : D12) (v : Option Blk) (b : Nat) : D12 := N2.rec (motive := fun _ => Option Blk → Nat → D12) (fun l r v b => N2.mk (p11 l v b) r) x v b
def p12r (x : D12) (v : Option Blk) (b : Nat) : D12 := N2.rec (motive := fun _ => Option Blk → Nat → D12) (fun l r v b => N2.mk l (p11 r v (Nat.sub b 2048))) x v b
def p12 (x : D12) (v : Option Blk) (b : Nat) : D12 := Bool.rec (motive := fun _ => D12 → Option Blk → Nat → D12) p12l p12r (Nat.ble 2048 b) x v b
def p13l (x : D13) (v : Option Blk) (b : Nat) : D13 := N2.rec (motive := fun _ => Option Blk → Nat → D13) (fun l r v b => N2.mk (p12 l v b) r) x v b
def p13r (x : D13) (v : Option Blk) (b : Nat) : D13 := N2.rec (motive := fun _ => Option Blk → Nat → D13) (fun l r v b => N2.mk l (p12 r v (Nat.sub b 4096))) x v b
def p13 (x : D13) (v : Option Blk) (b : Nat) : D13 := Bool.rec (motive := fun _ => D13 → Option Blk → Nat → D13) p13l p13r (Nat.ble 4096 b) x v b
def p14l (x : D14) (v : Option Blk) (b : Nat) : D14 := N2.rec (motive := fun _ => Option Blk → Nat → D14) (fun l r v b => N2.mk (p13 l v b) r) x v b
def p14r (x : D14) (v : Option Blk) (b : Nat) : D14 := N2.rec (motive := fun _ => Option Blk → Nat → D14) (fun l r v b => N2.mk l (p13 r v (Nat.sub b 8192))) x v b
def p14 (x : D14) (v : Option Blk) (b : Nat) : D14 := Bool.rec (motive := fun _ => D14 → Option Blk → Nat → D14) p14l p14r (Nat.ble 8192 b) x v b
def p15l (x : D15) (v : Option Blk) (b : Nat) : D15 := N2.rec (motive := fun _ => Option Blk → Nat → D15) (fun l r v b => N2.mk (p14 l v b) r) x v b
def p15r (x : D15) (v : Option Blk) (b : Nat) : D15 := N2.rec (motive := fun _ => Option Blk → Nat → D15) (fun l r v b => N2.mk l (p14 r v (Nat.sub b 16384))) x v b
def p15 (x : D15) (v : Option Blk) (b : Nat) : D15 := Bool.rec (motive := fun _ => D15 → Option Blk → Nat → D15) p15l p15r (Nat.ble 16384 b) x v b
def p16l (x : D16) (v : Option Blk) (b : Nat) : D16 := N2.rec (motive := fun _ => Option Blk → Nat → D16) (fun l r v b => N2.mk (p15 l v b) r) x v b
def p16r (x : D16) (v : Option Blk) (b : Nat) : D16 := N2.rec (motive := fun _ => Option Blk → Nat → D16) (fun l r v b => N2.mk l (p15 r v (Nat.sub b 32768))) x v b
def p16 (x : D16) (v : Option Blk) (b : Nat) : D16 := Bool.rec (motive := fun _ => D16 → Option Blk → Nat → D16) p16l p16r (Nat.ble 32768 b) x v b
def p17l (x : D17) (v : Option Blk) (b : Nat) : D17 := N2.rec (motive := fun _ => Option Blk → Nat → D17) (fun l r v b => N2.mk (p16 l v b) r) x v b
def p17r (x : D17) (v : Option Blk) (b : Nat) : D17 := N2.rec (motive := fun _ => Option Blk → Nat → D17) (fun l r v b => N2.mk l (p16 r v (Nat.sub b 65536))) x v b
def p17 (x : D17) (v : Option Blk) (b : Nat) : D17 := Bool.rec (motive := fun _ => D17 → Option Blk → Nat → D17) p17l p17r (Nat.ble 65536 b) x v b
structure Mem where
  t : D17
  u : T Blk
def Mem.lf : Mem := ⟨z17, .lf⟩
def Mem.get (m : Mem) (b : Nat) : Option Blk := Bool.rec (motive := fun _ => Option Blk) (g17 m.t b) (m.u.get b) (Nat.ble 131072 b)
def memPut (v : Option Blk) (b : Nat) (t : D17) (u : T Blk) : Mem := Bool.rec (motive := fun _ => Mem) (Mem.mk (p17 t v b) u) (Mem.mk t (u.put v b)) (Nat.ble 131072 b)
def Mem.put (v : Option Blk) (b : Nat) (m : Mem) : Mem := Mem.rec (motive := fun _ => Option Blk → Nat → Mem) (fun t u v b => memPut v b t u) m v b

structure St where
  mem : Mem
  nxt : Nat
  low : Nat

/-- a new block -/
def St.push (st : St) (b : Blk) : St := ⟨st.mem.put (some b) st.nxt, Nat.succ st.nxt, st.low⟩

def minN (a b : Nat) : Nat := Nat.sub a (Nat.sub a b)

/-- block b gets new content -/
def St.setB (st : St) (b : Nat) (x : Blk) : St := ⟨st.mem.put (some x) b, st.nxt, minN b st.low⟩
/-- block b is gone -/
def St.kill (st : St) (b : Nat) : St := ⟨st.mem.put none b, st.nxt, minN b st.low⟩

/-! ## values -/
def tgO (x : Option Value) : Value := Option.rec (motive := fun _ => Value) undef (fun v => v) x
def tg (A : T Value) (t : Nat) : Value := tgO (A.get t)
def ev (A : T Value) (x : Operand) : Value :=
  Operand.rec (motive := fun _ => T Value → Value) (fun t A => tg A t) (fun v _ => v) (fun g _ => .pointer (some ⟨g, 0, none⟩)) (fun f _ => .func (.func f) #[] #[]) x A

/-- a constant that holds no address -/
def plainC : Value → Bool
  | .bool _ | .int _ _ | .string _ | .pointer none | .slice none 0 0 | .map none | .nilFunc | .nilIface => true
  | _ => false
def plainZ : Value → Bool
  | .agg cs => cs.toList.all plainC
  | v => plainC v

def asP (v : Value) : Option Addr := Value.rec (motive_1 := fun _ => Option Addr) (motive_2 := fun _ => Unit) (motive_3 := fun _ => Unit) (fun _ => none) (fun _ _ => none) (fun _ _ => none) (fun _ _ _ => none) (fun _ => none) (fun a => a) (fun _ _ _ => none) (fun _ => none) (fun _ => none) (fun _ _ _ _ _ => none) (none) (fun _ _ _ => none) (none) (fun _ _ => none) (fun _ _ => none) (fun _ _ => ()) () (fun _ _ _ _ => ()) v
def asI (v : Value) : Option Int := Value.rec (motive_1 := fun _ => Option Int) (motive_2 := fun _ => Unit) (motive_3 := fun _ => Unit) (fun _ => none) (fun _ n => some n) (fun _ _ => none) (fun _ _ _ => none) (fun _ => none) (fun _ => none) (fun _ _ _ => none) (fun _ => none) (fun _ => none) (fun _ _ _ _ _ => none) (none) (fun _ _ _ => none) (none) (fun _ _ => none) (fun _ _ => none) (fun _ _ => ()) () (fun _ _ _ _ => ()) v
def asB (v : Value) : Option Bool := Value.rec (motive_1 := fun _ => Option Bool) (motive_2 := fun _ => Unit) (motive_3 := fun _ => Unit) (fun b => some b) (fun _ _ => none) (fun _ _ => none) (fun _ _ _ => none) (fun _ => none) (fun _ => none) (fun _ _ _ => none) (fun _ => none) (fun _ => none) (fun _ _ _ _ _ => none) (none) (fun _ _ _ => none) (none) (fun _ _ => none) (fun _ _ => none) (fun _ _ => ()) () (fun _ _ _ _ => ()) v
def cellsL (v : Value) : List Value := (Value.rec (motive_1 := fun _ => Value → List Value) (motive_2 := fun _ => Unit) (motive_3 := fun _ => Unit) (fun _ => fun v => [v]) (fun _ _ => fun v => [v]) (fun _ _ => fun v => [v]) (fun _ _ _ => fun v => [v]) (fun _ => fun v => [v]) (fun _ => fun v => [v]) (fun _ _ _ => fun v => [v]) (fun _ => fun v => [v]) (fun _ => fun v => [v]) (fun _ _ _ _ _ => fun v => [v]) (fun v => [v]) (fun _ _ _ => fun v => [v]) (fun v => [v]) (fun cs _ => fun _ => cs.toList) (fun _ _ => fun v => [v]) (fun _ _ => ()) () (fun _ _ _ _ => ()) v) v
def isCell (v : Value) : Bool := Value.rec (motive_1 := fun _ => Bool) (motive_2 := fun _ => Unit) (motive_3 := fun _ => Unit) (fun _ => true) (fun _ _ => true) (fun _ _ => true) (fun _ _ _ => true) (fun _ => true) (fun _ => true) (fun _ _ _ => true) (fun _ => true) (fun _ => true) (fun _ _ _ _ _ => true) (true) (fun _ _ _ => true) (true) (fun _ _ => false) (fun _ _ => false) (fun _ _ => ()) () (fun _ _ _ _ => ()) v
def asA : Value → Option (List Value)
  | .agg cs => some cs.toList
  | _ => none
def asT : Value → Option (List Value)
  | .tuple cs => some cs.toList
  | _ => none

def ltI (a b : Int) : Bool :=
  Int.rec (motive := fun _ => Int → Bool)
    (fun x b => Int.rec (motive := fun _ => Bool) (fun y => Nat.blt x y) (fun _ => false) b)
    (fun x b => Int.rec (motive := fun _ => Bool) (fun _ => true) (fun y => Nat.blt y x) b) a b
def eqI (a b : Int) : Bool :=
  Int.rec (motive := fun _ => Int → Bool)
    (fun x b => Int.rec (motive := fun _ => Bool) (fun y => Nat.beq x y) (fun _ => false) b)
    (fun x b => Int.rec (motive := fun _ => Bool) (fun _ => false) (fun y => Nat.beq x y) b) a b

def half : IntKind → Nat
  | .i8 => 128 | .i16 => 32768 | .i32 => 2147483648 | .i64 => 9223372036854775808
  | .u8 => 256 | .u16 => 65536 | .u32 => 4294967296 | .u64 => 18446744073709551616

def wrapF (k : IntKind) (n : Int) : Int :=
  Int.rec (motive := fun _ => IntKind → Int)
    (fun x k => bsel (Nat.blt x (half k)) (k.wrap (.ofNat x)) (.ofNat x))
    (fun x k => k.wrap (.negSucc x)) n k

/-! ## types -/
def sz (P : Program) (t : TypeId) : Option Nat := (P.info? t).map (·.size)
def bytesOf (P : Program) (t : TypeId) : Option Nat := (P.info? t).map (·.bytes)
def zeroOf (P : Program) (t : TypeId) : Option Value := (P.info? t).bind (·.zero)
def isAggD : TypeDesc → Bool
  | .struct _ => true
  | .array _ _ => true
  | _ => false
def aggT (P : Program) (t : TypeId) : Option Bool := (P.underlying t).map isAggD
/-- the zero value, if none of its cells is an address -/
def zeroP (P : Program) (t : TypeId) : Option Value :=
  match zeroOf P t with
  | some z => if plainZ z then some z else none
  | none => none
def sliceElem (P : Program) (t : TypeId) : Option TypeId :=
  match P.underlying t with
  | some (.slice e) => some e
  | _ => none
def mapKV (P : Program) (t : TypeId) : Option (TypeId × TypeId) :=
  match P.underlying t with
  | some (.map k e) => some (k, e)
  | _ => none
def fieldOf (P : Program) (t : TypeId) (f : Nat) : Option Field :=
  match P.underlying t with
  | some (.struct fs) => fs[f]?
  | _ => none
/-- the offset of a field that takes room -/
def offOf (P : Program) (t : TypeId) (f : Nat) : Option Nat :=
  match fieldOf P t f with
  | some fd => match sz P fd.type with
    | some n => if n = 0 then none else some fd.offset
    | none => none
  | none => none

def fillT (l : List Value) : Nat → T Value → T Value :=
  List.rec (motive := fun _ => Nat → T Value → T Value) (fun _ t => t) (fun v _ ih i t => ih (Nat.succ i) (t.put (some v) i)) l

/-- cells [i, i+n) as a list -/
def takeT (c : T Value) (n : Nat) : Nat → Option (List Value) :=
  Nat.rec (motive := fun _ => Nat → Option (List Value)) (fun _ => some [])
    (fun _ ih i => ob (c.get i) fun v => ob (ih (Nat.succ i)) fun l => some (v :: l)) n

def repL (l : List Value) : Nat → List Value
  | 0 => []
  | n + 1 => l ++ repL l n

/-! ## reading memory -/
def cellsB {β : Type} (k : Nat → T Value → Option β) (x : Blk) : Option β :=
  Blk.rec (motive := fun _ => Option β) k (fun _ _ => none) (fun _ _ _ _ => none) (fun _ => none) none x
def cellsAt {β : Type} (st : St) (b : Nat) (k : Nat → T Value → Option β) : Option β := ob (st.mem.get b) (cellsB k)

def load1K (off : Nat) (n : Nat) (c : T Value) : Option Value := gd (Nat.blt off n) (c.get off)
def load1 (st : St) (a : Addr) : Option Value := gd a.spot.isNone (cellsAt st a.block (load1K a.off))
def loadNK (off k : Nat) (n : Nat) (c : T Value) : Option (List Value) := gd (Nat.ble (Nat.add off k) n) (takeT c k off)
def loadN (st : St) (a : Addr) (n : Nat) : Option (List Value) := gd a.spot.isNone (cellsAt st a.block (loadNK a.off n))

def loadAg (P : Program) (st : St) (t : TypeId) (a : Addr) : Option Value := ob (sz P t) fun n => ob (loadN st a n) fun l => some (.agg ⟨l⟩)
def loadV (P : Program) (st : St) (t : TypeId) (a : Addr) : Option Value :=
  ob (aggT P t) fun g => bsel g (load1 st a) (loadAg P st t a)

/-! ## writing memory -/
/-- where a block says that it is only read -/
def roI : Nat := 40002
def storeN (st : St) (a : Addr) (l : List Value) : Option St :=
  gd a.spot.isNone (cellsAt st a.block fun m c =>
    gd (Nat.ble (Nat.add a.off l.length) m && (c.get roI).isNone) (some (st.setB a.block (.cells m (fillT l a.off c)))))

def storeV (P : Program) (st : St) (t : TypeId) (a : Addr) (v : Value) : Option St :=
  ob (sz P t) fun n => gd (Nat.beq (cellsL v).length n) (gd ((cellsL v).all isCell) (storeN st a (cellsL v)))

/-! ## numbers and strings that are not known: '.float k i' stands for whatever is chosen for i; what an operation gives of them is told by rules -/
def kindEq (k k' : IntKind) : Bool := decide (k = k')
inductive SOp where
  | bin (op : BinOp)
  | min
  | max
  | eqi
  | eqs
  /-- a conversion to another kind of integer (the operand twice) -/
  | conv (k : IntKind)
structure Rule where
  op : SOp
  x : Value
  y : Value
  z : Value
/-- a variable of the program that is a table of numbers -/
structure Tab where
  g : Nat
  k : IntKind
  zs : List Int
def Tab.vals (t : Tab) : List Value := t.zs.map (Value.int t.k)
/-- a call whose answer is known, where the named tables lie as they should -/
structure CRule where
  f : Nat
  args : List Value
  need : List Tab
  z : Value
/-- what a function with a known contract does to the memory -/
inductive NStep where
  | push (b : Blk)
  | store (a : Addr) (l : List Value)
  /-- the block is not to be read or stored to any more -/
  | drop (b : Nat)
class OTab where
  rules : List Rule
  calls : List CRule
  /-- calls of pure functions: the answer, made of the arguments -/
  gen : Nat → List Value → Option Value := fun _ _ => none
  /-- the types whose new variables bear their type -/
  tags : List Nat := []
  /-- calls of functions whose contract is known: the answer, and the blocks that it makes -/
  nat : Nat → List Value → St → Option (Value × List NStep) := fun _ _ _ => none
variable [OTab]

def isSym : Value → Bool
  | .float _ _ => true
  | _ => false
def plainS : Value → Bool
  | .bool _ | .int _ _ | .string _ | .float _ _ => true
  | _ => false
def sopEq : SOp → SOp → Bool
  | .bin a, .bin b => decide (a = b)
  | .min, .min => true
  | .max, .max => true
  | .eqi, .eqi => true
  | .eqs, .eqs => true
  | .conv a, .conv b => kindEq a b
  | _, _ => false
def sEq : Value → Value → Bool
  | .float k a, .float k' b => decide (k = k') && Nat.beq a b
  | .int k a, .int k' b => kindEq k k' && eqI a b
  | .string a, .string b => a.data.toList == b.data.toList
  | .bool a, .bool b => a == b
  | _, _ => false
def sEqL : List Value → List Value → Bool
  | [], [] => true
  | a :: x, b :: y => sEq a b && sEqL x y
  | _, _ => false
def findR (op : SOp) (x y : Value) : List Rule → Option Value
  | [] => none
  | r :: rs => bsel (sopEq r.op op && sEq r.x x && sEq r.y y && plainS r.z) (findR op x y rs) (some r.z)
def symV (op : SOp) (x y : Value) : Option Value := findR op x y OTab.rules
def symEq (op : SOp) (x y : Value) : Option Bool := ob (symV op x y) asB

/-! ## equality -/
def eqS (x y : Value) : Option Bool :=
  match x, y with
  | .int k a, .int k' b => if k = k' then some (eqI a b) else none
  | .bool a, .bool b => some (a == b)
  | .string a, .string b => some (a.data.toList == b.data.toList)
  | .pointer none, .pointer b => some b.isNone
  | .pointer _, .pointer none => some false
  | .slice none _ _, .slice b _ _ => some b.isNone
  | .slice _ _ _, .slice none _ _ => some false
  | .map none, .map b => some b.isNone
  | .map _, .map none => some false
  | .nilFunc, .nilFunc => some true
  | .nilFunc, .func _ _ _ => some false
  | .func _ _ _, .nilFunc => some false
  | _, _ => none

def partL (P : Program) (t : TypeId) (l : List Value) (off : Nat) : Option Value :=
  ob (aggT P t) fun g => bsel g (l[off]?) (ob (sz P t) fun n => some (.agg ⟨(l.drop off).take n⟩))

def eqFs (P : Program) (eq : TypeId → Value → Value → Option Bool) (xs ys : List Value) : List Field → Option Bool
  | [] => some true
  | f :: fs =>
    if f.name ≠ "_" then
      ob (partL P f.type xs f.offset) fun u => ob (partL P f.type ys f.offset) fun v =>
      ob (eq f.type u v) fun b => bsel b (some false) (eqFs P eq xs ys fs)
    else eqFs P eq xs ys fs

/-- the elements of two arrays from number i on -/
def eqEs (P : Program) (eq : Value → Value → Option Bool) (e : TypeId) (n : Nat) (xs ys : List Value) : List Nat → Option Bool
  | [] => some true
  | i :: is =>
    ob (partL P e xs (Nat.mul i n)) fun u => ob (partL P e ys (Nat.mul i n)) fun v =>
    ob (eq u v) fun b => bsel b (some false) (eqEs P eq e n xs ys is)

/-- equality at a type, depth d -/
def eqV (P : Program) : Nat → TypeId → Value → Value → Option Bool
  | 0, _, _, _ => none
  | d + 1, t, x, y =>
    match P.underlying t, x, y with
    | some (.struct fs), .agg xs, .agg ys =>
      if P.stoodInHeld t then none else eqFs P (eqV P d) xs.toList ys.toList fs.toList
    | some (.array len e), .agg xs, .agg ys => ob (sz P e) fun n => eqEs P (eqV P d e) e n xs.toList ys.toList (List.range len)
    | some (.pointer _), .pointer _, .pointer _ => eqS x y
    | some (.int _), .int _ _, .int _ _ => eqS x y
    | some (.int _), .float _ _, _ => symEq .eqi x y
    | some (.int _), .int _ _, .float _ _ => symEq .eqi x y
    | some .bool, .bool _, .bool _ => eqS x y
    | some .string, .string _, .string _ => eqS x y
    | some .string, .float _ _, _ => symEq .eqs x y
    | some .string, .string _, .float _ _ => symEq .eqs x y
    | some (.slice _), .slice _ _ _, .slice _ _ _ => eqS x y
    | some (.map _ _), .map _, .map _ => eqS x y
    | some (.func _ _ _), .nilFunc, _ => eqS x y
    | some (.func _ _ _), _, .nilFunc => eqS x y
    | _, _, _ => none

/-! ## arithmetic -/
def strBin (op : BinOp) (a b : ByteArray) : Option Value :=
  match op with
  | .add => if a.size + b.size < 9223372036854775807 then some (.string ⟨⟨a.data.toList ++ b.data.toList⟩⟩) else none
  | .eql => some (.bool (a.data.toList == b.data.toList))
  | .neq => some (.bool !(a.data.toList == b.data.toList))
  | .lss => some (.bool (Op.bytesLess a.data.toList b.data.toList))
  | .leq => some (.bool (Op.bytesLess a.data.toList b.data.toList || a.data.toList == b.data.toList))
  | .gtr => some (.bool !(Op.bytesLess a.data.toList b.data.toList || a.data.toList == b.data.toList))
  | .geq => some (.bool !(Op.bytesLess a.data.toList b.data.toList))
  | _ => none

def intBin : BinOp → IntKind → Int → Int → Option Value
  | .add => fun k a b => some (.int k (wrapF k (Int.add a b)))
  | .sub => fun k a b => some (.int k (wrapF k (Int.sub a b)))
  | .mul => fun k a b => some (.int k (wrapF k (Int.mul a b)))
  | .quo => fun k a b => if eqI b 0 then none else some (.int k (wrapF k (a.tdiv b)))
  | .rem => fun k a b => if eqI b 0 then none else some (.int k (a.tmod b))
  | .and => fun k a b => some (.int k (k.wrap (BitVec.ofInt k.bits a &&& BitVec.ofInt k.bits b).toNat))
  | .or => fun k a b => some (.int k (k.wrap (BitVec.ofInt k.bits a ||| BitVec.ofInt k.bits b).toNat))
  | .xor => fun k a b => some (.int k (k.wrap (BitVec.ofInt k.bits a ^^^ BitVec.ofInt k.bits b).toNat))
  | .andNot => fun k a b => some (.int k (k.wrap (BitVec.ofInt k.bits a &&& ~~~BitVec.ofInt k.bits b).toNat))
  | .eql => fun _ a b => some (.bool (eqI a b))
  | .neq => fun _ a b => some (.bool !(eqI a b))
  | .lss => fun _ a b => some (.bool (ltI a b))
  | .leq => fun _ a b => some (.bool !(ltI b a))
  | .gtr => fun _ a b => some (.bool (ltI b a))
  | .geq => fun _ a b => some (.bool !(ltI a b))
  | _ => fun _ _ _ => none

def shiftBin (op : BinOp) (k : IntKind) (a b : Int) : Option Value :=
  if ltI b 0 then none else
  match op with
  | .shl => some (.int k (k.wrap (a * 2 ^ (min b.toNat k.bits))))
  | .shr => some (.int k (a.fdiv (2 ^ (min b.toNat k.bits))))
  | _ => none

def binII (op : BinOp) (k : IntKind) (a : Int) (k' : IntKind) (b : Int) : Option Value :=
  match op with
  | .shl => shiftBin .shl k a b
  | .shr => shiftBin .shr k a b
  | op => gd (kindEq k k') (intBin op k a b)

def eqOnly (P : Program) (d : Nat) (op : BinOp) (t : TypeId) (x y : Value) : Option Value :=
  match op with
  | .eql => ob (eqV P d t x y) fun b => some (.bool b)
  | .neq => ob (eqV P d t x y) fun b => some (.bool !b)
  | _ => none

def binRest (P : Program) (op : BinOp) (t : TypeId) (x y : Value) : Option Value :=
  match x, y with
  | .string a, .string b => strBin op a b
  | .string _, .float _ _ => symV (.bin op) x y
  | .agg _, .agg _ => gd (!P.eqGuardType P.depth t) (eqOnly P 20 op t x y)
  | .pointer _, .pointer _ => eqOnly P 1 op t x y
  | .bool _, .bool _ => eqOnly P 1 op t x y
  | .slice _ _ _, .slice _ _ _ => eqOnly P 1 op t x y
  | .map _, .map _ => eqOnly P 1 op t x y
  | .nilFunc, .nilFunc => eqOnly P 1 op t x y
  | .nilFunc, .func _ _ _ => eqOnly P 1 op t x y
  | .func _ _ _, .nilFunc => eqOnly P 1 op t x y
  | _, _ => none

def binY (k : IntKind) (a : Int) (op : BinOp) (y : Value) : Option Value := (Value.rec (motive_1 := fun _ => BinOp → IntKind → Int → Option Value) (motive_2 := fun _ => Unit) (motive_3 := fun _ => Unit) (fun _ => fun _ _ _ => none) (fun k' b => fun op k a => binII op k a k' b) (fun q i => fun op k a => symV (.bin op) (.int k a) (.float q i)) (fun _ _ _ => fun _ _ _ => none) (fun _ => fun _ _ _ => none) (fun _ => fun _ _ _ => none) (fun _ _ _ => fun _ _ _ => none) (fun _ => fun _ _ _ => none) (fun _ => fun _ _ _ => none) (fun _ _ _ _ _ => fun _ _ _ => none) (fun _ _ _ => none) (fun _ _ _ => fun _ _ _ => none) (fun _ _ _ => none) (fun _ _ => fun _ _ _ => none) (fun _ _ => fun _ _ _ => none) (fun _ _ => ()) () (fun _ _ _ _ => ()) y) op k a
def binV (P : Program) (op : BinOp) (t : TypeId) (x y : Value) : Option Value := (Value.rec (motive_1 := fun _ => Program → BinOp → TypeId → Value → Value → Option Value) (motive_2 := fun _ => Unit) (motive_3 := fun _ => Unit) (fun _ => fun P op t x y => binRest P op t x y) (fun k a => fun _ op _ _ y => binY k a op y) (fun _ _ => fun _ op _ x y => symV (.bin op) x y) (fun _ _ _ => fun P op t x y => binRest P op t x y) (fun _ => fun P op t x y => binRest P op t x y) (fun _ => fun P op t x y => binRest P op t x y) (fun _ _ _ => fun P op t x y => binRest P op t x y) (fun _ => fun P op t x y => binRest P op t x y) (fun _ => fun P op t x y => binRest P op t x y) (fun _ _ _ _ _ => fun P op t x y => binRest P op t x y) (fun P op t x y => binRest P op t x y) (fun _ _ _ => fun P op t x y => binRest P op t x y) (fun P op t x y => binRest P op t x y) (fun _ _ => fun P op t x y => binRest P op t x y) (fun _ _ => fun P op t x y => binRest P op t x y) (fun _ _ => ()) () (fun _ _ _ _ => ()) x) P op t x y

/-- an interface value beside nil -/
def nilEq (op : BinOp) (b : Bool) : Option Value :=
  match op with
  | .eql => some (.bool b)
  | .neq => some (.bool !b)
  | _ => none
def ifaceT (P : Program) (t : TypeId) : Bool :=
  match P.underlying t with
  | some (.interface _) => true
  | _ => false
def nilCmp (P : Program) (op : BinOp) (t : TypeId) (x y : Value) : Option Value :=
  gd (ifaceT P t) (match x, y with
  | .nilIface, .nilIface => nilEq op true
  | .nilIface, .iface _ _ => nilEq op false
  | .iface _ _, .nilIface => nilEq op false
  | _, _ => none)
/-- the operand is a constant -/
def isConst : Operand → Bool
  | .const _ => true
  | _ => false
def alt {α : Type} (x y : Option α) : Option α := Option.rec (motive := fun _ => Option α) y (fun a => some a) x
def binA (c : Bool) (P : Program) (op : BinOp) (t : TypeId) (x y : Value) : Option Value :=
  bsel c (binV P op t x y) (alt (binV P op t x y) (nilCmp P op t x y))
def mkIface (P : Program) (t : TypeId) (x : Value) : Option Value :=
  match P.underlying t with
  | some (.interface _) => none
  | some _ => some (.iface t x)
  | none => none

def unV (op : UnOp) (x : Value) : Option Value :=
  match op, x with
  | .not, .bool b => some (.bool !b)
  | .neg, .int k n => some (.int k (wrapF k (Int.sub 0 n)))
  | .xor, .int k n => some (.int k (k.wrap (BitVec.ofInt k.bits (if k.signed then -1 else k.max) ^^^ BitVec.ofInt k.bits n).toNat))
  | _, _ => none

/-! ## slices: '.slice (some a) len code': code = 2 cap + 1: the capacity is cap; code = 2 size: the capacity reaches to the block's end, which is not known -/
/-- the capacity as far as it is known -/
def capOf (st : St) (a : Addr) (code : Nat) : Option Nat :=
  if code % 2 = 1 then some (code / 2) else
  if code = 0 then none else cellsAt st a.block fun n _ => some ((n - a.off) / (code / 2))

def strideOk (P : Program) (e : TypeId) (code : Nat) : Bool := code % 2 == 1 || sz P e == some (code / 2)

def optInt : Option Value → Option (Option Int)
  | none => some none
  | some v => ob (asI v) fun n => some (some n)

def bound1 (y : Nat) (v : Int) : Option Nat := if ltI v 0 then none else if Nat.ble v.toNat y then some v.toNat else none
def boundsM (cap : Nat) : Option Int → Option Nat
  | none => some cap
  | some v => bound1 cap v
def boundsH (len m : Nat) : Option Int → Option Int → Option Nat
  | some v, _ => bound1 m v
  | none, none => some len
  | none, some _ => none
def boundsL (h : Nat) : Option Int → Option Nat
  | none => some 0
  | some v => bound1 h v
def boundsOf (len cap : Nat) (lo hi mx : Option Int) : Option (Nat × Nat × Nat) :=
  ob (boundsM cap mx) fun m => ob (boundsH len m hi mx) fun h => ob (boundsL h lo) fun l => some (l, h, m)

def sliceS (P : Program) (t : TypeId) (x : Value) (lo hi mx : Option Value) : Option Value :=
  ob (optInt lo) fun lo => ob (optInt hi) fun hi =>
  match P.underlying t, x, mx with
  | some .string, .string s, none =>
    ob (boundsOf s.size s.size lo hi none) fun r => some (.string ⟨⟨(s.data.toList.drop r.1).take (r.2.1 - r.1)⟩⟩)
  | _, _, _ => none

def addrAt (a : Addr) (same : Bool) (k : Nat) : Addr := if same then a else a.add k

/-- behind the bounds: from r.1 to r.2.1, the capacity to r.2.2. A slice that begins at the known end of a block whose end is not known: its address says how far back it goes if no capacity is left -/
def sliceAtV (a : Addr) (code size cap : Nat) (full : Bool) (r : Nat × Nat × Nat) : Option Value :=
  if full || code % 2 == 1 then some (.slice (some (addrAt a (r.2.2 == r.1) (r.1 * size))) (r.2.1 - r.1) (2 * (r.2.2 - r.1) + 1))
  else if r.1 < cap || r.1 = 0 then some (.slice (some (a.add (r.1 * size))) (r.2.1 - r.1) code)
  else gd (Nat.beq r.1 cap && Nat.beq r.2.1 cap) (some (.slice (some ⟨a.block, a.off + r.1 * size, some (r.1 * size)⟩) 0 code))

def sliceV (P : Program) (st : St) (t : TypeId) (x : Value) (lo hi mx : Option Value) : Option Value :=
  ob (optInt lo) fun lo => ob (optInt hi) fun hi => ob (optInt mx) fun mx =>
  match P.underlying t, x with
  | some (.slice e), .slice (some a) len code =>
    gd (a.spot.isNone && strideOk P e code) (
    ob (sz P e) fun size =>
    ob (capOf st a code) fun cap =>
    ob (boundsOf len cap lo hi mx) fun r => sliceAtV a code size cap mx.isSome r)
  | some (.slice e), .slice none 0 0 =>
    ob (sz P e) fun _ => ob (boundsOf 0 0 lo hi mx) fun _ => some (.slice none 0 0)
  | some (.array n e), .pointer (some a) =>
    ob (sz P e) fun size =>
    ob (boundsOf n n lo hi mx) fun r =>
    some (.slice (some (addrAt a (r.2.2 == r.1) (r.1 * size))) (r.2.1 - r.1) (2 * (r.2.2 - r.1) + 1))
  | _, _ => none

/-- the first n elements -/
def firstL (st : St) (size n : Nat) : Value → Option (List Value)
  | .slice (some a) _ _ => if n = 0 then some [] else loadN st a (n * size)
  | .slice none _ _ => some []
  | .string s => if size = 1 then some ((s.data.toList.take n).map fun b => .int .u8 b.toNat) else none
  | _ => none
def lenV : Value → Option Nat
  | .slice _ n _ => some n
  | .string s => some s.size
  | _ => none

def notInts (P : Program) (t : TypeId) : Bool :=
  match P.underlying t with
  | some (.int _) => false
  | none => false
  | _ => true

/-- where a block's type is told -/
def tagI : Nat := 40000

/-- a row that bears the type of its elements -/
def rowTag (e n : Nat) (c : T Value) : T Value := bsel (OTab.tags.any (Nat.beq e) && Nat.ble n tagI) c (c.put (some (.float .f64 e)) (tagI + 1))
def rowTagOk (e : Nat) (c : T Value) : Bool :=
  match c.get (tagI + 1) with
  | some (.float _ t) => Nat.beq t e
  | _ => true
/-- no room in the slice's known capacity: a new block; if the end of the old one is not known, it may be the same memory: the old one is gone -/
def appendGrow (e : Nat) (st : St) (a : Addr) (len size code n : Nat) (new : List Value) : Option (Value × St) :=
  if code % 2 == 1 then
    ob (loadN st a (len * size)) fun old =>
    some (.slice (some ⟨st.nxt, 0, none⟩) (len + n) (2 * size), st.push (.cells ((len + n) * size) (rowTag e ((len + n) * size) (fillT (old ++ new) 0 .lf))))
  else
    cellsAt st a.block fun m c =>
    gd (Nat.beq (a.off + len * size) m && (c.get roI).isNone) (
      if a.off = 0 then
        gd ((c.get tagI).isNone && rowTagOk e c) (some (.slice (some ⟨st.nxt, 0, none⟩) (len + n) (2 * size), (st.kill a.block).push (.cells ((len + n) * size) (fillT new (len * size) c))))
      else
        ob (takeT c (len * size) a.off) fun old =>
        some (.slice (some ⟨st.nxt, 0, none⟩) (len + n) (2 * size), (st.kill a.block).push (.cells ((len + n) * size) (fillT (old ++ new) 0 .lf))))

def zeroFits (P : Program) (e : TypeId) (size : Nat) : Bool :=
  match zeroOf P e with
  | some z => Nat.beq (cellsL z).length size
  | none => false
def fitsB (n bytes : Nat) : Bool := Nat.ble (4 * n * bytes) 1099511627776 && Nat.ble n 1099511627776

def appendV (P : Program) (st : St) (ts : List TypeId) (args : List Value) : Option (Value × St) :=
  match ts, args with
  | sT :: xT :: _, s :: x :: _ =>
    ob (sliceElem P sT) fun e => ob (sz P e) fun size => ob (bytesOf P e) fun bytes =>
    gd (notInts P xT && !Nat.beq size 0 && zeroFits P e size) (
    ob (lenV x) fun n =>
    ob (firstL st size n x) fun new =>
    gd (new.all isCell) (
    match s with
    | .slice none 0 0 =>
      if n = 0 then some (s, st) else
      gd (fitsB n bytes)
        (some (.slice (some ⟨st.nxt, 0, none⟩) n (2 * size), st.push (.cells (n * size) (rowTag e (n * size) (fillT new 0 .lf)))))
    | .slice (some a) len code =>
      gd (strideOk P e code) (
      ob (capOf st a code) fun cap =>
      if len + n ≤ cap then
        -- in place
        if n = 0 then some (s, st) else
        gd a.spot.isNone (ob (storeN st (a.add (len * size)) new) fun st' => some (.slice (some a) (len + n) code, st'))
      else gd (fitsB (len + n) bytes) (appendGrow e st a len size code n new))
    | _ => none))
  | _, _ => none

/-! ## maps -/
def findM (k : Value) : List MapEntry → Nat → Option (Option (Nat × Value))
  | [], _ => some none
  | e :: es, i => ob (eqS k e.key) fun b => if b then some (some (i, e.val)) else findM k es (i + 1)

def keyDesc (P : Program) (kt : TypeId) (k : Value) : Bool :=
  match P.underlying kt, k with
  | some (.int _), .int _ _ => true
  | some .string, .string _ => true
  | some .bool, .bool _ => true
  | _, _ => false

def mapAt {β : Type} (st : St) (b : Nat) (k : List MapEntry → Nat → Option β) : Option β :=
  ob (st.mem.get b) fun x => match x with
  | .map es clock => k es clock
  | _ => none

def entriesOf (st : St) : Value → Option (List MapEntry)
  | .map none => some []
  | .map (some r) => mapAt st r fun es _ => some es
  | _ => none

def foundOr (P : Program) (t : TypeId) : Option (Nat × Value) → Option (Value × Bool)
  | some (_, v) => some (v, true)
  | none => ob (zeroP P t) fun z => some (z, false)

def lookupV (P : Program) (st : St) (t : TypeId) (x k : Value) (commaOk : Bool) : Option Value :=
  ob (mapKV P t) fun kv => gd (keyDesc P kv.1 k) (
  ob (entriesOf st x) fun es => ob (findM k es 0) fun r =>
  ob (foundOr P kv.2 r) fun p =>
  some (if commaOk then .tuple ⟨[p.1, .bool p.2]⟩ else p.1))

def updV (P : Program) (st : St) (t : TypeId) (x k v : Value) : Option St :=
  ob (mapKV P t) fun kv => gd (keyDesc P kv.1 k) (
  match x with
  | .map (some r) => mapAt st r fun es clock => ob (findM k es 0) fun f =>
    match f with
    | some (i, _) => some (st.setB r (.map (es.modify i fun e => { e with key := k, val := v }) clock))
    | none => some (st.setB r (.map (es ++ [{ key := k, val := v, born := clock }]) (clock + 1)))
  | _ => none)

def delV (P : Program) (st : St) (ts : List TypeId) (args : List Value) : Option (Value × St) :=
  match ts, args with
  | t :: _, x :: k :: _ =>
    ob (mapKV P t) fun kv => gd (keyDesc P kv.1 k) (
    match x with
    | .map none => some (undef, st)
    | .map (some r) => mapAt st r fun es clock => ob (findM k es 0) fun f =>
      match f with
      | some (i, _) => some (undef, st.setB r (.map (es.eraseIdx i) clock))
      | none => some (undef, st.setB r (.map es clock))
    | _ => none)
  | _, _ => none

def rangeV (P : Program) (st : St) (t : TypeId) (x : Value) : Option (Value × St) :=
  match mapKV P t, x with
  | some _, .map none => some (.pointer (some ⟨st.nxt, 0, none⟩), st.push (.iter none 0 [] 0))
  | some _, .map (some r) => mapAt st r fun _ clock => some (.pointer (some ⟨st.nxt, 0, none⟩), st.push (.iter (some r) clock [] clock))
  | _, _ => none

def nextM (st : St) (r mp since : Nat) (seen : List Nat) (last : Nat) (es : List MapEntry) (clock : Nat) : Option (Value × St) :=
  if !seen.isEmpty && !es.isEmpty && es.all (·.born ≥ last) then none else
  match es.filter fun e => !seen.contains e.born with
  | [] => some (.tuple ⟨[.bool false]⟩, st)
  | [e] => if e.born < since then some (.tuple ⟨[.bool true, e.key, e.val]⟩, st.setB r (.iter (some mp) since (seen ++ [e.born]) clock)) else none
  | _ => none

def nextV (st : St) (x : Value) (isString : Bool) : Option (Value × St) :=
  if isString then none else
  match x with
  | .pointer (some ⟨r, 0, none⟩) =>
    ob (st.mem.get r) fun b => match b with
    | .iter none _ _ _ => some (.tuple ⟨[.bool false]⟩, st)
    | .iter (some mp) since seen last => mapAt st mp (nextM st r mp since seen last)
    | _ => none
  | _ => none

def entryV (st : St) (x : Value) : Option Value :=
  match x with
  | .pointer (some ⟨r, 0, none⟩) =>
    ob (st.mem.get r) fun b => match b with
    | .iter (some mp) _ seen stepped => ob seen.getLast? fun stamp => mapAt st mp fun es clock =>
      gd (clock == stepped) (ob (es.find? (·.born == stamp)) fun e => some (.tuple ⟨[e.key, e.val]⟩))
    | _ => none
  | _ => none

/-! ## building -/
def setL (l : List Value) (off : Nat) (vs : List Value) : List Value := l.take off ++ vs ++ l.drop (off + vs.length)

def buildL (place : Nat → Option (Nat × Nat)) (cells : List Value) : List (Nat × Value) → Option (List Value)
  | [] => some cells
  | (i, v) :: rest => ob (place i) fun p =>
    if (cellsL v).length ≠ p.2 || p.1 + (cellsL v).length > cells.length then none
    else buildL place (setL cells p.1 (cellsL v)) rest

def placeOf (P : Program) (t : TypeId) (i : Nat) : Option (Nat × Nat) :=
  match P.underlying t with
  | some (.struct fs) => ob fs[i]? fun f => ob (sz P f.type) fun n => some (f.offset, n)
  | some (.array _ e) => ob (sz P e) fun n => some (i * n, n)
  | _ => none
/-- every field's type has a size -/
def fieldsSized (P : Program) (t : TypeId) : Bool :=
  match P.underlying t with
  | some (.struct fs) => fs.toList.all fun f => (sz P f.type).isSome
  | some (.array _ e) => (sz P e).isSome
  | _ => false

def evParts (A : T Value) (ps : Array (Nat × Operand)) : List (Nat × Value) := ps.toList.map fun p => (p.1, ev A p.2)

def buildV (P : Program) (t : TypeId) (parts : List (Nat × Value)) : Option Value :=
  gd (fieldsSized P t) (ob (zeroP P t) fun z => ob (buildL (placeOf P t) (cellsL z) parts) fun l => some (.agg ⟨l⟩))

/-! ## what an operation does. Four classes: it looks at no memory (0), it only makes a block (1), it only reads (2), the others (3) -/
structure NewV where
  b : Nat → Blk
  v : Nat → Value

def fieldV (P : Program) (t : TypeId) (f : Nat) (x : Value) : Option Value :=
  ob (fieldOf P t f) fun fd => ob (asA x) fun l => partL P fd.type l fd.offset

def fieldAddrV (P : Program) (t : TypeId) (f : Nat) (x : Value) : Option Value :=
  ob (offOf P t f) fun off => ob (asP x) fun a => some (.pointer (some (a.add off)))

def inB (i : Int) (len : Nat) : Option Nat := Int.rec (motive := fun _ => Nat → Option Nat) (fun i len => bsel (Nat.blt i len) none (some i)) (fun _ _ => none) i len

def arrOf (P : Program) (t : TypeId) : Option (Nat × Nat) :=
  match P.underlying t with
  | some (.array len e) => (sz P e).map fun n => (len, n)
  | _ => none
def sliceSz (P : Program) (t : TypeId) : Option Nat :=
  match P.underlying t with
  | some (.slice e) => sz P e
  | _ => none
def idxP (P : Program) (t : TypeId) (i : Int) (a : Addr) : Option Value := ob (arrOf P t) fun p => ob (inB i p.1) fun i => some (.pointer (some (a.add (i * p.2))))
def idxS (P : Program) (t : TypeId) (i : Int) (len : Nat) (a : Addr) : Option Value := ob (sliceSz P t) fun n => ob (inB i len) fun i => some (.pointer (some (a.add (i * n))))
def indexAddrX (P : Program) (t : TypeId) (x : Value) (i : Int) : Option Value :=
  (Value.rec (motive_1 := fun _ => Program → TypeId → Int → Option Value) (motive_2 := fun _ => Unit) (motive_3 := fun _ => Unit) (fun _ => fun _ _ _ => none) (fun _ _ => fun _ _ _ => none) (fun _ _ => fun _ _ _ => none) (fun _ _ _ => fun _ _ _ => none) (fun _ => fun _ _ _ => none) (fun a => fun P t i => ob a (idxP P t i)) (fun a len _ => fun P t i => ob a (idxS P t i len)) (fun _ => fun _ _ _ => none) (fun _ => fun _ _ _ => none) (fun _ _ _ _ _ => fun _ _ _ => none) (fun _ _ _ => none) (fun _ _ _ => fun _ _ _ => none) (fun _ _ _ => none) (fun _ _ => fun _ _ _ => none) (fun _ _ => fun _ _ _ => none) (fun _ _ => ()) () (fun _ _ _ _ => ()) x) P t i
def indexAddrV (P : Program) (t : TypeId) (x ix : Value) : Option Value := ob (asI ix) (indexAddrX P t x)

def indexV (P : Program) (t : TypeId) (x ix : Value) : Option Value :=
  ob (asI ix) fun i =>
  match P.underlying t, x with
  | some (.array len e), .agg cs => ob (inB i len) fun i => ob (sz P e) fun n => partL P e cs.toList (i * n)
  | some .string, .string s => ob (inB i s.size) fun i => ob (s.data.toList[i]?) fun b => some (.int .u8 b.toNat)
  | _, _ => none

def convPure (P : Program) (src dst : TypeId) (x : Value) : Option Value :=
  match P.underlying src, P.underlying dst, x with
  | some _, some (.int k), .int _ n => some (.int k (wrapF k n))
  | some _, some (.int k), .float q i => symV (.conv k) (.float q i) (.float q i)
  | some _, some .string, .string s => some (.string s)
  | _, _, _ => none

/-- 0 pure, 2 read, 3 other -/
def convCls (P : Program) (src dst : TypeId) : Nat :=
  match P.underlying src, P.underlying dst with
  | some (.slice _), some .string => 2
  | some .string, some (.slice _) => 3
  | _, _ => 0

def lenPure (P : Program) (ts : List TypeId) (args : List Value) : Option Value :=
  match ts, args with
  | t :: _, x :: _ =>
    match P.underlying t, x with
    | some .string, .string s => some (goInt s.size)
    | some (.array n _), _ => some (goInt n)
    | some (.slice _), .slice _ n _ => some (goInt n)
    | _, _ => none
  | _, _ => none

def isMapT (P : Program) (ts : List TypeId) : Bool :=
  match ts with
  | t :: _ => (mapKV P t).isSome
  | [] => false

def lenMap (P : Program) (st : St) (ts : List TypeId) (args : List Value) : Option Value :=
  match args with
  | x :: _ => gd (isMapT P ts) (ob (entriesOf st x) fun es => some (goInt es.length))
  | [] => none

def min2 : Value → Value → Option Value
  | .int k x, .int _ y => some (.int k (if ltI y x then y else x))
  | _, _ => none
def max2 : Value → Value → Option Value
  | .int k x, .int _ y => some (.int k (if ltI x y then y else x))
  | _, _ => none
def foldV (f : Value → Value → Option Value) : Value → List Value → Option Value
  | v, [] => some v
  | v, x :: r => ob (f v x) fun u => foldV f u r
def minmaxV (f : Value → Value → Option Value) : List Value → Option Value
  | [] => none
  | x :: r => foldV f x r

/-- of two, one of which is not known -/
def mmV (op : SOp) (f : Value → Value → Option Value) (l : List Value) : Option Value :=
  match l with
  | [x, y] => bsel (isSym x || isSym y) (minmaxV f [x, y]) (symV op x y)
  | l => minmaxV f l

/-- the function behind a method of a pointer, asked for by name through an interface -/
def methF (P : Program) (t : TypeId) (name : String) : Option FuncId :=
  match P.info? t with
  | none => none
  | some i => match i.methods.find? (·.name == name) with
    | none => none
    | some m => match m.func, m.path.toList, i.desc with
      | some (f, true), [], .pointer _ => some f
      | _, _, _ => none
def nilChkM (P : Program) (n : String) (first : List Value) (v : Value) : Option Value :=
  match first with
  | .iface t _ :: _ => ob (methF P t n) fun _ => some v
  | _ => none
def nilChkF (P : Program) (fn : Fn) (first : Array Value) (v : Value) : Option Value :=
  match fn with
  | .func _ => some v
  | .yield _ => some v
  | .method n => nilChkM P n first.toList v
  | _ => none
def nilChk (P : Program) (v : Value) : Option Value :=
  (Value.rec (motive_1 := fun _ => Value → Option Value) (motive_2 := fun _ => Unit) (motive_3 := fun _ => Unit) (fun _ => fun v => some v) (fun _ _ => fun v => some v) (fun _ _ => fun v => some v) (fun _ _ _ => fun v => some v) (fun _ => fun v => some v) (fun a => fun v => ob a fun _ => some v) (fun _ _ _ => fun v => some v) (fun _ => fun v => some v) (fun _ => fun v => some v) (fun fn first _ _ _ => fun v => nilChkF P fn first v) (fun _ => none) (fun _ _ _ => fun v => some v) (fun _ => none) (fun _ _ => fun v => some v) (fun _ _ => fun v => some v) (fun _ _ => ()) () (fun _ _ _ _ => ()) v) v

def sliceStr (P : Program) (t : TypeId) : Bool :=
  match P.underlying t with
  | some .string => true
  | _ => false

def clsC (P : Program) (c : Call) : Nat :=
  match c.callee with
  | .builtin .len => if isMapT P c.argTypes.toList then 2 else 0
  | .builtin .min => 0
  | .builtin .max => 0
  | _ => 3

def cls (P : Program) : Op → Nat
  | .move _ | .assign _ | .pick .. | .build .. | .nilCheck _ | .binOp .. | .unOp .. | .makeInterface .. | .makeFunc .. | .fieldAddr .. | .field .. | .indexAddr .. | .index .. | .extract .. => 0
  | .alloc _ | .box .. | .buildSlice .. | .makeMap .. | .makeSlice .. => 1
  | .load .. | .lookup .. | .entry _ => 2
  | .slice t .. => if sliceStr P t then 0 else 2
  | .convert s d _ => convCls P s d
  | .call c => clsC P c
  | _ => 3

def pickV (A : T Value) (a b : Operand) (t : Bool) : Option Value := bsel t (some (ev A b)) (some (ev A a))
def makeFuncV (fn : Fn) (first cap : List Value) : Option Value :=
  match fn with
  | .func f => some (.func (.func f) ⟨first⟩ ⟨cap⟩)
  | .method f => some (.func (.method f) ⟨first⟩ ⟨cap⟩)
  | _ => none
def callPure (P : Program) (c : Call) (A : T Value) : Option Value :=
  match c.callee with
  | .builtin .len => lenPure P c.argTypes.toList (c.args.toList.map (ev A))
  | .builtin .min => mmV .min min2 (c.args.toList.map (ev A))
  | .builtin .max => mmV .max max2 (c.args.toList.map (ev A))
  | _ => none
def extractV (i : Nat) (v : Value) : Option Value := ob (asT v) fun l => l[i]?

def evPure (o : Op) : Program → T Value → Option Value :=
  Op.rec (motive := fun _ => Program → T Value → Option Value)
    (fun x => fun _ A => some (ev A x))
    (fun x => fun _ A => some (ev A x))
    (fun c a b => fun _ A => ob (asB (ev A c)) (pickV A a b))
    (fun _ => fun _ _ => none)
    (fun _ _ => fun _ _ => none)
    (fun t ps => fun P A => buildV P t (evParts A ps))
    (fun _ _ _ => fun _ _ => none)
    (fun _ _ _ _ => fun _ _ => none)
    (fun _ _ => fun _ _ => none)
    (fun _ _ _ => fun _ _ => none)
    (fun _ => fun _ _ => none)
    (fun _ => fun _ _ => none)
    (fun x => fun P A => nilChk P (ev A x))
    (fun op t x y _ => fun P A => binA (isConst x || isConst y) P op t (ev A x) (ev A y))
    (fun op _ x => fun _ A => unV op (ev A x))
    (fun s d x => fun P A => convPure P s d (ev A x))
    (fun _ _ => fun _ _ => none)
    (fun t x => fun P A => mkIface P t (ev A x))
    (fun fn first cap => fun _ A => makeFuncV fn (first.toList.map (ev A)) (cap.toList.map (ev A)))
    (fun _ _ => fun _ _ => none)
    (fun _ _ => fun _ _ => none)
    (fun _ _ _ => fun _ _ => none)
    (fun t x lo hi mx => fun P A => sliceS P t (ev A x) (lo.map (ev A)) (hi.map (ev A)) (mx.map (ev A)))
    (fun t x f => fun P A => fieldAddrV P t f (ev A x))
    (fun t x f => fun P A => fieldV P t f (ev A x))
    (fun t x i => fun P A => indexAddrV P t (ev A x) (ev A i))
    (fun t x i => fun P A => indexV P t (ev A x) (ev A i))
    (fun _ _ _ _ => fun _ _ => none)
    (fun _ _ _ _ => fun _ _ => none)
    (fun _ _ _ => fun _ _ => none)
    (fun _ _ _ _ => fun _ _ => none)
    (fun _ _ => fun _ _ => none)
    (fun _ _ => fun _ _ => none)
    (fun _ => fun _ _ => none)
    (fun _ _ _ _ => fun _ _ => none)
    (fun t i => fun _ A => extractV i (ev A t))
    (fun c => fun P A => callPure P c A)
    (fun _ => fun _ _ => none)
    (fun _ => fun _ _ => none)
    (fun _ => fun _ _ => none)
    (fun _ _ => fun _ _ => none)
    (fun _ _ _ => fun _ _ => none)
    (fun _ _ => fun _ _ => none) o

def ptrTo (id : Nat) : Value := .pointer (some ⟨id, 0, none⟩)
def newCells (l : List Value) : Nat → Blk := fun _ => .cells l.length (fillT l 0 .lf)

/-- the zero cells of n elements of type e -/
def zeros (P : Program) (e : TypeId) (size n : Nat) : Option (List Value) :=
  if n * size = 0 then some [] else ob (zeroP P e) fun z => gd (Nat.beq (cellsL z).length size) (some (repL (cellsL z) n))

def fillParts (size : Nat) : List (Nat × Value) → T Value → Option (T Value)
  | [], c => some c
  | (i, v) :: rest, c => gd (Nat.beq (cellsL v).length size) (fillParts size rest (fillT (cellsL v) (i * size) c))

def tagCells (e : TypeId) (l : List Value) : Nat → Blk := fun _ => .cells l.length ((fillT l 0 .lf).put (some (.float .f64 e)) tagI)
def allocV (P : Program) (e : TypeId) : Option NewV :=
  ob (zeroP P e) fun z => some ⟨bsel (OTab.tags.any (Nat.beq e) && Nat.ble (cellsL z).length tagI) (newCells (cellsL z)) (tagCells e (cellsL z)), ptrTo⟩
def boxV (v : Value) : Option NewV := gd ((cellsL v).all isCell) (some ⟨newCells (cellsL v), ptrTo⟩)
def buildSliceV (P : Program) (t : TypeId) (len : Nat) (parts : List (Nat × Value)) : Option NewV :=
  ob (sliceElem P t) fun e => ob (sz P e) fun size =>
  gd (Nat.ble (len * size) 16777216 && parts.all (fun p => Nat.blt p.1 len)) (
  gd (parts.all fun p => (cellsL p.2).all isCell) (
  ob (zeros P e size len) fun zs =>
  ob (fillParts size parts (fillT zs 0 .lf)) fun c =>
  some ⟨fun _ => .cells (len * size) c, fun id => .slice (some ⟨id, 0, none⟩) len (2 * len + 1)⟩))
def newMap : NewV := ⟨fun _ => .map [] 0, fun id => .map (some id)⟩
def makeMapV (P : Program) (A : T Value) (t : TypeId) : Option Operand → Option NewV
  | none => some newMap
  | some h => ob (mapKV P t) fun _ => ob (asI (ev A h)) fun _ => some newMap
def makeSliceV (P : Program) (t : TypeId) (l c : Value) : Option NewV :=
  ob (sliceElem P t) fun e => ob (sz P e) fun size => ob (bytesOf P e) fun bytes =>
  ob (asI l) fun l => ob (asI c) fun c =>
  gd (!ltI l 0 && !ltI c l && ltI c 1099511627776 && Nat.ble (bytes * c.toNat) 1099511627776) (
  ob (zeros P e size c.toNat) fun zs =>
  some ⟨fun _ => .cells (c.toNat * size) (fillT zs 0 .lf), fun id => .slice (some ⟨id, 0, none⟩) l.toNat (2 * c.toNat + 1)⟩)

def evNew (o : Op) : Program → T Value → Option NewV :=
  Op.rec (motive := fun _ => Program → T Value → Option NewV)
    (fun _ => fun _ _ => none)
    (fun _ => fun _ _ => none)
    (fun _ _ _ => fun _ _ => none)
    (fun e => fun P _ => allocV P e)
    (fun _ x => fun _ A => boxV (ev A x))
    (fun _ _ => fun _ _ => none)
    (fun t len ps => fun P A => buildSliceV P t len (evParts A ps))
    (fun _ _ _ _ => fun _ _ => none)
    (fun _ _ => fun _ _ => none)
    (fun _ _ _ => fun _ _ => none)
    (fun _ => fun _ _ => none)
    (fun _ => fun _ _ => none)
    (fun _ => fun _ _ => none)
    (fun _ _ _ _ _ => fun _ _ => none)
    (fun _ _ _ => fun _ _ => none)
    (fun _ _ _ => fun _ _ => none)
    (fun _ _ => fun _ _ => none)
    (fun _ _ => fun _ _ => none)
    (fun _ _ _ => fun _ _ => none)
    (fun t r => fun P A => makeMapV P A t r)
    (fun _ _ => fun _ _ => none)
    (fun t l c => fun P A => makeSliceV P t (ev A l) (ev A c))
    (fun _ _ _ _ _ => fun _ _ => none)
    (fun _ _ _ => fun _ _ => none)
    (fun _ _ _ => fun _ _ => none)
    (fun _ _ _ => fun _ _ => none)
    (fun _ _ _ => fun _ _ => none)
    (fun _ _ _ _ => fun _ _ => none)
    (fun _ _ _ _ => fun _ _ => none)
    (fun _ _ _ => fun _ _ => none)
    (fun _ _ _ _ => fun _ _ => none)
    (fun _ _ => fun _ _ => none)
    (fun _ _ => fun _ _ => none)
    (fun _ => fun _ _ => none)
    (fun _ _ _ _ => fun _ _ => none)
    (fun _ _ => fun _ _ => none)
    (fun _ => fun _ _ => none)
    (fun _ => fun _ _ => none)
    (fun _ => fun _ _ => none)
    (fun _ => fun _ _ => none)
    (fun _ _ => fun _ _ => none)
    (fun _ _ _ => fun _ _ => none)
    (fun _ _ => fun _ _ => none) o

def bytesL : List Value → Option (List UInt8)
  | [] => some []
  | .int .u8 n :: r => ob (bytesL r) fun l => some (UInt8.ofNat n.toNat :: l)
  | _ :: _ => none

def toStr (P : Program) (st : St) (src dst : TypeId) (x : Value) : Option Value :=
  match P.underlying src, P.underlying dst, x with
  | some (.slice e), some .string, .slice none 0 0 => if P.underlying e matches some (.int .u8) then some (.string ⟨#[]⟩) else none
  | some (.slice e), some .string, .slice (some a) len _ => if P.underlying e matches some (.int .u8) then ob (loadN st a len) fun l => ob (bytesL l) fun bs => some (.string ⟨⟨bs⟩⟩) else none
  | _, _, _ => none

def evRead (o : Op) : Program → T Value → St → Option Value :=
  Op.rec (motive := fun _ => Program → T Value → St → Option Value)
    (fun _ => fun _ _ _ => none)
    (fun _ => fun _ _ _ => none)
    (fun _ _ _ => fun _ _ _ => none)
    (fun _ => fun _ _ _ => none)
    (fun _ _ => fun _ _ _ => none)
    (fun _ _ => fun _ _ _ => none)
    (fun _ _ _ => fun _ _ _ => none)
    (fun _ _ _ _ => fun _ _ _ => none)
    (fun t a => fun P A st => ob (asP (ev A a)) (loadV P st t))
    (fun _ _ _ => fun _ _ _ => none)
    (fun _ => fun _ _ _ => none)
    (fun _ => fun _ _ _ => none)
    (fun _ => fun _ _ _ => none)
    (fun _ _ _ _ _ => fun _ _ _ => none)
    (fun _ _ _ => fun _ _ _ => none)
    (fun s d x => fun P A st => toStr P st s d (ev A x))
    (fun _ _ => fun _ _ _ => none)
    (fun _ _ => fun _ _ _ => none)
    (fun _ _ _ => fun _ _ _ => none)
    (fun _ _ => fun _ _ _ => none)
    (fun _ _ => fun _ _ _ => none)
    (fun _ _ _ => fun _ _ _ => none)
    (fun t x lo hi mx => fun P A st => sliceV P st t (ev A x) (lo.map (ev A)) (hi.map (ev A)) (mx.map (ev A)))
    (fun _ _ _ => fun _ _ _ => none)
    (fun _ _ _ => fun _ _ _ => none)
    (fun _ _ _ => fun _ _ _ => none)
    (fun _ _ _ => fun _ _ _ => none)
    (fun t x k ok => fun P A st => lookupV P st t (ev A x) (ev A k) ok)
    (fun _ _ _ _ => fun _ _ _ => none)
    (fun _ _ _ => fun _ _ _ => none)
    (fun _ _ _ _ => fun _ _ _ => none)
    (fun _ _ => fun _ _ _ => none)
    (fun _ _ => fun _ _ _ => none)
    (fun it => fun _ A st => entryV st (ev A it))
    (fun _ _ _ _ => fun _ _ _ => none)
    (fun _ _ => fun _ _ _ => none)
    (fun c => fun P A st => lenMap P st c.argTypes.toList (c.args.toList.map (ev A)))
    (fun _ => fun _ _ _ => none)
    (fun _ => fun _ _ _ => none)
    (fun _ => fun _ _ _ => none)
    (fun _ _ => fun _ _ _ => none)
    (fun _ _ _ => fun _ _ _ => none)
    (fun _ _ => fun _ _ _ => none) o

abbrev CallF : Type := Value → List Value → St → Option (Value × St)

structure Env where
  call : CallF
  fn : FuncId
  n : Nat
  rnd : Option Nat

def copyV (P : Program) (st : St) (ts : List TypeId) (args : List Value) : Option (Value × St) :=
  match ts, args with
  | t :: _, d :: s :: _ =>
    ob (sliceElem P t) fun e => ob (sz P e) fun size => ob (lenV s) fun ls =>
    match d with
    | .slice base dl _ =>
      if Nat.min ls dl = 0 then some (goInt (Nat.min ls dl), st) else
      ob (firstL st size (Nat.min ls dl) s) fun cells => gd (cells.all isCell) (
      ob base fun a => ob (storeN st a cells) fun st' => some (goInt (Nat.min ls dl), st'))
    | _ => none
  | _, _ => none

def toBytes (P : Program) (st : St) (src dst : TypeId) (x : Value) : Option (Value × St) :=
  match P.underlying src, P.underlying dst, x with
  | some .string, some (.slice e), .string s =>
    if P.underlying e matches some (.int .u8) then
      some (.slice (some ⟨st.nxt, 0, none⟩) s.size 2, st.push (.cells s.size (fillT (s.data.toList.map fun b => .int .u8 b.toNat) 0 .lf)))
    else none
  | _, _, _ => none

def retU (r : Option St) : Option (Value × St) := ob r fun st => some (undef, st)

def callGen (P : Program) (c : Call) (E : Env) (A : T Value) (st : St) : Option (Value × St) :=
  match c.callee with
  | .value f => E.call (ev A f) (c.args.toList.map (ev A)) st
  | .invoke r n => E.call (.func (.method n) #[] #[]) (ev A r :: c.args.toList.map (ev A)) st
  | .builtin .append => appendV P st c.argTypes.toList (c.args.toList.map (ev A))
  | .builtin .copy => copyV P st c.argTypes.toList (c.args.toList.map (ev A))
  | .builtin .delete => delV P st c.argTypes.toList (c.args.toList.map (ev A))
  | _ => none

def storeAtV (P : Program) (t : TypeId) (st : St) (v : Value) (a : Addr) : Option (Value × St) := retU (storeV P st t a v)

def evGen (o : Op) : Program → Env → T Value → St → Option (Value × St) :=
  Op.rec (motive := fun _ => Program → Env → T Value → St → Option (Value × St))
    (fun _ => fun _ _ _ _ => none)
    (fun _ => fun _ _ _ _ => none)
    (fun _ _ _ => fun _ _ _ _ => none)
    (fun _ => fun _ _ _ _ => none)
    (fun _ _ => fun _ _ _ _ => none)
    (fun _ _ => fun _ _ _ _ => none)
    (fun _ _ _ => fun _ _ _ _ => none)
    (fun t m k x => fun P _ A st => retU (updV P st t (ev A m) (ev A k) (ev A x)))
    (fun _ _ => fun _ _ _ _ => none)
    (fun t a x => fun P _ A st => ob (asP (ev A a)) (storeAtV P t st (ev A x)))
    (fun _ => fun _ _ _ _ => none)
    (fun _ => fun _ _ _ _ => none)
    (fun _ => fun _ _ _ _ => none)
    (fun _ _ _ _ _ => fun _ _ _ _ => none)
    (fun _ _ _ => fun _ _ _ _ => none)
    (fun s d x => fun P _ A st => toBytes P st s d (ev A x))
    (fun _ _ => fun _ _ _ _ => none)
    (fun _ _ => fun _ _ _ _ => none)
    (fun _ _ _ => fun _ _ _ _ => none)
    (fun _ _ => fun _ _ _ _ => none)
    (fun _ _ => fun _ _ _ _ => none)
    (fun _ _ _ => fun _ _ _ _ => none)
    (fun _ _ _ _ _ => fun _ _ _ _ => none)
    (fun _ _ _ => fun _ _ _ _ => none)
    (fun _ _ _ => fun _ _ _ _ => none)
    (fun _ _ _ => fun _ _ _ _ => none)
    (fun _ _ _ => fun _ _ _ _ => none)
    (fun _ _ _ _ => fun _ _ _ _ => none)
    (fun t m k x => fun P _ A st => retU (updV P st t (ev A m) (ev A k) (ev A x)))
    (fun _ _ _ => fun _ _ _ _ => none)
    (fun _ _ _ _ => fun _ _ _ _ => none)
    (fun t x => fun P _ A st => rangeV P st t (ev A x))
    (fun it s => fun _ _ A st => nextV st (ev A it) s)
    (fun _ => fun _ _ _ _ => none)
    (fun _ _ _ _ => fun _ _ _ _ => none)
    (fun _ _ => fun _ _ _ _ => none)
    (fun c => fun P E A st => callGen P c E A st)
    (fun _ => fun _ _ _ _ => none)
    (fun _ => fun _ _ _ _ => none)
    (fun _ => fun _ _ _ _ => none)
    (fun _ _ => fun _ _ _ _ => none)
    (fun _ _ _ => fun _ _ _ _ => none)
    (fun _ _ => fun _ _ _ _ => none) o

def mkNew (st : St) (v : NewV) : Option (Value × St) := some (v.v st.nxt, st.push (v.b st.nxt))
def mkVal (st : St) (v : Value) : Option (Value × St) := some (v, st)

def byPure (o : Op) (P : Program) (_ : Env) (A : T Value) (st : St) : Option (Value × St) := ob (evPure o P A) (mkVal st)
def byNew (o : Op) (P : Program) (_ : Env) (A : T Value) (st : St) : Option (Value × St) := ob (evNew o P A) (mkNew st)
def byRead (o : Op) (P : Program) (_ : Env) (A : T Value) (st : St) : Option (Value × St) := ob (evRead o P A st) (mkVal st)

def byCls (c : Nat) : Op → Program → Env → T Value → St → Option (Value × St) :=
  Nat.rec (motive := fun _ => Op → Program → Env → T Value → St → Option (Value × St)) byPure
    (fun c _ => Nat.rec (motive := fun _ => Op → Program → Env → T Value → St → Option (Value × St)) byNew
      (fun c _ => Nat.rec (motive := fun _ => Op → Program → Env → T Value → St → Option (Value × St)) byRead (fun _ _ => evGen) c) c) c

def evOp (P : Program) (o : Op) (E : Env) (A : T Value) (st : St) : Option (Value × St) := byCls (cls P o) o P E A st

/-! ## code -/
inductive Ex where
  | normal
  | exit (id : Nat)
  | ret

structure Res where
  ex : Ex
  A : T Value
  dm : List Nat
  st : St

def putA (A : T Value) (dst : Option Tmp) (v : Value) : T Value := Option.rec (motive := fun _ => T Value → Value → T Value) (fun A _ => A) (fun d A v => A.put (some v) d) dst A v

def isB (v : Value) (want : Bool) : Bool := (Value.rec (motive_1 := fun _ => Bool → Bool) (motive_2 := fun _ => Unit) (motive_3 := fun _ => Unit) (fun b => fun w => b == w) (fun _ _ => fun _ => false) (fun _ _ => fun _ => false) (fun _ _ _ => fun _ => false) (fun _ => fun _ => false) (fun _ => fun _ => false) (fun _ _ _ => fun _ => false) (fun _ => fun _ => false) (fun _ => fun _ => false) (fun _ _ _ _ _ => fun _ => false) (fun _ => false) (fun _ _ _ => fun _ => false) (fun _ => false) (fun _ _ => fun _ => false) (fun _ _ => fun _ => false) (fun _ _ => ()) () (fun _ _ _ _ => ()) v) want

def dstOf (ops : Array Oper) (j : Nat) : Option Tmp := (ops[j]?).bind (·.dst)
def wantedD (A : T Value) (want : Bool) (d : Option Tmp) : Bool := Option.rec (motive := fun _ => Bool) false (fun d => isB (tg A d) want) d
def wantedA (ops : Array Oper) (A : T Value) (g : Option (Nat × Bool)) : Bool :=
  Option.rec (motive := fun _ => Array Oper → T Value → Bool) (fun _ _ => true) (fun p ops A => wantedD A p.2 (dstOf ops p.1)) g ops A

/-- look at a value, then go on with it: so nothing that was put off piles up -/
def fz {β : Type} (v : Value) (k : Value → Option β) : Option β :=
  (Value.rec (motive_1 := fun _ => (Value → Option β) → Option β) (motive_2 := fun _ => Unit) (motive_3 := fun _ => Unit) (fun b => fun k => bsel b (k (.bool false)) (k (.bool true))) (fun kd n => fun k => Int.rec (motive := fun _ => Option β) (fun m => bsel (Nat.ble m m) none (k (.int kd (.ofNat m)))) (fun m => bsel (Nat.ble m m) none (k (.int kd (.negSucc m)))) n) (fun a b => fun k => k (.float a b)) (fun a b c => fun k => k (.complex a b c)) (fun s => fun k => k (.string s)) (fun a => fun k => k (.pointer a)) (fun a l c => fun k => k (.slice a l c)) (fun r => fun k => k (.map r)) (fun r => fun k => k (.chan r)) (fun f a b _ _ => fun k => k (.func f a b)) (fun k => k .nilFunc) (fun t v _ => fun k => k (.iface t v)) (fun k => k .nilIface) (fun c _ => fun k => k (.agg c)) (fun c _ => fun k => k (.tuple c)) (fun _ _ => ()) () (fun _ _ _ _ => ()) v) k

def fzN {β : Type} (n : Nat) (k : Option β) : Option β := bsel (Nat.ble n n) none k
def fzM1 {β : Type} (t : D17) (u : T Blk) (k : Mem → Option β) : Option β := N2.rec (motive := fun _ => T Blk → (Mem → Option β) → Option β) (fun l r u k => k ⟨⟨l, r⟩, u⟩) t u k
def fzM {β : Type} (m : Mem) (k : Mem → Option β) : Option β := Mem.rec (motive := fun _ => (Mem → Option β) → Option β) (fun t u k => fzM1 t u k) m k
def fzS1 {β : Type} (nxt low : Nat) (k : St → Option β) (mem : Mem) : Option β := k ⟨mem, nxt, low⟩
def fzS {β : Type} (st : St) (k : St → Option β) : Option β := St.rec (motive := fun _ => (St → Option β) → Option β) (fun mem nxt low k => fzN nxt (fzN low (fzM mem (fzS1 (Nat.add nxt 0) low k)))) st k

structure OpsRes where
  A : T Value
  st : St

def opsK3 (ih : T Value → St → Option OpsRes) (A : T Value) (dst : Option Tmp) (v : Value) (st : St) : Option OpsRes := idd (ih (putA A dst v) st)
def opsK2 (ih : T Value → St → Option OpsRes) (A : T Value) (dst : Option Tmp) (st : St) (v : Value) : Option OpsRes := fzS st (opsK3 ih A dst v)
def opsK (ih : T Value → St → Option OpsRes) (A : T Value) (dst : Option Tmp) (p : Value × St) : Option OpsRes := fz p.1 (opsK2 ih A dst p.2)
def opsStep (P : Program) (E : Env) (ops : Array Oper) (o : Oper) (ih : T Value → St → Option OpsRes) (A : T Value) (st : St) : Option OpsRes :=
  bsel (wantedA ops A o.guard) (idd (ih (putA A o.dst undef) st)) (ob (evOp P o.op E A st) (opsK ih A o.dst))
def evOps (P : Program) (E : Env) (ops : Array Oper) (l : List Oper) : T Value → St → Option OpsRes :=
  List.rec (motive := fun _ => T Value → St → Option OpsRes) (fun A st => some ⟨A, st⟩) (fun o _ ih => opsStep P E ops o ih) l

/-! ## regions that draw their order -/
structure Pend where
  i : Nat
  o : Op
  A : T Value
  v : Value

/-- for each operation, those that must come before it: a set of numbers as bits -/
def ancOf (acc : List Nat) (o : Oper) : Nat :=
  o.after.toList.foldl (fun s e => if Region.binds .any e then s ||| 2 ^ e.on ||| (acc.getD e.on 0) else s) 0
def ancs (ops : List Oper) : List Nat := ops.foldl (fun acc o => acc ++ [ancOf acc o]) []
def ancAt (ops : Array Oper) (i : Nat) : Nat := (ancs ops.toList).getD i 0

def backB (ops : List Oper) : Bool := (ops.zipIdx).all fun p => p.1.after.toList.all fun e => !Region.binds .any e || e.on < p.2
def apartB (ops : Array Oper) : Bool :=
  (ops.toList.zipIdx).all fun p => (ops.toList.zipIdx).all fun q => !(q.2 < p.2) || q.1.apart ops p.1 || (ancAt ops p.2).testBit q.2
def drawB (ops : Array Oper) : Bool := backB ops.toList && apartB ops

def veqS : Value → Value → Bool
  | .bool a, .bool b => a == b
  | .int k a, .int k' b => kindEq k k' && eqI a b
  | .string a, .string b => a.data.toList == b.data.toList
  | .pointer a, .pointer b => a == b
  | .slice a n c, .slice b n' c' => a == b && n == n' && c == c'
  | .map a, .map b => a == b
  | .nilFunc, .nilFunc => true
  | .nilIface, .nilIface => true
  | .float k a, .float k' b => decide (k = k') && Nat.beq a b
  | _, _ => false
def veqL : List Value → List Value → Bool
  | [], [] => true
  | a :: x, b :: y => veqS a b && veqL x y
  | _, _ => false
def veq : Value → Value → Bool
  | .agg a, .agg b => veqL a.toList b.toList
  | .tuple a, .tuple b => veqL a.toList b.toList
  | a, b => veqS a b

def again (P : Program) (st : St) (anc : Nat) (p : Pend) : Bool :=
  anc.testBit p.i || (cls P p.o == 2 && match evRead p.o P p.A st with | some v => veq v p.v | none => false)

def setLow (st : St) (n : Nat) : St := ⟨st.mem, st.nxt, n⟩

abbrev DrawF : Type := T Value → St → List Pend → List Nat → Option OpsRes
def drawQuiet (ih : DrawF) (A : T Value) (oi : Oper × Nat) (c : Nat) (v : Value) (st' : St) (pend : List Pend) (louds : List Nat) : Option OpsRes :=
  fz v fun v => fzS st' fun st' => idd (ih (putA A oi.1.dst v) st' (bsel (Nat.ble c 0) (⟨oi.2, oi.1.op, A, v⟩ :: pend) pend) louds)
def drawLoud (P : Program) (ih : DrawF) (A : T Value) (oi : Oper × Nat) (anc : Nat) (v : Value) (st' : St) (pend : List Pend) (louds : List Nat) : Option OpsRes :=
  gd (pend.all (again P st' anc)) (fz v fun v => fzS st' fun st' => idd (ih (putA A oi.1.dst v) st' pend (oi.2 :: louds)))
def drawK (P : Program) (ops : Array Oper) (oi : Oper × Nat) (ih : DrawF) (A : T Value) (st : St) (pend : List Pend) (louds : List Nat) (p : Value × St) : Option OpsRes :=
  gd (Nat.ble (cls P oi.1.op) 0 || louds.all (fun j => (ancAt ops oi.2).testBit j))
    (bsel (Nat.blt p.2.low st.nxt)
      (drawQuiet ih A oi (cls P oi.1.op) p.1 (setLow p.2 (minN p.2.low st.low)) pend louds)
      (drawLoud P ih A oi (ancAt ops oi.2) p.1 (setLow p.2 (minN p.2.low st.low)) pend louds))
def drawStep (P : Program) (E : Env) (ops : Array Oper) (oi : Oper × Nat) (ih : DrawF) (A : T Value) (st : St) (pend : List Pend) (louds : List Nat) : Option OpsRes :=
  bsel (wantedA ops A oi.1.guard) (idd (ih (putA A oi.1.dst undef) st pend louds))
    (ob (evOp P oi.1.op E A (setLow st st.nxt)) (drawK P ops oi ih A st pend louds))
def evDraws (P : Program) (E : Env) (ops : Array Oper) (l : List (Oper × Nat)) : DrawF :=
  List.rec (motive := fun _ => DrawF) (fun A st _ _ => some ⟨A, st⟩) (fun oi _ ih => drawStep P E ops oi ih) l

def regK (dm : List Nat) (r : OpsRes) : Option Res := some ⟨.normal, r.A, dm, r.st⟩
def evRegion (P : Program) (ops : Array Oper) (draw : Bool) (E : Env) (A : T Value) (dm : List Nat) (st : St) : Option Res :=
  ob (bsel draw (evOps P E ops ops.toList A st) (evDraws P E ops ops.toList.zipIdx A st [] [])) (regK dm)

/-! ## code -/
abbrev CodeF : Type := Env → T Value → List Nat → St → Option Res

def seqK (k : CodeF) (E : Env) (r : Res) : Option Res := Ex.rec (motive := fun _ => CodeF → Env → Res → Option Res) (fun k E r => k E r.A r.dm r.st) (fun _ _ _ r => some r) (fun _ _ r => some r) r.ex k E r
def blockK (id : Nat) (r : Res) : Option Res :=
  Ex.rec (motive := fun _ => Nat → Res → Option Res) (fun _ r => some r) (fun id' id r => bsel (Nat.beq id' id) (some r) (some ⟨.normal, r.A, r.dm, r.st⟩)) (fun _ r => some r) r.ex id r
def condK (t e : CodeF) (E : Env) (A : T Value) (dm : List Nat) (st : St) (b : Bool) : Option Res := bsel b (e E A dm st) (t E A dm st)

def loopN (body : CodeF) (fuel : Nat) : CodeF :=
  Nat.rec (motive := fun _ => CodeF) (fun _ _ _ _ => none) (fun _ ih E A dm st => ob (body E A dm st) (seqK ih E)) fuel

/-- behind the iterator's return -/
def endLoopK (l : Nat) (A : T Value) (dm : List Nat) (p : Value × St) : Option Res :=
  ob (p.2.mem.get l) fun b => match b with
  | .loop r =>
    if r.state == .busy then none else
    match r.pending with
    | none => some ⟨.normal, A, dm, p.2.setB l (.loop { r with state := .exhausted })⟩
    | some .ret => some ⟨.ret, A, dm, p.2.setB l (.loop { r with state := .exhausted })⟩
    | some (.exit id) => some ⟨.exit id, A, dm, p.2.setB l (.loop { r with state := .exhausted })⟩
    | some _ => none
  | _ => none

def rangeFn (f : Operand) (params : Array Tmp) (assign body : Code) (E : Env) (A : T Value) (dm : List Nat) (st : St) : Option Res :=
  match E.rnd with
  | none =>
    ob (E.call (ev A f) [.func (.yield (st.nxt + 1)) #[] #[]] ((st.push .defd).push (.loop ⟨.ready, none, E.fn, A, E.n, params.toList, assign, body, st.nxt⟩)))
      (endLoopK (st.nxt + 1) A (st.nxt :: dm))
  | some l0 =>
    ob (st.mem.get l0) fun b => match b with
    | .loop o =>
      ob (E.call (ev A f) [.func (.yield st.nxt) #[] #[]] (st.push (.loop ⟨.ready, none, E.fn, A, E.n, params.toList, assign, body, o.defers⟩)))
        (endLoopK st.nxt A dm)
    | _ => none

def evCode (P : Program) (c : Code) : CodeF :=
  Code.rec (motive := fun _ => CodeF)
    (fun _ A dm st => some ⟨.normal, A, dm, st⟩)
    (fun _ ops draw => evRegion P ops draw)
    (fun _ _ iha ihb E A dm st => ob (iha E A dm st) (seqK ihb E))
    (fun c _ _ iht ihe E A dm st => ob (asB (ev A c)) (condK iht ihe E A dm st))
    (fun id _ ih E A dm st => ob (ih E A dm st) (blockK id))
    (fun _ ih => loopN ih 1000000)
    (fun f params assign body _ _ => rangeFn f params assign body)
    (fun id _ A dm st => some ⟨.exit id, A, dm, st⟩)
    (fun _ ih => ih)
    (fun _ _ A dm st => some ⟨.normal, A, dm, st⟩)
    (fun _ _ _ _ _ => none)
    (fun _ A dm st => some ⟨.ret, A, dm, st⟩)
    (fun _ _ _ _ _ => none) c

/-! ## what is asked of a text once -/
def opndOk (P : Program) : Operand → Bool
  | .const v => plainC v
  | .global g => Nat.blt g P.globals.size
  | _ => true
def operOk (P : Program) (n : Nat) (o : Oper) : Bool :=
  o.op.operands.toList.all (opndOk P) && (match o.dst with | some d => d < n | none => true)
def codeOk (P : Program) (n : Nat) : Code → Bool
  | .region _ ops draw => ops.toList.all (operOk P n) && (!draw || drawB ops)
  | .seq a b => codeOk P n a && codeOk P n b
  | .cond c a b => opndOk P c && codeOk P n a && codeOk P n b
  | .block _ b => codeOk P n b
  | .loop b => codeOk P n b
  | .rangeFunc f ps a b => opndOk P f && ps.toList.all (· < n) && codeOk P n a && codeOk P n b
  | .scope b => codeOk P n b
  | _ => true

/-! ## calls -/
def resOne (P : Program) (A : T Value) (st : St) : ResultVar → Option Value
  | .tmp t => some (tg A t)
  | .cell a t => ob (asP (tg A a)) fun a => loadV P st t a
def resAll (P : Program) (A : T Value) (st : St) : List ResultVar → Option (List Value)
  | [] => some []
  | r :: rs => ob (resOne P A st r) fun v => ob (resAll P A st rs) fun l => some (v :: l)
def oneOrTuple : List Value → Value
  | [v] => v
  | l => .tuple ⟨l⟩

def dropMarks : List Nat → St → Option St
  | [], st => some st
  | r :: rs, st => ob (st.mem.get r) fun b => match b with
    | .defd => dropMarks rs (st.kill r)
    | _ => none

def retK (P : Program) (rs : List ResultVar) (r : Res) : Option (Value × St) :=
  match r.ex with
  | .exit _ => none
  | _ => ob (dropMarks r.dm r.st) fun st => ob (resAll P r.A st rs) fun l => some (oneOrTuple l, st)

def fnOk (P : Program) (fn : Func) (c : Code) : Bool := codeOk P fn.ntmps c && !(fn.name == "runtime.NumGoroutine") && fn.results.toList.all fun r => match r with | .tmp t => t < fn.ntmps | .cell a _ => a < fn.ntmps

def callFn (P : Program) (call : CallF) (f : FuncId) (args : List Value) (st : St) : Option (Value × St) :=
  ob (P.funcs[f]?) fun fn => ob fn.body fun c =>
  gd (fnOk P fn c) (gd (Nat.ble args.length fn.ntmps)
    (ob (evCode P c ⟨call, f, fn.ntmps, none⟩ (fillT args 0 .lf) [] st) (retK P fn.results.toList)))

/-- behind a round's body -/
def roundK (l : Nat) (r : Res) : Option (Value × St) :=
  match r.dm with
  | _ :: _ => none
  | [] =>
  ob (r.st.mem.get l) fun b => match b with
  | .loop o =>
    match r.ex with
    | .normal => some (.bool true, r.st.setB l (.loop { o with state := .ready, pending := none }))
    | .ret => some (.bool false, r.st.setB l (.loop { o with state := .done, pending := some .ret }))
    | .exit id => some (.bool false, r.st.setB l (.loop { o with state := .done, pending := some (.exit id) }))
  | _ => none

/-- behind a round's assignments -/
def roundBody (P : Program) (call : CallF) (l : Nat) (o : ALoop) (r : Res) : Option (Value × St) :=
  match r.ex with
  | .normal =>
    ob (r.st.mem.get l) fun b => match b with
    | .loop o' => match o'.state with
      | .ready => ob (evCode P o.body ⟨call, o.fn, o.ntm, some l⟩ r.A r.dm (r.st.setB l (.loop { o' with state := .busy }))) (roundK l)
      | _ => none
    | _ => none
  | _ => none

def setParams : List Tmp → List Value → T Value → T Value
  | t :: ts, v :: vs, A => setParams ts vs (A.put (some v) t)
  | _, _, A => A

def loopOk (P : Program) (o : ALoop) : Bool := codeOk P o.ntm o.assign && codeOk P o.ntm o.body && o.params.all (· < o.ntm)

def yieldFn (P : Program) (call : CallF) (l : Nat) (args : List Value) (st : St) : Option (Value × St) :=
  ob (st.mem.get l) fun b => match b with
  | .loop o =>
    gd (Nat.beq args.length o.params.length) (gd (loopOk P o)
      (ob (evCode P o.assign ⟨call, o.fn, o.ntm, some l⟩ (setParams o.params args o.tm) [] st) (roundBody P call l o)))
  | _ => none

/-- the table lies there as it should -/
def hasTab (st : St) (t : Tab) : Bool :=
  match st.mem.get t.g with
  | some (.cells n c) => match takeT c t.vals.length 0 with
    | some l => Nat.ble t.vals.length n && sEqL l t.vals && (c.get roI).isNone
    | none => false
  | _ => false
def findC (P : Program) (f : Nat) (args : List Value) (st : St) : List CRule → Option Value
  | [] => none
  | r :: rs => bsel (Nat.beq r.f f && sEqL r.args args && r.need.all (fun t => Nat.blt t.g P.globals.size && hasTab st t) && plainS r.z) (findC P f args st rs) (some r.z)
def known (P : Program) (f : Nat) (args : List Value) (st : St) : Option Value :=
  match OTab.gen f args with
  | some z => bsel (args.all plainS && plainS z) none (some z)
  | none => findC P f args st OTab.calls
def nstep : NStep → St → Option St
  | .push b, st => some (st.push b)
  | .store a l, st => storeN st a l
  | .drop b, st => cellsAt st b fun _ _ => some (st.kill b)
def nsteps : List NStep → St → Option St
  | [], st => some st
  | s :: l, st => ob (nstep s st) (nsteps l)
def pushes (r : Value × List NStep) (st : St) : Option (Value × St) := ob (nsteps r.2 st) fun st => some (r.1, st)
def callO (P : Program) (call : CallF) (f : FuncId) (args : List Value) (st : St) : Option (Value × St) :=
  match known P f args st with
  | some z => some (z, st)
  | none => match OTab.nat f args st with
    | some r => pushes r st
    | none => callFn P call f args st

def methV (P : Program) (call : CallF) (name : String) (args : List Value) (st : St) : Option (Value × St) :=
  match args with
  | .iface t v :: rest => ob (methF P t name) fun f => callO P call f (v :: rest) st
  | _ => none
def callV (P : Program) (call : CallF) (f : Value) (args : List Value) (st : St) : Option (Value × St) :=
  match f with
  | .func (.func f) first cap => callO P call f (first.toList ++ args ++ cap.toList) st
  | .func (.yield l) first _ => yieldFn P call l (first.toList ++ args) st
  | .func (.method n) first _ => methV P call n (first.toList ++ args) st
  | _ => none

def callN (P : Program) (depth : Nat) : CallF :=
  Nat.rec (motive := fun _ => CallF) (fun _ _ _ => none) (fun _ ih => callV P ih) depth

def run (P : Program) (f : FuncId) (args : List Value) (st : St) : Option (Value × St) := callFn P (callN P 999) f args st

def isTrue (r : Option (Value × St)) : Bool :=
  match r with
  | some (.bool true, _) => true
  | _ => false

end
end Go.Ev
