/-
  A part of the proof that the evaluator answers what the model answers, for every program that follows mixed orders; no other condition.
-/
import Derived.Test.YtnfmgkkhejminaaGreatDoorStEvFastT
import Derived.Test.YtnfmgkkhejminaaGreatDoorStEvRun
import Derived.Test.YtnfmgkkhejminaaGreatDoorStEvCall
namespace Go.Ev
noncomputable section
variable [OTab]
/-- open a box while a text is made ready -/
def ub {α β : Type} (b : Bx α) (k : α → Bx β) : Bx β := Bx.rec (motive := fun _ => Bx β) (fun v => k v) b
def putId (N : F3) (_ : F0) : F3 := N
def cDst (d : Option Tmp) : Bx PutF := match d with
  | none => ⟨putId⟩
  | some k => cPut k

/-! operands -/
def cF0 (x : Operand) : Bx (F3 → F0) := match x with
  | .tmp t => cGet t
  | .const v => ⟨fun _ => ⟨v⟩⟩
  | .global g => ⟨fun _ => ⟨.pointer (some ⟨g, 0, none⟩)⟩⟩
  | .func f => ⟨fun _ => ⟨.func (.func f) #[] #[]⟩⟩
def gvT (g : F3 → F0) (N : F3) : Value := (g N).v
def cVal (x : Operand) : Bx (F3 → Value) := match x with
  | .tmp t => ub (cGet t) fun g => ⟨gvT g⟩
  | .const v => ⟨fun _ => v⟩
  | .global g => ⟨fun _ => .pointer (some ⟨g, 0, none⟩)⟩
  | .func f => ⟨fun _ => .func (.func f) #[] #[]⟩
def consV (x : F3 → Value) (r : F3 → List Value) (N : F3) : List Value := x N :: r N
def nilV (_ : F3) : List Value := []
def cVals : List Operand → Bx (F3 → List Value)
  | [] => ⟨nilV⟩
  | x :: r => ub (cVal x) fun g => ub (cVals r) fun l => ⟨consV g l⟩
def consP (i : Nat) (x : F3 → Value) (r : F3 → List (Nat × Value)) (N : F3) : List (Nat × Value) := (i, x N) :: r N
def nilP (_ : F3) : List (Nat × Value) := []
def cParts : List (Nat × Operand) → Bx (F3 → List (Nat × Value))
  | [] => ⟨nilP⟩
  | p :: r => ub (cVal p.2) fun g => ub (cParts r) fun l => ⟨consP p.1 g l⟩
def someV (x : F3 → Value) (N : F3) : Option Value := some (x N)
def noV (_ : F3) : Option Value := none
def cOpt (x : Option Operand) : Bx (F3 → Option Value) := match x with
  | none => ⟨noV⟩
  | some x => ub (cVal x) fun g => ⟨someV g⟩

/-! what an operation gives -/
def pPick (c a b : (F3 → Value)) (N : F3) : Option Value := ob (asB (c N)) fun t => bsel t (some (b N)) (some (a N))
def pBuild (P : Program) (t : TypeId) (ps : (F3 → List (Nat × Value))) (N : F3) : Option Value := buildV P t (ps N)
def pNil (P : Program) (x : (F3 → Value)) (N : F3) : Option Value := nilChk P (x N)
def pBin (c : Bool) (P : Program) (op : BinOp) (t : TypeId) (x y : (F3 → Value)) (N : F3) : Option Value := binA c P op t (x N) (y N)
def pIface (P : Program) (t : TypeId) (x : (F3 → Value)) (N : F3) : Option Value := mkIface P t (x N)
def pUn (op : UnOp) (x : (F3 → Value)) (N : F3) : Option Value := unV op (x N)
def pConv (P : Program) (s d : TypeId) (x : (F3 → Value)) (N : F3) : Option Value := convPure P s d (x N)
def pFunc (fn : Fn) (f c : (F3 → List Value)) (N : F3) : Option Value := makeFuncV fn (f N) (c N)
def pSlice (P : Program) (t : TypeId) (x : (F3 → Value)) (lo hi mx : (F3 → Option Value)) (N : F3) : Option Value := sliceS P t (x N) (lo N) (hi N) (mx N)
def pFieldA (P : Program) (t : TypeId) (f : Nat) (x : (F3 → Value)) (N : F3) : Option Value := fieldAddrV P t f (x N)
def pField (P : Program) (t : TypeId) (f : Nat) (x : (F3 → Value)) (N : F3) : Option Value := fieldV P t f (x N)
def pIdxA (P : Program) (t : TypeId) (x i : (F3 → Value)) (N : F3) : Option Value := indexAddrV P t (x N) (i N)
def pIdx (P : Program) (t : TypeId) (x i : (F3 → Value)) (N : F3) : Option Value := indexV P t (x N) (i N)
def pExt (i : Nat) (x : (F3 → Value)) (N : F3) : Option Value := extractV i (x N)
def callPureV (P : Program) (ce : Callee) (ts : List TypeId) (l : List Value) : Option Value :=
  match ce with
  | .builtin .len => lenPure P ts l
  | .builtin .min => mmV .min min2 l
  | .builtin .max => mmV .max max2 l
  | _ => none
def pCall (P : Program) (ce : Callee) (ts : List TypeId) (l : (F3 → List Value)) (N : F3) : Option Value := callPureV P ce ts (l N)
def pNone (_ : F3) : Option Value := none
def cPure (P : Program) (o : Op) : Bx (F3 → Option Value) := match o with
  | .move x => ub (cVal x) fun v0 => ⟨someV v0⟩
  | .assign x => ub (cVal x) fun v0 => ⟨someV v0⟩
  | .pick c a b => ub (cVal c) fun v0 => ub (cVal a) fun v1 => ub (cVal b) fun v2 => ⟨pPick v0 v1 v2⟩
  | .build t ps => ub (cParts ps.toList) fun v0 => ⟨pBuild P t v0⟩
  | .nilCheck x => ub (cVal x) fun v0 => ⟨pNil P v0⟩
  | .binOp op t x y _ => ub (cVal x) fun v0 => ub (cVal y) fun v1 => ⟨pBin (isConst x || isConst y) P op t v0 v1⟩
  | .makeInterface t x => ub (cVal x) fun v0 => ⟨pIface P t v0⟩
  | .unOp op _ x => ub (cVal x) fun v0 => ⟨pUn op v0⟩
  | .convert s d x => ub (cVal x) fun v0 => ⟨pConv P s d v0⟩
  | .makeFunc fn f c => ub (cVals f.toList) fun v0 => ub (cVals c.toList) fun v1 => ⟨pFunc fn v0 v1⟩
  | .slice t x lo hi mx => ub (cVal x) fun v0 => ub (cOpt lo) fun v1 => ub (cOpt hi) fun v2 => ub (cOpt mx) fun v3 => ⟨pSlice P t v0 v1 v2 v3⟩
  | .fieldAddr t x f => ub (cVal x) fun v0 => ⟨pFieldA P t f v0⟩
  | .field t x f => ub (cVal x) fun v0 => ⟨pField P t f v0⟩
  | .indexAddr t x i => ub (cVal x) fun v0 => ub (cVal i) fun v1 => ⟨pIdxA P t v0 v1⟩
  | .index t x i => ub (cVal x) fun v0 => ub (cVal i) fun v1 => ⟨pIdx P t v0 v1⟩
  | .extract t i => ub (cVal t) fun v0 => ⟨pExt i v0⟩
  | .call c => ub (cVals c.args.toList) fun v0 => ⟨pCall P c.callee c.argTypes.toList v0⟩
  | _ => ⟨pNone⟩
def nBox (x : (F3 → Value)) (N : F3) : Option NewV := boxV (x N)
def nBuildS (P : Program) (t : TypeId) (len : Nat) (ps : (F3 → List (Nat × Value))) (N : F3) : Option NewV := buildSliceV P t len (ps N)
def makeMapO (P : Program) (t : TypeId) : Option Value → Option NewV
  | none => some newMap
  | some h => ob (mapKV P t) fun _ => ob (asI h) fun _ => some newMap
def nMap (P : Program) (t : TypeId) (r : (F3 → Option Value)) (N : F3) : Option NewV := makeMapO P t (r N)
def nSlice (P : Program) (t : TypeId) (l c : (F3 → Value)) (N : F3) : Option NewV := makeSliceV P t (l N) (c N)
def nNone (_ : F3) : Option NewV := none
def nAlloc (P : Program) (e : TypeId) (_ : F3) : Option NewV := allocV P e
def cNew (P : Program) (o : Op) : Bx (F3 → Option NewV) := match o with
  | .alloc e => ⟨nAlloc P e⟩
  | .box _ x => ub (cVal x) fun v0 => ⟨nBox v0⟩
  | .buildSlice t len ps => ub (cParts ps.toList) fun v0 => ⟨nBuildS P t len v0⟩
  | .makeMap t r => ub (cOpt r) fun v0 => ⟨nMap P t v0⟩
  | .makeSlice t l c => ub (cVal l) fun v0 => ub (cVal c) fun v1 => ⟨nSlice P t v0 v1⟩
  | _ => ⟨nNone⟩
abbrev RdF : Type := F3 → St → Option Value
def rLoad (P : Program) (t : TypeId) (x : (F3 → Value)) (N : F3) (st : St) : Option Value := ob (asP (x N)) (loadV P st t)
def rConv (P : Program) (s d : TypeId) (x : (F3 → Value)) (N : F3) (st : St) : Option Value := toStr P st s d (x N)
def rSlice (P : Program) (t : TypeId) (x : (F3 → Value)) (lo hi mx : (F3 → Option Value)) (N : F3) (st : St) : Option Value := sliceV P st t (x N) (lo N) (hi N) (mx N)
def rLook (P : Program) (t : TypeId) (x k : (F3 → Value)) (ok : Bool) (N : F3) (st : St) : Option Value := lookupV P st t (x N) (k N) ok
def rEntry (x : (F3 → Value)) (N : F3) (st : St) : Option Value := entryV st (x N)
def rLen (P : Program) (ts : List TypeId) (l : (F3 → List Value)) (N : F3) (st : St) : Option Value := lenMap P st ts (l N)
def rNone (_ : F3) (_ : St) : Option Value := none
def cRead (P : Program) (o : Op) : Bx RdF := match o with
  | .load t a => ub (cVal a) fun v0 => ⟨rLoad P t v0⟩
  | .convert s d x => ub (cVal x) fun v0 => ⟨rConv P s d v0⟩
  | .slice t x lo hi mx => ub (cVal x) fun v0 => ub (cOpt lo) fun v1 => ub (cOpt hi) fun v2 => ub (cOpt mx) fun v3 => ⟨rSlice P t v0 v1 v2 v3⟩
  | .lookup t x k ok => ub (cVal x) fun v0 => ub (cVal k) fun v1 => ⟨rLook P t v0 v1 ok⟩
  | .entry it => ub (cVal it) fun v0 => ⟨rEntry v0⟩
  | .call c => ub (cVals c.args.toList) fun v0 => ⟨rLen P c.argTypes.toList v0⟩
  | _ => ⟨rNone⟩
abbrev GenF : Type := Env → F3 → St → Option (Value × St)
def uUpd (P : Program) (t : TypeId) (m k x : (F3 → Value)) (_ : Env) (N : F3) (st : St) : Option (Value × St) := retU (updV P st t (m N) (k N) (x N))
def uStore (P : Program) (t : TypeId) (a x : (F3 → Value)) (_ : Env) (N : F3) (st : St) : Option (Value × St) := ob (asP (a N)) (storeAtV P t st (x N))
def uConv (P : Program) (s d : TypeId) (x : (F3 → Value)) (_ : Env) (N : F3) (st : St) : Option (Value × St) := toBytes P st s d (x N)
def uRange (P : Program) (t : TypeId) (x : (F3 → Value)) (_ : Env) (N : F3) (st : St) : Option (Value × St) := rangeV P st t (x N)
def uNext (x : (F3 → Value)) (s : Bool) (_ : Env) (N : F3) (st : St) : Option (Value × St) := nextV st (x N) s
def uCallV (f : (F3 → Value)) (l : (F3 → List Value)) (E : Env) (N : F3) (st : St) : Option (Value × St) := E.call (f N) (l N) st
def uInv (n : String) (f : (F3 → Value)) (l : (F3 → List Value)) (E : Env) (N : F3) (st : St) : Option (Value × St) := E.call (.func (.method n) #[] #[]) (f N :: l N) st
def uApp (P : Program) (ts : List TypeId) (l : (F3 → List Value)) (_ : Env) (N : F3) (st : St) : Option (Value × St) := appendV P st ts (l N)
def uCopy (P : Program) (ts : List TypeId) (l : (F3 → List Value)) (_ : Env) (N : F3) (st : St) : Option (Value × St) := copyV P st ts (l N)
def uDel (P : Program) (ts : List TypeId) (l : (F3 → List Value)) (_ : Env) (N : F3) (st : St) : Option (Value × St) := delV P st ts (l N)
def uNone (_ : Env) (_ : F3) (_ : St) : Option (Value × St) := none
def cCall (P : Program) (c : Call) : Bx GenF := match c.callee with
  | .value f => ub (cVal f) fun v0 => ub (cVals c.args.toList) fun v1 => ⟨uCallV v0 v1⟩
  | .invoke r n => ub (cVal r) fun v0 => ub (cVals c.args.toList) fun v1 => ⟨uInv n v0 v1⟩
  | .builtin .append => ub (cVals c.args.toList) fun v0 => ⟨uApp P c.argTypes.toList v0⟩
  | .builtin .copy => ub (cVals c.args.toList) fun v0 => ⟨uCopy P c.argTypes.toList v0⟩
  | .builtin .delete => ub (cVals c.args.toList) fun v0 => ⟨uDel P c.argTypes.toList v0⟩
  | _ => ⟨uNone⟩
def cGen (P : Program) (o : Op) : Bx GenF := match o with
  | .insert t m k x => ub (cVal m) fun v0 => ub (cVal k) fun v1 => ub (cVal x) fun v2 => ⟨uUpd P t v0 v1 v2⟩
  | .mapUpdate t m k x => ub (cVal m) fun v0 => ub (cVal k) fun v1 => ub (cVal x) fun v2 => ⟨uUpd P t v0 v1 v2⟩
  | .store t a x => ub (cVal a) fun v0 => ub (cVal x) fun v1 => ⟨uStore P t v0 v1⟩
  | .convert s d x => ub (cVal x) fun v0 => ⟨uConv P s d v0⟩
  | .range t x => ub (cVal x) fun v0 => ⟨uRange P t v0⟩
  | .next it s => ub (cVal it) fun v0 => ⟨uNext v0 s⟩
  | .call c => cCall P c
  | _ => ⟨uNone⟩

/-! ## the operations of a region, in the text's order -/
structure OR where
  A : F3
  st : St
abbrev KO : Type := Env → F3 → St → Option OR
def fzI (n : Int) (kd : IntKind) (c : Value → Option OR) : Option OR :=
  Int.rec (motive := fun _ => IntKind → (Value → Option OR) → Option OR) (fun m kd c => Nat.rec (motive := fun _ => IntKind → (Value → Option OR) → Option OR) (fun kd c => c (.int kd (.ofNat 0))) (fun p _ kd c => c (.int kd (.ofNat (Nat.succ p)))) m kd c) (fun m kd c => Nat.rec (motive := fun _ => IntKind → (Value → Option OR) → Option OR) (fun kd c => c (.int kd (.negSucc 0))) (fun p _ kd c => c (.int kd (.negSucc (Nat.succ p)))) m kd c) n kd c
def fzO (v : Value) (k : Value → Option OR) : Option OR := Value.rec (motive_1 := fun _ => (Value → Option OR) → Option OR) (motive_2 := fun _ => Unit) (motive_3 := fun _ => Unit) (fun b => fun k => Bool.rec (motive := fun _ => (Value → Option OR) → Option OR) (fun k => k (.bool false)) (fun k => k (.bool true)) b k) (fun kd n => fun k => fzI n kd k) (fun a b => fun k => k (.float a b)) (fun a b c => fun k => k (.complex a b c)) (fun s => fun k => k (.string s)) (fun a => fun k => k (.pointer a)) (fun a l c => fun k => k (.slice a l c)) (fun r => fun k => k (.map r)) (fun r => fun k => k (.chan r)) (fun f a b _ _ => fun k => k (.func f a b)) (fun k => k .nilFunc) (fun t v _ => fun k => k (.iface t v)) (fun k => k .nilIface) (fun c _ => fun k => k (.agg c)) (fun c _ => fun k => k (.tuple c)) (fun _ _ => ()) () (fun _ _ _ _ => ()) v k

/-! the small tools at one type: nothing of them is copied when they are opened -/
def obV (x : Option Value) (k : Value → Option OR) : Option OR := Option.rec (motive := fun _ => (Value → Option OR) → Option OR) (fun _ => none) (fun v k => k v) x k
def obN (x : Option NewV) (k : NewV → Option OR) : Option OR := Option.rec (motive := fun _ => (NewV → Option OR) → Option OR) (fun _ => none) (fun v k => k v) x k
def obP (x : Option (Value × St)) (k : Value × St → Option OR) : Option OR := Option.rec (motive := fun _ => (Value × St → Option OR) → Option OR) (fun _ => none) (fun v k => k v) x k
def bselO (b : Bool) (f t : Option OR) : Option OR := Bool.rec (motive := fun _ => Option OR → Option OR → Option OR) (fun f _ => f) (fun _ t => t) b f t
def gdO (b : Bool) (t : Option OR) : Option OR := Bool.rec (motive := fun _ => Option OR → Option OR) (fun _ => none) (fun t => t) b t
def fzNO (n : Nat) (k : Nat → Option OR) : Option OR := Nat.rec (motive := fun _ => (Nat → Option OR) → Option OR) (fun k => k 0) (fun p _ k => k (Nat.succ p)) n k
def fzMO (m : Mem) (k : Mem → Option OR) : Option OR := Mem.rec (motive := fun _ => (Mem → Option OR) → Option OR) (fun t u k => N2.rec (motive := fun _ => T Blk → (Mem → Option OR) → Option OR) (fun l r u k => k ⟨⟨l, r⟩, u⟩) t u k) m k
def fzSO3 (nxt low : Nat) (k : St → Option OR) (m : Mem) : Option OR := k ⟨m, nxt, low⟩
def fzSO2 (nxt : Nat) (m : Mem) (k : St → Option OR) (low : Nat) : Option OR := fzMO m (fzSO3 nxt low k)
def fzSO1 (low : Nat) (m : Mem) (k : St → Option OR) (nxt : Nat) : Option OR := fzNO low (fzSO2 nxt m k)
def fzSO (st : St) (k : St → Option OR) : Option OR := St.rec (motive := fun _ => (St → Option OR) → Option OR) (fun mem nxt low k => fzNO nxt (fzSO1 low mem k)) st k
def koEnd (_ : Env) (N : F3) (st : St) : Option OR := some ⟨N, st⟩
def fzB (b : F0) (k : F0 → Option OR) : Option OR := Bx.rec (motive := fun _ => (F0 → Option OR) → Option OR) (fun v k => k ⟨v⟩) b k
def nx (pt : PutF) (r : Bx KO) (E : Env) (N : F3) (st : St) (v : Value) : Option OR := r.v E (pt N ⟨v⟩) st
def nxB (pt : PutF) (r : Bx KO) (E : Env) (N : F3) (st : St) (b : F0) : Option OR := r.v E (pt N b) st
def nxZ (pt : PutF) (r : Bx KO) (E : Env) (N : F3) (st : St) (v : Value) : Option OR := fzO v (nx pt r E N st)
def kMove (g : F3 → F0) (pt : PutF) (r : Bx KO) (E : Env) (N : F3) (st : St) : Option OR := fzB (g N) (nxB pt r E N st)
def kPure (p : F3 → Option Value) (pt : PutF) (r : Bx KO) (E : Env) (N : F3) (st : St) : Option OR := obV (p N) (nxZ pt r E N st)
def nxS (pt : PutF) (r : Bx KO) (E : Env) (N : F3) (v : Value) (st : St) : Option OR := r.v E (pt N ⟨v⟩) st
def kNew2 (pt : PutF) (r : Bx KO) (E : Env) (N : F3) (st : St) (n : NewV) : Option OR := fzSO (st.push (n.b st.nxt)) (nxS pt r E N (n.v st.nxt))
def kNew (p : F3 → Option NewV) (pt : PutF) (r : Bx KO) (E : Env) (N : F3) (st : St) : Option OR := obN (p N) (kNew2 pt r E N st)
def kRead (p : RdF) (pt : PutF) (r : Bx KO) (E : Env) (N : F3) (st : St) : Option OR := obV (p N st) (nxZ pt r E N st)
def nxSF (pt : PutF) (r : Bx KO) (E : Env) (N : F3) (st : St) (v : Value) : Option OR := fzSO st (nxS pt r E N v)
def nxP (pt : PutF) (r : Bx KO) (E : Env) (N : F3) (p : Value × St) : Option OR := fzO p.1 (nxSF pt r E N p.2)
def kGen (p : GenF) (pt : PutF) (r : Bx KO) (E : Env) (N : F3) (st : St) : Option OR := obP (p E N st) (nxP pt r E N)

/-- numbers -/
abbrev IntK : Type := IntKind → Int → Int → (Value → Option OR) → Option OR
def fzBo (b : Bool) (c : Value → Option OR) : Option OR := Bool.rec (motive := fun _ => (Value → Option OR) → Option OR) (fun c => c (.bool false)) (fun c => c (.bool true)) b c
def ikAdd (k : IntKind) (a b : Int) (c : Value → Option OR) : Option OR := fzI (wrapF k (Int.add a b)) k c
def ikSub (k : IntKind) (a b : Int) (c : Value → Option OR) : Option OR := fzI (wrapF k (Int.sub a b)) k c
def ikMul (k : IntKind) (a b : Int) (c : Value → Option OR) : Option OR := fzI (wrapF k (Int.mul a b)) k c
def ikEql (_ : IntKind) (a b : Int) (c : Value → Option OR) : Option OR := fzBo (eqI a b) c
def ikNeq (_ : IntKind) (a b : Int) (c : Value → Option OR) : Option OR := fzBo (!(eqI a b)) c
def ikLss (_ : IntKind) (a b : Int) (c : Value → Option OR) : Option OR := fzBo (ltI a b) c
def ikLeq (_ : IntKind) (a b : Int) (c : Value → Option OR) : Option OR := fzBo (!(ltI b a)) c
def ikGtr (_ : IntKind) (a b : Int) (c : Value → Option OR) : Option OR := fzBo (ltI b a) c
def ikGeq (_ : IntKind) (a b : Int) (c : Value → Option OR) : Option OR := fzBo (!(ltI a b)) c
def cIK (op : BinOp) : Option (Bx IntK) := match op with
  | .add => some ⟨ikAdd⟩
  | .sub => some ⟨ikSub⟩
  | .mul => some ⟨ikMul⟩
  | .eql => some ⟨ikEql⟩
  | .neq => some ⟨ikNeq⟩
  | .lss => some ⟨ikLss⟩
  | .leq => some ⟨ikLeq⟩
  | .gtr => some ⟨ikGtr⟩
  | .geq => some ⟨ikGeq⟩
  | _ => none
def kn (k : IntKind) : Nat := IntKind.rec (motive := fun _ => Nat) 0 1 2 3 4 5 6 7 k
def onI (v : Value) (no : Option OR) (yes : IntKind → Int → Option OR) : Option OR :=
  Value.rec (motive_1 := fun _ => Option OR → (IntKind → Int → Option OR) → Option OR) (motive_2 := fun _ => Unit) (motive_3 := fun _ => Unit) (fun _ => fun n _ => n) (fun k a => fun _ y => y k a) (fun _ _ => fun n _ => n) (fun _ _ _ => fun n _ => n) (fun _ => fun n _ => n) (fun _ => fun n _ => n) (fun _ _ _ => fun n _ => n) (fun _ => fun n _ => n) (fun _ => fun n _ => n) (fun _ _ _ _ _ => fun n _ => n) (fun n _ => n) (fun _ _ _ => fun n _ => n) (fun n _ => n) (fun _ _ => fun n _ => n) (fun _ _ => fun n _ => n) (fun _ _ => ()) () (fun _ _ _ _ => ()) v no yes
def kInt3 (f : IntK) (p : F3 → Option Value) (pt : PutF) (r : Bx KO) (E : Env) (N : F3) (st : St) (k : IntKind) (a : Int) (k' : IntKind) (b : Int) : Option OR :=
  bselO (Nat.beq (kn k) (kn k')) (kPure p pt r E N st) (f k a b (nx pt r E N st))
def kInt2 (f : IntK) (y : F3 → Value) (p : F3 → Option Value) (pt : PutF) (r : Bx KO) (E : Env) (N : F3) (st : St) (k : IntKind) (a : Int) : Option OR :=
  onI (y N) (kPure p pt r E N st) (kInt3 f p pt r E N st k a)
def kInt (f : IntK) (x y : F3 → Value) (p : F3 → Option Value) (pt : PutF) (r : Bx KO) (E : Env) (N : F3) (st : St) : Option OR :=
  onI (x N) (kPure p pt r E N st) (kInt2 f y p pt r E N st)
def kIntO (f : Option (Bx IntK)) (x y : F3 → Value) (p : F3 → Option Value) (pt : PutF) (r : Bx KO) : Bx KO := match f with
  | some f => ub f fun f => ⟨kInt f x y p pt r⟩
  | none => ⟨kPure p pt r⟩

def cCls (P : Program) (o : Op) (c : Nat) (pt : PutF) (r : Bx KO) : Bx KO := match c with
  | 0 => (match o with
    | .move x => ub (cF0 x) fun g => ⟨kMove g pt r⟩
    | .assign x => ub (cF0 x) fun g => ⟨kMove g pt r⟩
    | .binOp op t x y q => ub (cVal x) fun gx => ub (cVal y) fun gy => ub (cPure P (.binOp op t x y q)) fun p => kIntO (cIK op) gx gy p pt r
    | o => ub (cPure P o) fun p => ⟨kPure p pt r⟩)
  | 1 => ub (cNew P o) fun p => ⟨kNew p pt r⟩
  | 2 => ub (cRead P o) fun p => ⟨kRead p pt r⟩
  | _ => ub (cGen P o) fun p => ⟨kGen p pt r⟩
def guardV (g : F3 → Value) (want : Bool) (N : F3) : Bool := isB (g N) want
def cGuard (ops : Array Oper) (g : Nat × Bool) : Bx (F3 → Bool) := match dstOf ops g.1 with
  | none => ⟨fun _ => false⟩
  | some d => ub (cVal (.tmp d)) fun v => ⟨guardV v g.2⟩
def kGuard (g : F3 → Bool) (k : Bx KO) (pt : PutF) (r : Bx KO) (E : Env) (N : F3) (st : St) : Option OR := bselO (g N) (r.v E (pt N w0) st) (k.v E N st)
def cOper (P : Program) (ops : Array Oper) (o : Oper) (r : Bx KO) : Bx KO := match o.guard with
  | none => ub (cDst o.dst) fun pt => cCls P o.op (cls P o.op) pt r
  | some g => ub (cDst o.dst) fun pt => ub (cGuard ops g) fun gd => ⟨kGuard gd (cCls P o.op (cls P o.op) pt r) pt r⟩
def cOps (P : Program) (ops : Array Oper) : List Oper → Bx KO
  | [] => ⟨koEnd⟩
  | o :: l => cOper P ops o (cOps P ops l)

/-! ## regions that draw their order -/
structure FPend where
  i : Nat
  rd : Option (St → Option Value)
  v : Value
def fAgain (st : St) (anc : Nat) (p : FPend) : Bool :=
  anc.testBit p.i || match p.rd with | some f => (match f st with | some v => veq v p.v | none => false) | none => false
abbrev KD : Type := Env → F3 → St → List FPend → List Nat → Option OR
def kdEnd (_ : Env) (N : F3) (st : St) (_ : List FPend) (_ : List Nat) : Option OR := some ⟨N, st⟩
/-- what an operation does, whatever its kind -/
def gPure (p : F3 → Option Value) (_ : Env) (N : F3) (st : St) : Option (Value × St) := ob (p N) (mkVal st)
def gNew (p : F3 → Option NewV) (_ : Env) (N : F3) (st : St) : Option (Value × St) := ob (p N) (mkNew st)
def gRead (p : RdF) (_ : Env) (N : F3) (st : St) : Option (Value × St) := ob (p N st) (mkVal st)
def cAny (P : Program) (o : Op) (c : Nat) : Bx GenF := match c with
  | 0 => ub (cPure P o) fun p => ⟨gPure p⟩
  | 1 => ub (cNew P o) fun p => ⟨gNew p⟩
  | 2 => ub (cRead P o) fun p => ⟨gRead p⟩
  | _ => cGen P o
def rdOf (c : Nat) (rd : RdF) (N : F3) : Option (St → Option Value) := match c with
  | 2 => some (rd N)
  | _ => none
def dQ2 (i c : Nat) (rd : RdF) (pt : PutF) (r : Bx KD) (E : Env) (N : F3) (pend : List FPend) (louds : List Nat) (v : Value) (st : St) : Option OR :=
  r.v E (pt N ⟨v⟩) st (bsel (Nat.ble c 0) (⟨i, rdOf c rd N, v⟩ :: pend) pend) louds
def dQ1 (i c : Nat) (rd : RdF) (pt : PutF) (r : Bx KD) (E : Env) (N : F3) (pend : List FPend) (louds : List Nat) (st : St) (v : Value) : Option OR := fzSO st (dQ2 i c rd pt r E N pend louds v)
def dL2 (i : Nat) (pt : PutF) (r : Bx KD) (E : Env) (N : F3) (pend : List FPend) (louds : List Nat) (v : Value) (st : St) : Option OR := r.v E (pt N ⟨v⟩) st pend (i :: louds)
def dL1 (i : Nat) (pt : PutF) (r : Bx KD) (E : Env) (N : F3) (pend : List FPend) (louds : List Nat) (st : St) (v : Value) : Option OR := fzSO st (dL2 i pt r E N pend louds v)
def dStep2 (i c anc : Nat) (rd : RdF) (pt : PutF) (r : Bx KD) (E : Env) (N : F3) (st : St) (pend : List FPend) (louds : List Nat) (p : Value × St) : Option OR :=
  gdO (Nat.ble c 0 || louds.all (fun j => anc.testBit j))
    (bselO (Nat.blt p.2.low st.nxt)
      (fzO p.1 (dQ1 i c rd pt r E N pend louds (setLow p.2 (minN p.2.low st.low))))
      (gdO (pend.all (fAgain (setLow p.2 (minN p.2.low st.low)) anc)) (fzO p.1 (dL1 i pt r E N pend louds (setLow p.2 (minN p.2.low st.low))))))
def dStep (f : GenF) (i c anc : Nat) (rd : RdF) (pt : PutF) (r : Bx KD) (E : Env) (N : F3) (st : St) (pend : List FPend) (louds : List Nat) : Option OR :=
  obP (f E N (setLow st st.nxt)) (dStep2 i c anc rd pt r E N st pend louds)
def dGuard (g : F3 → Bool) (k : Bx KD) (pt : PutF) (r : Bx KD) (E : Env) (N : F3) (st : St) (pend : List FPend) (louds : List Nat) : Option OR := bselO (g N) (r.v E (pt N w0) st pend louds) (k.v E N st pend louds)
def cDraw1 (P : Program) (ops : Array Oper) (o : Oper) (i : Nat) (r : Bx KD) : Bx KD := match o.guard with
  | none => ub (cAny P o.op (cls P o.op)) fun f => ub (cRead P o.op) fun rd => ub (cDst o.dst) fun pt => ⟨dStep f i (cls P o.op) (ancAt ops i) rd pt r⟩
  | some g => ub (cAny P o.op (cls P o.op)) fun f => ub (cRead P o.op) fun rd => ub (cDst o.dst) fun pt => ub (cGuard ops g) fun gd => ⟨dGuard gd ⟨dStep f i (cls P o.op) (ancAt ops i) rd pt r⟩ pt r⟩
def cDraws (P : Program) (ops : Array Oper) : List (Oper × Nat) → Bx KD
  | [] => ⟨kdEnd⟩
  | oi :: l => cDraw1 P ops oi.1 oi.2 (cDraws P ops l)
def koDraw (k : Bx KD) (E : Env) (N : F3) (st : St) : Option OR := k.v E N st [] []
def cRegion (P : Program) (ops : Array Oper) (draw : Bool) : Bx KO := bsel draw (cOps P ops ops.toList) ⟨koDraw (cDraws P ops ops.toList.zipIdx)⟩

/-! ## code -/
structure FRes where
  ex : Ex
  A : F3
  dm : List Nat
  st : St
abbrev FC : Type := Env → F3 → List Nat → St → Option FRes
def frReg (dm : List Nat) (r : OR) : Option FRes := OR.rec (motive := fun _ => List Nat → Option FRes) (fun N st dm => some ⟨.normal, N, dm, st⟩) r dm
def fcReg (k : Bx KO) (E : Env) (N : F3) (dm : List Nat) (st : St) : Option FRes := ob (k.v E N st) (frReg dm)
def frSeq (k : Bx FC) (E : Env) (r : FRes) : Option FRes :=
  FRes.rec (motive := fun _ => Bx FC → Env → Option FRes) (fun ex N dm st k E => Ex.rec (motive := fun _ => F3 → List Nat → St → Bx FC → Env → Option FRes) (fun N dm st k E => k.v E N dm st) (fun id N dm st _ _ => some ⟨.exit id, N, dm, st⟩) (fun N dm st _ _ => some ⟨.ret, N, dm, st⟩) ex N dm st k E) r k E
def fcSeq (a b : Bx FC) (E : Env) (N : F3) (dm : List Nat) (st : St) : Option FRes := ob (a.v E N dm st) (frSeq b E)
def frCond (t e : Bx FC) (E : Env) (N : F3) (dm : List Nat) (st : St) (b : Bool) : Option FRes := bsel b (e.v E N dm st) (t.v E N dm st)
def fcCond (c : F3 → Value) (t e : Bx FC) (E : Env) (N : F3) (dm : List Nat) (st : St) : Option FRes := ob (asB (c N)) (frCond t e E N dm st)
def frBlock (id : Nat) (r : FRes) : Option FRes :=
  Ex.rec (motive := fun _ => Nat → FRes → Option FRes) (fun _ r => some r) (fun id' id r => bsel (Nat.beq id' id) (some r) (some ⟨.normal, r.A, r.dm, r.st⟩)) (fun _ r => some r) r.ex id r
def fcBlock (id : Nat) (a : Bx FC) (E : Env) (N : F3) (dm : List Nat) (st : St) : Option FRes := ob (a.v E N dm st) (frBlock id)
def fcLoopN (body : Bx FC) (fuel : Nat) : FC :=
  Nat.rec (motive := fun _ => FC) (fun _ _ _ _ => none) (fun _ ih E N dm st => ob (body.v E N dm st) (frSeq ⟨ih⟩ E)) fuel
def fcSkip (_ : Env) (N : F3) (dm : List Nat) (st : St) : Option FRes := some ⟨.normal, N, dm, st⟩
def fcExit (id : Nat) (_ : Env) (N : F3) (dm : List Nat) (st : St) : Option FRes := some ⟨.exit id, N, dm, st⟩
def fcRet (_ : Env) (N : F3) (dm : List Nat) (st : St) : Option FRes := some ⟨.ret, N, dm, st⟩
def fcNone (_ : Env) (_ : F3) (_ : List Nat) (_ : St) : Option FRes := none
/-- no loop over a function -/
def noRange : Code → Bool
  | .seq a b => noRange a && noRange b
  | .cond _ a b => noRange a && noRange b
  | .block _ b => noRange b
  | .loop b => noRange b
  | .scope b => noRange b
  | .rangeFunc _ _ _ _ => false
  | _ => true
def cCode (P : Program) : Code → Bx FC
  | .skip => ⟨fcSkip⟩
  | .region _ ops draw => ⟨fcReg (cRegion P ops draw)⟩
  | .seq a b => ⟨fcSeq (cCode P a) (cCode P b)⟩
  | .cond c a b => ub (cVal c) fun g => ⟨fcCond g (cCode P a) (cCode P b)⟩
  | .block id b => ⟨fcBlock id (cCode P b)⟩
  | .loop b => ⟨fcLoopN (cCode P b) 1000000⟩
  | .exit id => ⟨fcExit id⟩
  | .scope b => cCode P b
  | .label _ => ⟨fcSkip⟩
  | .ret => ⟨fcRet⟩
  | _ => ⟨fcNone⟩

/-! ## calls -/
def rvTmp (g : F3 → Value) (N : F3) (_ : St) : Option Value := some (g N)
def rvCell (P : Program) (t : TypeId) (g : F3 → Value) (N : F3) (st : St) : Option Value := ob (asP (g N)) fun a => loadV P st t a
def cRV (P : Program) (r : ResultVar) : Bx RdF := match r with
  | .tmp t => ub (cVal (.tmp t)) fun g => ⟨rvTmp g⟩
  | .cell a t => ub (cVal (.tmp a)) fun g => ⟨rvCell P t g⟩
def rvs2 (v : Value) (l : List Value) : Option (List Value) := some (v :: l)
def rvs1 (r : Bx (F3 → St → Option (List Value))) (N : F3) (st : St) (v : Value) : Option (List Value) := ob (r.v N st) (rvs2 v)
def rvs (x : Bx RdF) (r : Bx (F3 → St → Option (List Value))) (N : F3) (st : St) : Option (List Value) := ob (x.v N st) (rvs1 r N st)
def cRVs (P : Program) : List ResultVar → Bx (F3 → St → Option (List Value))
  | [] => ⟨fun _ _ => some []⟩
  | r :: l => ⟨rvs (cRV P r) (cRVs P l)⟩
def fRet2 (st : St) (l : List Value) : Option (Value × St) := some (oneOrTuple l, st)
def fRet1 (rs : Bx (F3 → St → Option (List Value))) (N : F3) (st : St) : Option (Value × St) := ob (rs.v N st) (fRet2 st)
def fRet (rs : Bx (F3 → St → Option (List Value))) (r : FRes) : Option (Value × St) :=
  match r.ex with
  | .exit _ => none
  | _ => ob (dropMarks r.dm r.st) (fRet1 rs r.A)
def bindA : List Value → Nat → F3 → F3
  | [], _, N => N
  | v :: l, i, N => bindA l (Nat.succ i) ((cPut i).v N ⟨v⟩)
abbrev FN : Type := CallF → List Value → St → Option (Value × St)
def fnRun (c : Bx FC) (rs : Bx (F3 → St → Option (List Value))) (f n : Nat) (call : CallF) (args : List Value) (st : St) : Option (Value × St) :=
  gd (Nat.ble args.length n) (ob (c.v ⟨call, f, n, none⟩ (bindA args 0 w3) [] st) (fRet rs))
/-- the functions as a trie -/
def fillG {α : Type} (l : List α) : Nat → T α → T α :=
  List.rec (motive := fun _ => Nat → T α → T α) (fun _ t => t) (fun v _ ih i t => ih (Nat.succ i) (t.put (some v) i)) l
def fnTab (P : Program) : T Func := fillG P.funcs.toList 0 .lf
/-- 'good': the functions whose text has been looked at, as the bits of a number -/
def cFn1 (P : Program) (good : Nat) (f : FuncId) (fn : Func) (c : Code) : Bx FN :=
  bsel (good.testBit f && (Nat.ble fn.ntmps 512 && noRange c)) ⟨fun call args st => callFn P call f args st⟩ ⟨fnRun (cCode P c) (cRVs P fn.results.toList) f fn.ntmps⟩
def cFn2 (P : Program) (good : Nat) (f : FuncId) (fn : Func) : Bx FN := match fn.body with
  | some c => cFn1 P good f fn c
  | none => ⟨fun _ _ _ => none⟩
def cFn (P : Program) (good : Nat) (f : FuncId) : Bx FN := match (fnTab P).get f with
  | some fn => cFn2 P good f fn
  | none => ⟨fun _ _ _ => none⟩
def callOF (P : Program) (good : Nat) (call : CallF) (f : FuncId) (args : List Value) (st : St) : Option (Value × St) :=
  match known P f args st with
  | some z => some (z, st)
  | none => match OTab.nat f args st with
    | some r => pushes r st
    | none => (cFn P good f).v call args st
def methVF (P : Program) (good : Nat) (call : CallF) (name : String) (args : List Value) (st : St) : Option (Value × St) :=
  match args with
  | .iface t v :: rest => ob (methF P t name) fun f => callOF P good call f (v :: rest) st
  | _ => none
def callVF (P : Program) (good : Nat) (call : CallF) (f : Value) (args : List Value) (st : St) : Option (Value × St) :=
  match f with
  | .func (.func f) first cap => callOF P good call f (first.toList ++ args ++ cap.toList) st
  | .func (.yield l) first _ => yieldFn P call l (first.toList ++ args) st
  | .func (.method n) first _ => methVF P good call n (first.toList ++ args) st
  | _ => none
def callNF (P : Program) (good : Nat) (depth : Nat) : CallF :=
  Nat.rec (motive := fun _ => CallF) (fun _ _ _ => none) (fun _ ih => callVF P good ih) depth
def runF (P : Program) (good : Nat) (f : FuncId) (args : List Value) (st : St) : Option (Value × St) := (cFn P good f).v (callNF P good 999) args st
/-- the text of a function is as it must be -/
def okText (P : Program) (fn : Func) : Bool := match fn.body with
  | some c => fnOk P fn c
  | none => true
/-- those of the list that are asked for -/
def okTexts (P : Program) (good : Nat) (l : List Func) : Nat → Bool :=
  List.rec (motive := fun _ => Nat → Bool) (fun _ => true) (fun fn _ ih i => bsel (good.testBit i) (ih (Nat.succ i)) (bsel (okText P fn) false (ih (Nat.succ i)))) l
end
end Go.Ev

namespace Go.Ev
set_option linter.unusedSectionVars false
variable [OTab]
variable {P : Program}

/-! ## the temporaries -/
theorem sese1 (i j : Nat) (hi : i < 8) (hj : j < 8) (y : F0) (x : F1) : (sl1 i).v ((se1 j).v y x) = if i = j then y else (sl1 i).v x := by
  obtain ⟨a, b, c, d, e, f, g, h⟩ := x
  match i, hi, j, hj with
  | 0, _, 0, _ => rfl
  | 0, _, 1, _ => rfl
  | 0, _, 2, _ => rfl
  | 0, _, 3, _ => rfl
  | 0, _, 4, _ => rfl
  | 0, _, 5, _ => rfl
  | 0, _, 6, _ => rfl
  | 0, _, 7, _ => rfl
  | 1, _, 0, _ => rfl
  | 1, _, 1, _ => rfl
  | 1, _, 2, _ => rfl
  | 1, _, 3, _ => rfl
  | 1, _, 4, _ => rfl
  | 1, _, 5, _ => rfl
  | 1, _, 6, _ => rfl
  | 1, _, 7, _ => rfl
  | 2, _, 0, _ => rfl
  | 2, _, 1, _ => rfl
  | 2, _, 2, _ => rfl
  | 2, _, 3, _ => rfl
  | 2, _, 4, _ => rfl
  | 2, _, 5, _ => rfl
  | 2, _, 6, _ => rfl
  | 2, _, 7, _ => rfl
  | 3, _, 0, _ => rfl
  | 3, _, 1, _ => rfl
  | 3, _, 2, _ => rfl
  | 3, _, 3, _ => rfl
  | 3, _, 4, _ => rfl
  | 3, _, 5, _ => rfl
  | 3, _, 6, _ => rfl
  | 3, _, 7, _ => rfl
  | 4, _, 0, _ => rfl
  | 4, _, 1, _ => rfl
  | 4, _, 2, _ => rfl
  | 4, _, 3, _ => rfl
  | 4, _, 4, _ => rfl
  | 4, _, 5, _ => rfl
  | 4, _, 6, _ => rfl
  | 4, _, 7, _ => rfl
  | 5, _, 0, _ => rfl
  | 5, _, 1, _ => rfl
  | 5, _, 2, _ => rfl
  | 5, _, 3, _ => rfl
  | 5, _, 4, _ => rfl
  | 5, _, 5, _ => rfl
  | 5, _, 6, _ => rfl
  | 5, _, 7, _ => rfl
  | 6, _, 0, _ => rfl
  | 6, _, 1, _ => rfl
  | 6, _, 2, _ => rfl
  | 6, _, 3, _ => rfl
  | 6, _, 4, _ => rfl
  | 6, _, 5, _ => rfl
  | 6, _, 6, _ => rfl
  | 6, _, 7, _ => rfl
  | 7, _, 0, _ => rfl
  | 7, _, 1, _ => rfl
  | 7, _, 2, _ => rfl
  | 7, _, 3, _ => rfl
  | 7, _, 4, _ => rfl
  | 7, _, 5, _ => rfl
  | 7, _, 6, _ => rfl
  | 7, _, 7, _ => rfl
theorem sese2 (i j : Nat) (hi : i < 8) (hj : j < 8) (y : F1) (x : F2) : (sl2 i).v ((se2 j).v y x) = if i = j then y else (sl2 i).v x := by
  obtain ⟨a, b, c, d, e, f, g, h⟩ := x
  match i, hi, j, hj with
  | 0, _, 0, _ => rfl
  | 0, _, 1, _ => rfl
  | 0, _, 2, _ => rfl
  | 0, _, 3, _ => rfl
  | 0, _, 4, _ => rfl
  | 0, _, 5, _ => rfl
  | 0, _, 6, _ => rfl
  | 0, _, 7, _ => rfl
  | 1, _, 0, _ => rfl
  | 1, _, 1, _ => rfl
  | 1, _, 2, _ => rfl
  | 1, _, 3, _ => rfl
  | 1, _, 4, _ => rfl
  | 1, _, 5, _ => rfl
  | 1, _, 6, _ => rfl
  | 1, _, 7, _ => rfl
  | 2, _, 0, _ => rfl
  | 2, _, 1, _ => rfl
  | 2, _, 2, _ => rfl
  | 2, _, 3, _ => rfl
  | 2, _, 4, _ => rfl
  | 2, _, 5, _ => rfl
  | 2, _, 6, _ => rfl
  | 2, _, 7, _ => rfl
  | 3, _, 0, _ => rfl
  | 3, _, 1, _ => rfl
  | 3, _, 2, _ => rfl
  | 3, _, 3, _ => rfl
  | 3, _, 4, _ => rfl
  | 3, _, 5, _ => rfl
  | 3, _, 6, _ => rfl
  | 3, _, 7, _ => rfl
  | 4, _, 0, _ => rfl
  | 4, _, 1, _ => rfl
  | 4, _, 2, _ => rfl
  | 4, _, 3, _ => rfl
  | 4, _, 4, _ => rfl
  | 4, _, 5, _ => rfl
  | 4, _, 6, _ => rfl
  | 4, _, 7, _ => rfl
  | 5, _, 0, _ => rfl
  | 5, _, 1, _ => rfl
  | 5, _, 2, _ => rfl
  | 5, _, 3, _ => rfl
  | 5, _, 4, _ => rfl
  | 5, _, 5, _ => rfl
  | 5, _, 6, _ => rfl
  | 5, _, 7, _ => rfl
  | 6, _, 0, _ => rfl
  | 6, _, 1, _ => rfl
  | 6, _, 2, _ => rfl
  | 6, _, 3, _ => rfl
  | 6, _, 4, _ => rfl
  | 6, _, 5, _ => rfl
  | 6, _, 6, _ => rfl
  | 6, _, 7, _ => rfl
  | 7, _, 0, _ => rfl
  | 7, _, 1, _ => rfl
  | 7, _, 2, _ => rfl
  | 7, _, 3, _ => rfl
  | 7, _, 4, _ => rfl
  | 7, _, 5, _ => rfl
  | 7, _, 6, _ => rfl
  | 7, _, 7, _ => rfl
theorem sese3 (i j : Nat) (hi : i < 8) (hj : j < 8) (y : F2) (x : F3) : (sl3 i).v ((se3 j).v y x) = if i = j then y else (sl3 i).v x := by
  obtain ⟨a, b, c, d, e, f, g, h⟩ := x
  match i, hi, j, hj with
  | 0, _, 0, _ => rfl
  | 0, _, 1, _ => rfl
  | 0, _, 2, _ => rfl
  | 0, _, 3, _ => rfl
  | 0, _, 4, _ => rfl
  | 0, _, 5, _ => rfl
  | 0, _, 6, _ => rfl
  | 0, _, 7, _ => rfl
  | 1, _, 0, _ => rfl
  | 1, _, 1, _ => rfl
  | 1, _, 2, _ => rfl
  | 1, _, 3, _ => rfl
  | 1, _, 4, _ => rfl
  | 1, _, 5, _ => rfl
  | 1, _, 6, _ => rfl
  | 1, _, 7, _ => rfl
  | 2, _, 0, _ => rfl
  | 2, _, 1, _ => rfl
  | 2, _, 2, _ => rfl
  | 2, _, 3, _ => rfl
  | 2, _, 4, _ => rfl
  | 2, _, 5, _ => rfl
  | 2, _, 6, _ => rfl
  | 2, _, 7, _ => rfl
  | 3, _, 0, _ => rfl
  | 3, _, 1, _ => rfl
  | 3, _, 2, _ => rfl
  | 3, _, 3, _ => rfl
  | 3, _, 4, _ => rfl
  | 3, _, 5, _ => rfl
  | 3, _, 6, _ => rfl
  | 3, _, 7, _ => rfl
  | 4, _, 0, _ => rfl
  | 4, _, 1, _ => rfl
  | 4, _, 2, _ => rfl
  | 4, _, 3, _ => rfl
  | 4, _, 4, _ => rfl
  | 4, _, 5, _ => rfl
  | 4, _, 6, _ => rfl
  | 4, _, 7, _ => rfl
  | 5, _, 0, _ => rfl
  | 5, _, 1, _ => rfl
  | 5, _, 2, _ => rfl
  | 5, _, 3, _ => rfl
  | 5, _, 4, _ => rfl
  | 5, _, 5, _ => rfl
  | 5, _, 6, _ => rfl
  | 5, _, 7, _ => rfl
  | 6, _, 0, _ => rfl
  | 6, _, 1, _ => rfl
  | 6, _, 2, _ => rfl
  | 6, _, 3, _ => rfl
  | 6, _, 4, _ => rfl
  | 6, _, 5, _ => rfl
  | 6, _, 6, _ => rfl
  | 6, _, 7, _ => rfl
  | 7, _, 0, _ => rfl
  | 7, _, 1, _ => rfl
  | 7, _, 2, _ => rfl
  | 7, _, 3, _ => rfl
  | 7, _, 4, _ => rfl
  | 7, _, 5, _ => rfl
  | 7, _, 6, _ => rfl
  | 7, _, 7, _ => rfl
theorem cG00_is (l : Nat) (hl : l < 8) (N : F3) : (cG00 l).v N = (sl1 l).v ((sl2 0).v ((sl3 0).v N)) := by
  match l, hl with
  | 0, _ => rfl
  | 1, _ => rfl
  | 2, _ => rfl
  | 3, _ => rfl
  | 4, _ => rfl
  | 5, _ => rfl
  | 6, _ => rfl
  | 7, _ => rfl
theorem cG01_is (l : Nat) (hl : l < 8) (N : F3) : (cG01 l).v N = (sl1 l).v ((sl2 1).v ((sl3 0).v N)) := by
  match l, hl with
  | 0, _ => rfl
  | 1, _ => rfl
  | 2, _ => rfl
  | 3, _ => rfl
  | 4, _ => rfl
  | 5, _ => rfl
  | 6, _ => rfl
  | 7, _ => rfl
theorem cG02_is (l : Nat) (hl : l < 8) (N : F3) : (cG02 l).v N = (sl1 l).v ((sl2 2).v ((sl3 0).v N)) := by
  match l, hl with
  | 0, _ => rfl
  | 1, _ => rfl
  | 2, _ => rfl
  | 3, _ => rfl
  | 4, _ => rfl
  | 5, _ => rfl
  | 6, _ => rfl
  | 7, _ => rfl
theorem cG03_is (l : Nat) (hl : l < 8) (N : F3) : (cG03 l).v N = (sl1 l).v ((sl2 3).v ((sl3 0).v N)) := by
  match l, hl with
  | 0, _ => rfl
  | 1, _ => rfl
  | 2, _ => rfl
  | 3, _ => rfl
  | 4, _ => rfl
  | 5, _ => rfl
  | 6, _ => rfl
  | 7, _ => rfl
theorem cG04_is (l : Nat) (hl : l < 8) (N : F3) : (cG04 l).v N = (sl1 l).v ((sl2 4).v ((sl3 0).v N)) := by
  match l, hl with
  | 0, _ => rfl
  | 1, _ => rfl
  | 2, _ => rfl
  | 3, _ => rfl
  | 4, _ => rfl
  | 5, _ => rfl
  | 6, _ => rfl
  | 7, _ => rfl
theorem cG05_is (l : Nat) (hl : l < 8) (N : F3) : (cG05 l).v N = (sl1 l).v ((sl2 5).v ((sl3 0).v N)) := by
  match l, hl with
  | 0, _ => rfl
  | 1, _ => rfl
  | 2, _ => rfl
  | 3, _ => rfl
  | 4, _ => rfl
  | 5, _ => rfl
  | 6, _ => rfl
  | 7, _ => rfl
theorem cG06_is (l : Nat) (hl : l < 8) (N : F3) : (cG06 l).v N = (sl1 l).v ((sl2 6).v ((sl3 0).v N)) := by
  match l, hl with
  | 0, _ => rfl
  | 1, _ => rfl
  | 2, _ => rfl
  | 3, _ => rfl
  | 4, _ => rfl
  | 5, _ => rfl
  | 6, _ => rfl
  | 7, _ => rfl
theorem cG07_is (l : Nat) (hl : l < 8) (N : F3) : (cG07 l).v N = (sl1 l).v ((sl2 7).v ((sl3 0).v N)) := by
  match l, hl with
  | 0, _ => rfl
  | 1, _ => rfl
  | 2, _ => rfl
  | 3, _ => rfl
  | 4, _ => rfl
  | 5, _ => rfl
  | 6, _ => rfl
  | 7, _ => rfl
theorem cG0_is (j l : Nat) (hj : j < 8) (hl : l < 8) (N : F3) : (cG0 j l).v N = (sl1 l).v ((sl2 j).v ((sl3 0).v N)) := by
  match j, hj with
  | 0, _ => exact cG00_is l hl N
  | 1, _ => exact cG01_is l hl N
  | 2, _ => exact cG02_is l hl N
  | 3, _ => exact cG03_is l hl N
  | 4, _ => exact cG04_is l hl N
  | 5, _ => exact cG05_is l hl N
  | 6, _ => exact cG06_is l hl N
  | 7, _ => exact cG07_is l hl N
theorem cG10_is (l : Nat) (hl : l < 8) (N : F3) : (cG10 l).v N = (sl1 l).v ((sl2 0).v ((sl3 1).v N)) := by
  match l, hl with
  | 0, _ => rfl
  | 1, _ => rfl
  | 2, _ => rfl
  | 3, _ => rfl
  | 4, _ => rfl
  | 5, _ => rfl
  | 6, _ => rfl
  | 7, _ => rfl
theorem cG11_is (l : Nat) (hl : l < 8) (N : F3) : (cG11 l).v N = (sl1 l).v ((sl2 1).v ((sl3 1).v N)) := by
  match l, hl with
  | 0, _ => rfl
  | 1, _ => rfl
  | 2, _ => rfl
  | 3, _ => rfl
  | 4, _ => rfl
  | 5, _ => rfl
  | 6, _ => rfl
  | 7, _ => rfl
theorem cG12_is (l : Nat) (hl : l < 8) (N : F3) : (cG12 l).v N = (sl1 l).v ((sl2 2).v ((sl3 1).v N)) := by
  match l, hl with
  | 0, _ => rfl
  | 1, _ => rfl
  | 2, _ => rfl
  | 3, _ => rfl
  | 4, _ => rfl
  | 5, _ => rfl
  | 6, _ => rfl
  | 7, _ => rfl
theorem cG13_is (l : Nat) (hl : l < 8) (N : F3) : (cG13 l).v N = (sl1 l).v ((sl2 3).v ((sl3 1).v N)) := by
  match l, hl with
  | 0, _ => rfl
  | 1, _ => rfl
  | 2, _ => rfl
  | 3, _ => rfl
  | 4, _ => rfl
  | 5, _ => rfl
  | 6, _ => rfl
  | 7, _ => rfl
theorem cG14_is (l : Nat) (hl : l < 8) (N : F3) : (cG14 l).v N = (sl1 l).v ((sl2 4).v ((sl3 1).v N)) := by
  match l, hl with
  | 0, _ => rfl
  | 1, _ => rfl
  | 2, _ => rfl
  | 3, _ => rfl
  | 4, _ => rfl
  | 5, _ => rfl
  | 6, _ => rfl
  | 7, _ => rfl
theorem cG15_is (l : Nat) (hl : l < 8) (N : F3) : (cG15 l).v N = (sl1 l).v ((sl2 5).v ((sl3 1).v N)) := by
  match l, hl with
  | 0, _ => rfl
  | 1, _ => rfl
  | 2, _ => rfl
  | 3, _ => rfl
  | 4, _ => rfl
  | 5, _ => rfl
  | 6, _ => rfl
  | 7, _ => rfl
theorem cG16_is (l : Nat) (hl : l < 8) (N : F3) : (cG16 l).v N = (sl1 l).v ((sl2 6).v ((sl3 1).v N)) := by
  match l, hl with
  | 0, _ => rfl
  | 1, _ => rfl
  | 2, _ => rfl
  | 3, _ => rfl
  | 4, _ => rfl
  | 5, _ => rfl
  | 6, _ => rfl
  | 7, _ => rfl
theorem cG17_is (l : Nat) (hl : l < 8) (N : F3) : (cG17 l).v N = (sl1 l).v ((sl2 7).v ((sl3 1).v N)) := by
  match l, hl with
  | 0, _ => rfl
  | 1, _ => rfl
  | 2, _ => rfl
  | 3, _ => rfl
  | 4, _ => rfl
  | 5, _ => rfl
  | 6, _ => rfl
  | 7, _ => rfl
theorem cG1_is (j l : Nat) (hj : j < 8) (hl : l < 8) (N : F3) : (cG1 j l).v N = (sl1 l).v ((sl2 j).v ((sl3 1).v N)) := by
  match j, hj with
  | 0, _ => exact cG10_is l hl N
  | 1, _ => exact cG11_is l hl N
  | 2, _ => exact cG12_is l hl N
  | 3, _ => exact cG13_is l hl N
  | 4, _ => exact cG14_is l hl N
  | 5, _ => exact cG15_is l hl N
  | 6, _ => exact cG16_is l hl N
  | 7, _ => exact cG17_is l hl N
theorem cG20_is (l : Nat) (hl : l < 8) (N : F3) : (cG20 l).v N = (sl1 l).v ((sl2 0).v ((sl3 2).v N)) := by
  match l, hl with
  | 0, _ => rfl
  | 1, _ => rfl
  | 2, _ => rfl
  | 3, _ => rfl
  | 4, _ => rfl
  | 5, _ => rfl
  | 6, _ => rfl
  | 7, _ => rfl
theorem cG21_is (l : Nat) (hl : l < 8) (N : F3) : (cG21 l).v N = (sl1 l).v ((sl2 1).v ((sl3 2).v N)) := by
  match l, hl with
  | 0, _ => rfl
  | 1, _ => rfl
  | 2, _ => rfl
  | 3, _ => rfl
  | 4, _ => rfl
  | 5, _ => rfl
  | 6, _ => rfl
  | 7, _ => rfl
theorem cG22_is (l : Nat) (hl : l < 8) (N : F3) : (cG22 l).v N = (sl1 l).v ((sl2 2).v ((sl3 2).v N)) := by
  match l, hl with
  | 0, _ => rfl
  | 1, _ => rfl
  | 2, _ => rfl
  | 3, _ => rfl
  | 4, _ => rfl
  | 5, _ => rfl
  | 6, _ => rfl
  | 7, _ => rfl
theorem cG23_is (l : Nat) (hl : l < 8) (N : F3) : (cG23 l).v N = (sl1 l).v ((sl2 3).v ((sl3 2).v N)) := by
  match l, hl with
  | 0, _ => rfl
  | 1, _ => rfl
  | 2, _ => rfl
  | 3, _ => rfl
  | 4, _ => rfl
  | 5, _ => rfl
  | 6, _ => rfl
  | 7, _ => rfl
theorem cG24_is (l : Nat) (hl : l < 8) (N : F3) : (cG24 l).v N = (sl1 l).v ((sl2 4).v ((sl3 2).v N)) := by
  match l, hl with
  | 0, _ => rfl
  | 1, _ => rfl
  | 2, _ => rfl
  | 3, _ => rfl
  | 4, _ => rfl
  | 5, _ => rfl
  | 6, _ => rfl
  | 7, _ => rfl
theorem cG25_is (l : Nat) (hl : l < 8) (N : F3) : (cG25 l).v N = (sl1 l).v ((sl2 5).v ((sl3 2).v N)) := by
  match l, hl with
  | 0, _ => rfl
  | 1, _ => rfl
  | 2, _ => rfl
  | 3, _ => rfl
  | 4, _ => rfl
  | 5, _ => rfl
  | 6, _ => rfl
  | 7, _ => rfl
theorem cG26_is (l : Nat) (hl : l < 8) (N : F3) : (cG26 l).v N = (sl1 l).v ((sl2 6).v ((sl3 2).v N)) := by
  match l, hl with
  | 0, _ => rfl
  | 1, _ => rfl
  | 2, _ => rfl
  | 3, _ => rfl
  | 4, _ => rfl
  | 5, _ => rfl
  | 6, _ => rfl
  | 7, _ => rfl
theorem cG27_is (l : Nat) (hl : l < 8) (N : F3) : (cG27 l).v N = (sl1 l).v ((sl2 7).v ((sl3 2).v N)) := by
  match l, hl with
  | 0, _ => rfl
  | 1, _ => rfl
  | 2, _ => rfl
  | 3, _ => rfl
  | 4, _ => rfl
  | 5, _ => rfl
  | 6, _ => rfl
  | 7, _ => rfl
theorem cG2_is (j l : Nat) (hj : j < 8) (hl : l < 8) (N : F3) : (cG2 j l).v N = (sl1 l).v ((sl2 j).v ((sl3 2).v N)) := by
  match j, hj with
  | 0, _ => exact cG20_is l hl N
  | 1, _ => exact cG21_is l hl N
  | 2, _ => exact cG22_is l hl N
  | 3, _ => exact cG23_is l hl N
  | 4, _ => exact cG24_is l hl N
  | 5, _ => exact cG25_is l hl N
  | 6, _ => exact cG26_is l hl N
  | 7, _ => exact cG27_is l hl N
theorem cG30_is (l : Nat) (hl : l < 8) (N : F3) : (cG30 l).v N = (sl1 l).v ((sl2 0).v ((sl3 3).v N)) := by
  match l, hl with
  | 0, _ => rfl
  | 1, _ => rfl
  | 2, _ => rfl
  | 3, _ => rfl
  | 4, _ => rfl
  | 5, _ => rfl
  | 6, _ => rfl
  | 7, _ => rfl
theorem cG31_is (l : Nat) (hl : l < 8) (N : F3) : (cG31 l).v N = (sl1 l).v ((sl2 1).v ((sl3 3).v N)) := by
  match l, hl with
  | 0, _ => rfl
  | 1, _ => rfl
  | 2, _ => rfl
  | 3, _ => rfl
  | 4, _ => rfl
  | 5, _ => rfl
  | 6, _ => rfl
  | 7, _ => rfl
theorem cG32_is (l : Nat) (hl : l < 8) (N : F3) : (cG32 l).v N = (sl1 l).v ((sl2 2).v ((sl3 3).v N)) := by
  match l, hl with
  | 0, _ => rfl
  | 1, _ => rfl
  | 2, _ => rfl
  | 3, _ => rfl
  | 4, _ => rfl
  | 5, _ => rfl
  | 6, _ => rfl
  | 7, _ => rfl
theorem cG33_is (l : Nat) (hl : l < 8) (N : F3) : (cG33 l).v N = (sl1 l).v ((sl2 3).v ((sl3 3).v N)) := by
  match l, hl with
  | 0, _ => rfl
  | 1, _ => rfl
  | 2, _ => rfl
  | 3, _ => rfl
  | 4, _ => rfl
  | 5, _ => rfl
  | 6, _ => rfl
  | 7, _ => rfl
theorem cG34_is (l : Nat) (hl : l < 8) (N : F3) : (cG34 l).v N = (sl1 l).v ((sl2 4).v ((sl3 3).v N)) := by
  match l, hl with
  | 0, _ => rfl
  | 1, _ => rfl
  | 2, _ => rfl
  | 3, _ => rfl
  | 4, _ => rfl
  | 5, _ => rfl
  | 6, _ => rfl
  | 7, _ => rfl
theorem cG35_is (l : Nat) (hl : l < 8) (N : F3) : (cG35 l).v N = (sl1 l).v ((sl2 5).v ((sl3 3).v N)) := by
  match l, hl with
  | 0, _ => rfl
  | 1, _ => rfl
  | 2, _ => rfl
  | 3, _ => rfl
  | 4, _ => rfl
  | 5, _ => rfl
  | 6, _ => rfl
  | 7, _ => rfl
theorem cG36_is (l : Nat) (hl : l < 8) (N : F3) : (cG36 l).v N = (sl1 l).v ((sl2 6).v ((sl3 3).v N)) := by
  match l, hl with
  | 0, _ => rfl
  | 1, _ => rfl
  | 2, _ => rfl
  | 3, _ => rfl
  | 4, _ => rfl
  | 5, _ => rfl
  | 6, _ => rfl
  | 7, _ => rfl
theorem cG37_is (l : Nat) (hl : l < 8) (N : F3) : (cG37 l).v N = (sl1 l).v ((sl2 7).v ((sl3 3).v N)) := by
  match l, hl with
  | 0, _ => rfl
  | 1, _ => rfl
  | 2, _ => rfl
  | 3, _ => rfl
  | 4, _ => rfl
  | 5, _ => rfl
  | 6, _ => rfl
  | 7, _ => rfl
theorem cG3_is (j l : Nat) (hj : j < 8) (hl : l < 8) (N : F3) : (cG3 j l).v N = (sl1 l).v ((sl2 j).v ((sl3 3).v N)) := by
  match j, hj with
  | 0, _ => exact cG30_is l hl N
  | 1, _ => exact cG31_is l hl N
  | 2, _ => exact cG32_is l hl N
  | 3, _ => exact cG33_is l hl N
  | 4, _ => exact cG34_is l hl N
  | 5, _ => exact cG35_is l hl N
  | 6, _ => exact cG36_is l hl N
  | 7, _ => exact cG37_is l hl N
theorem cG40_is (l : Nat) (hl : l < 8) (N : F3) : (cG40 l).v N = (sl1 l).v ((sl2 0).v ((sl3 4).v N)) := by
  match l, hl with
  | 0, _ => rfl
  | 1, _ => rfl
  | 2, _ => rfl
  | 3, _ => rfl
  | 4, _ => rfl
  | 5, _ => rfl
  | 6, _ => rfl
  | 7, _ => rfl
theorem cG41_is (l : Nat) (hl : l < 8) (N : F3) : (cG41 l).v N = (sl1 l).v ((sl2 1).v ((sl3 4).v N)) := by
  match l, hl with
  | 0, _ => rfl
  | 1, _ => rfl
  | 2, _ => rfl
  | 3, _ => rfl
  | 4, _ => rfl
  | 5, _ => rfl
  | 6, _ => rfl
  | 7, _ => rfl
theorem cG42_is (l : Nat) (hl : l < 8) (N : F3) : (cG42 l).v N = (sl1 l).v ((sl2 2).v ((sl3 4).v N)) := by
  match l, hl with
  | 0, _ => rfl
  | 1, _ => rfl
  | 2, _ => rfl
  | 3, _ => rfl
  | 4, _ => rfl
  | 5, _ => rfl
  | 6, _ => rfl
  | 7, _ => rfl
theorem cG43_is (l : Nat) (hl : l < 8) (N : F3) : (cG43 l).v N = (sl1 l).v ((sl2 3).v ((sl3 4).v N)) := by
  match l, hl with
  | 0, _ => rfl
  | 1, _ => rfl
  | 2, _ => rfl
  | 3, _ => rfl
  | 4, _ => rfl
  | 5, _ => rfl
  | 6, _ => rfl
  | 7, _ => rfl
theorem cG44_is (l : Nat) (hl : l < 8) (N : F3) : (cG44 l).v N = (sl1 l).v ((sl2 4).v ((sl3 4).v N)) := by
  match l, hl with
  | 0, _ => rfl
  | 1, _ => rfl
  | 2, _ => rfl
  | 3, _ => rfl
  | 4, _ => rfl
  | 5, _ => rfl
  | 6, _ => rfl
  | 7, _ => rfl
theorem cG45_is (l : Nat) (hl : l < 8) (N : F3) : (cG45 l).v N = (sl1 l).v ((sl2 5).v ((sl3 4).v N)) := by
  match l, hl with
  | 0, _ => rfl
  | 1, _ => rfl
  | 2, _ => rfl
  | 3, _ => rfl
  | 4, _ => rfl
  | 5, _ => rfl
  | 6, _ => rfl
  | 7, _ => rfl
theorem cG46_is (l : Nat) (hl : l < 8) (N : F3) : (cG46 l).v N = (sl1 l).v ((sl2 6).v ((sl3 4).v N)) := by
  match l, hl with
  | 0, _ => rfl
  | 1, _ => rfl
  | 2, _ => rfl
  | 3, _ => rfl
  | 4, _ => rfl
  | 5, _ => rfl
  | 6, _ => rfl
  | 7, _ => rfl
theorem cG47_is (l : Nat) (hl : l < 8) (N : F3) : (cG47 l).v N = (sl1 l).v ((sl2 7).v ((sl3 4).v N)) := by
  match l, hl with
  | 0, _ => rfl
  | 1, _ => rfl
  | 2, _ => rfl
  | 3, _ => rfl
  | 4, _ => rfl
  | 5, _ => rfl
  | 6, _ => rfl
  | 7, _ => rfl
theorem cG4_is (j l : Nat) (hj : j < 8) (hl : l < 8) (N : F3) : (cG4 j l).v N = (sl1 l).v ((sl2 j).v ((sl3 4).v N)) := by
  match j, hj with
  | 0, _ => exact cG40_is l hl N
  | 1, _ => exact cG41_is l hl N
  | 2, _ => exact cG42_is l hl N
  | 3, _ => exact cG43_is l hl N
  | 4, _ => exact cG44_is l hl N
  | 5, _ => exact cG45_is l hl N
  | 6, _ => exact cG46_is l hl N
  | 7, _ => exact cG47_is l hl N
theorem cG50_is (l : Nat) (hl : l < 8) (N : F3) : (cG50 l).v N = (sl1 l).v ((sl2 0).v ((sl3 5).v N)) := by
  match l, hl with
  | 0, _ => rfl
  | 1, _ => rfl
  | 2, _ => rfl
  | 3, _ => rfl
  | 4, _ => rfl
  | 5, _ => rfl
  | 6, _ => rfl
  | 7, _ => rfl
theorem cG51_is (l : Nat) (hl : l < 8) (N : F3) : (cG51 l).v N = (sl1 l).v ((sl2 1).v ((sl3 5).v N)) := by
  match l, hl with
  | 0, _ => rfl
  | 1, _ => rfl
  | 2, _ => rfl
  | 3, _ => rfl
  | 4, _ => rfl
  | 5, _ => rfl
  | 6, _ => rfl
  | 7, _ => rfl
theorem cG52_is (l : Nat) (hl : l < 8) (N : F3) : (cG52 l).v N = (sl1 l).v ((sl2 2).v ((sl3 5).v N)) := by
  match l, hl with
  | 0, _ => rfl
  | 1, _ => rfl
  | 2, _ => rfl
  | 3, _ => rfl
  | 4, _ => rfl
  | 5, _ => rfl
  | 6, _ => rfl
  | 7, _ => rfl
theorem cG53_is (l : Nat) (hl : l < 8) (N : F3) : (cG53 l).v N = (sl1 l).v ((sl2 3).v ((sl3 5).v N)) := by
  match l, hl with
  | 0, _ => rfl
  | 1, _ => rfl
  | 2, _ => rfl
  | 3, _ => rfl
  | 4, _ => rfl
  | 5, _ => rfl
  | 6, _ => rfl
  | 7, _ => rfl
theorem cG54_is (l : Nat) (hl : l < 8) (N : F3) : (cG54 l).v N = (sl1 l).v ((sl2 4).v ((sl3 5).v N)) := by
  match l, hl with
  | 0, _ => rfl
  | 1, _ => rfl
  | 2, _ => rfl
  | 3, _ => rfl
  | 4, _ => rfl
  | 5, _ => rfl
  | 6, _ => rfl
  | 7, _ => rfl
theorem cG55_is (l : Nat) (hl : l < 8) (N : F3) : (cG55 l).v N = (sl1 l).v ((sl2 5).v ((sl3 5).v N)) := by
  match l, hl with
  | 0, _ => rfl
  | 1, _ => rfl
  | 2, _ => rfl
  | 3, _ => rfl
  | 4, _ => rfl
  | 5, _ => rfl
  | 6, _ => rfl
  | 7, _ => rfl
theorem cG56_is (l : Nat) (hl : l < 8) (N : F3) : (cG56 l).v N = (sl1 l).v ((sl2 6).v ((sl3 5).v N)) := by
  match l, hl with
  | 0, _ => rfl
  | 1, _ => rfl
  | 2, _ => rfl
  | 3, _ => rfl
  | 4, _ => rfl
  | 5, _ => rfl
  | 6, _ => rfl
  | 7, _ => rfl
theorem cG57_is (l : Nat) (hl : l < 8) (N : F3) : (cG57 l).v N = (sl1 l).v ((sl2 7).v ((sl3 5).v N)) := by
  match l, hl with
  | 0, _ => rfl
  | 1, _ => rfl
  | 2, _ => rfl
  | 3, _ => rfl
  | 4, _ => rfl
  | 5, _ => rfl
  | 6, _ => rfl
  | 7, _ => rfl
theorem cG5_is (j l : Nat) (hj : j < 8) (hl : l < 8) (N : F3) : (cG5 j l).v N = (sl1 l).v ((sl2 j).v ((sl3 5).v N)) := by
  match j, hj with
  | 0, _ => exact cG50_is l hl N
  | 1, _ => exact cG51_is l hl N
  | 2, _ => exact cG52_is l hl N
  | 3, _ => exact cG53_is l hl N
  | 4, _ => exact cG54_is l hl N
  | 5, _ => exact cG55_is l hl N
  | 6, _ => exact cG56_is l hl N
  | 7, _ => exact cG57_is l hl N
theorem cG60_is (l : Nat) (hl : l < 8) (N : F3) : (cG60 l).v N = (sl1 l).v ((sl2 0).v ((sl3 6).v N)) := by
  match l, hl with
  | 0, _ => rfl
  | 1, _ => rfl
  | 2, _ => rfl
  | 3, _ => rfl
  | 4, _ => rfl
  | 5, _ => rfl
  | 6, _ => rfl
  | 7, _ => rfl
theorem cG61_is (l : Nat) (hl : l < 8) (N : F3) : (cG61 l).v N = (sl1 l).v ((sl2 1).v ((sl3 6).v N)) := by
  match l, hl with
  | 0, _ => rfl
  | 1, _ => rfl
  | 2, _ => rfl
  | 3, _ => rfl
  | 4, _ => rfl
  | 5, _ => rfl
  | 6, _ => rfl
  | 7, _ => rfl
theorem cG62_is (l : Nat) (hl : l < 8) (N : F3) : (cG62 l).v N = (sl1 l).v ((sl2 2).v ((sl3 6).v N)) := by
  match l, hl with
  | 0, _ => rfl
  | 1, _ => rfl
  | 2, _ => rfl
  | 3, _ => rfl
  | 4, _ => rfl
  | 5, _ => rfl
  | 6, _ => rfl
  | 7, _ => rfl
theorem cG63_is (l : Nat) (hl : l < 8) (N : F3) : (cG63 l).v N = (sl1 l).v ((sl2 3).v ((sl3 6).v N)) := by
  match l, hl with
  | 0, _ => rfl
  | 1, _ => rfl
  | 2, _ => rfl
  | 3, _ => rfl
  | 4, _ => rfl
  | 5, _ => rfl
  | 6, _ => rfl
  | 7, _ => rfl
theorem cG64_is (l : Nat) (hl : l < 8) (N : F3) : (cG64 l).v N = (sl1 l).v ((sl2 4).v ((sl3 6).v N)) := by
  match l, hl with
  | 0, _ => rfl
  | 1, _ => rfl
  | 2, _ => rfl
  | 3, _ => rfl
  | 4, _ => rfl
  | 5, _ => rfl
  | 6, _ => rfl
  | 7, _ => rfl
theorem cG65_is (l : Nat) (hl : l < 8) (N : F3) : (cG65 l).v N = (sl1 l).v ((sl2 5).v ((sl3 6).v N)) := by
  match l, hl with
  | 0, _ => rfl
  | 1, _ => rfl
  | 2, _ => rfl
  | 3, _ => rfl
  | 4, _ => rfl
  | 5, _ => rfl
  | 6, _ => rfl
  | 7, _ => rfl
theorem cG66_is (l : Nat) (hl : l < 8) (N : F3) : (cG66 l).v N = (sl1 l).v ((sl2 6).v ((sl3 6).v N)) := by
  match l, hl with
  | 0, _ => rfl
  | 1, _ => rfl
  | 2, _ => rfl
  | 3, _ => rfl
  | 4, _ => rfl
  | 5, _ => rfl
  | 6, _ => rfl
  | 7, _ => rfl
theorem cG67_is (l : Nat) (hl : l < 8) (N : F3) : (cG67 l).v N = (sl1 l).v ((sl2 7).v ((sl3 6).v N)) := by
  match l, hl with
  | 0, _ => rfl
  | 1, _ => rfl
  | 2, _ => rfl
  | 3, _ => rfl
  | 4, _ => rfl
  | 5, _ => rfl
  | 6, _ => rfl
  | 7, _ => rfl
theorem cG6_is (j l : Nat) (hj : j < 8) (hl : l < 8) (N : F3) : (cG6 j l).v N = (sl1 l).v ((sl2 j).v ((sl3 6).v N)) := by
  match j, hj with
  | 0, _ => exact cG60_is l hl N
  | 1, _ => exact cG61_is l hl N
  | 2, _ => exact cG62_is l hl N
  | 3, _ => exact cG63_is l hl N
  | 4, _ => exact cG64_is l hl N
  | 5, _ => exact cG65_is l hl N
  | 6, _ => exact cG66_is l hl N
  | 7, _ => exact cG67_is l hl N
theorem cG70_is (l : Nat) (hl : l < 8) (N : F3) : (cG70 l).v N = (sl1 l).v ((sl2 0).v ((sl3 7).v N)) := by
  match l, hl with
  | 0, _ => rfl
  | 1, _ => rfl
  | 2, _ => rfl
  | 3, _ => rfl
  | 4, _ => rfl
  | 5, _ => rfl
  | 6, _ => rfl
  | 7, _ => rfl
theorem cG71_is (l : Nat) (hl : l < 8) (N : F3) : (cG71 l).v N = (sl1 l).v ((sl2 1).v ((sl3 7).v N)) := by
  match l, hl with
  | 0, _ => rfl
  | 1, _ => rfl
  | 2, _ => rfl
  | 3, _ => rfl
  | 4, _ => rfl
  | 5, _ => rfl
  | 6, _ => rfl
  | 7, _ => rfl
theorem cG72_is (l : Nat) (hl : l < 8) (N : F3) : (cG72 l).v N = (sl1 l).v ((sl2 2).v ((sl3 7).v N)) := by
  match l, hl with
  | 0, _ => rfl
  | 1, _ => rfl
  | 2, _ => rfl
  | 3, _ => rfl
  | 4, _ => rfl
  | 5, _ => rfl
  | 6, _ => rfl
  | 7, _ => rfl
theorem cG73_is (l : Nat) (hl : l < 8) (N : F3) : (cG73 l).v N = (sl1 l).v ((sl2 3).v ((sl3 7).v N)) := by
  match l, hl with
  | 0, _ => rfl
  | 1, _ => rfl
  | 2, _ => rfl
  | 3, _ => rfl
  | 4, _ => rfl
  | 5, _ => rfl
  | 6, _ => rfl
  | 7, _ => rfl
theorem cG74_is (l : Nat) (hl : l < 8) (N : F3) : (cG74 l).v N = (sl1 l).v ((sl2 4).v ((sl3 7).v N)) := by
  match l, hl with
  | 0, _ => rfl
  | 1, _ => rfl
  | 2, _ => rfl
  | 3, _ => rfl
  | 4, _ => rfl
  | 5, _ => rfl
  | 6, _ => rfl
  | 7, _ => rfl
theorem cG75_is (l : Nat) (hl : l < 8) (N : F3) : (cG75 l).v N = (sl1 l).v ((sl2 5).v ((sl3 7).v N)) := by
  match l, hl with
  | 0, _ => rfl
  | 1, _ => rfl
  | 2, _ => rfl
  | 3, _ => rfl
  | 4, _ => rfl
  | 5, _ => rfl
  | 6, _ => rfl
  | 7, _ => rfl
theorem cG76_is (l : Nat) (hl : l < 8) (N : F3) : (cG76 l).v N = (sl1 l).v ((sl2 6).v ((sl3 7).v N)) := by
  match l, hl with
  | 0, _ => rfl
  | 1, _ => rfl
  | 2, _ => rfl
  | 3, _ => rfl
  | 4, _ => rfl
  | 5, _ => rfl
  | 6, _ => rfl
  | 7, _ => rfl
theorem cG77_is (l : Nat) (hl : l < 8) (N : F3) : (cG77 l).v N = (sl1 l).v ((sl2 7).v ((sl3 7).v N)) := by
  match l, hl with
  | 0, _ => rfl
  | 1, _ => rfl
  | 2, _ => rfl
  | 3, _ => rfl
  | 4, _ => rfl
  | 5, _ => rfl
  | 6, _ => rfl
  | 7, _ => rfl
theorem cG7_is (j l : Nat) (hj : j < 8) (hl : l < 8) (N : F3) : (cG7 j l).v N = (sl1 l).v ((sl2 j).v ((sl3 7).v N)) := by
  match j, hj with
  | 0, _ => exact cG70_is l hl N
  | 1, _ => exact cG71_is l hl N
  | 2, _ => exact cG72_is l hl N
  | 3, _ => exact cG73_is l hl N
  | 4, _ => exact cG74_is l hl N
  | 5, _ => exact cG75_is l hl N
  | 6, _ => exact cG76_is l hl N
  | 7, _ => exact cG77_is l hl N
theorem cG_is (i j l : Nat) (hi : i < 8) (hj : j < 8) (hl : l < 8) (N : F3) : (cG i j l).v N = (sl1 l).v ((sl2 j).v ((sl3 i).v N)) := by
  match i, hi with
  | 0, _ => exact cG0_is j l hj hl N
  | 1, _ => exact cG1_is j l hj hl N
  | 2, _ => exact cG2_is j l hj hl N
  | 3, _ => exact cG3_is j l hj hl N
  | 4, _ => exact cG4_is j l hj hl N
  | 5, _ => exact cG5_is j l hj hl N
  | 6, _ => exact cG6_is j l hj hl N
  | 7, _ => exact cG7_is j l hj hl N
theorem cP00_is (l : Nat) (hl : l < 8) (N : F3) (b : F0) : (cP00 l).v N b = (se3 0).v ((se2 0).v ((se1 l).v b ((sl2 0).v ((sl3 0).v N))) ((sl3 0).v N)) N := by
  match l, hl with
  | 0, _ => rfl
  | 1, _ => rfl
  | 2, _ => rfl
  | 3, _ => rfl
  | 4, _ => rfl
  | 5, _ => rfl
  | 6, _ => rfl
  | 7, _ => rfl
theorem cP01_is (l : Nat) (hl : l < 8) (N : F3) (b : F0) : (cP01 l).v N b = (se3 0).v ((se2 1).v ((se1 l).v b ((sl2 1).v ((sl3 0).v N))) ((sl3 0).v N)) N := by
  match l, hl with
  | 0, _ => rfl
  | 1, _ => rfl
  | 2, _ => rfl
  | 3, _ => rfl
  | 4, _ => rfl
  | 5, _ => rfl
  | 6, _ => rfl
  | 7, _ => rfl
theorem cP02_is (l : Nat) (hl : l < 8) (N : F3) (b : F0) : (cP02 l).v N b = (se3 0).v ((se2 2).v ((se1 l).v b ((sl2 2).v ((sl3 0).v N))) ((sl3 0).v N)) N := by
  match l, hl with
  | 0, _ => rfl
  | 1, _ => rfl
  | 2, _ => rfl
  | 3, _ => rfl
  | 4, _ => rfl
  | 5, _ => rfl
  | 6, _ => rfl
  | 7, _ => rfl
theorem cP03_is (l : Nat) (hl : l < 8) (N : F3) (b : F0) : (cP03 l).v N b = (se3 0).v ((se2 3).v ((se1 l).v b ((sl2 3).v ((sl3 0).v N))) ((sl3 0).v N)) N := by
  match l, hl with
  | 0, _ => rfl
  | 1, _ => rfl
  | 2, _ => rfl
  | 3, _ => rfl
  | 4, _ => rfl
  | 5, _ => rfl
  | 6, _ => rfl
  | 7, _ => rfl
theorem cP04_is (l : Nat) (hl : l < 8) (N : F3) (b : F0) : (cP04 l).v N b = (se3 0).v ((se2 4).v ((se1 l).v b ((sl2 4).v ((sl3 0).v N))) ((sl3 0).v N)) N := by
  match l, hl with
  | 0, _ => rfl
  | 1, _ => rfl
  | 2, _ => rfl
  | 3, _ => rfl
  | 4, _ => rfl
  | 5, _ => rfl
  | 6, _ => rfl
  | 7, _ => rfl
theorem cP05_is (l : Nat) (hl : l < 8) (N : F3) (b : F0) : (cP05 l).v N b = (se3 0).v ((se2 5).v ((se1 l).v b ((sl2 5).v ((sl3 0).v N))) ((sl3 0).v N)) N := by
  match l, hl with
  | 0, _ => rfl
  | 1, _ => rfl
  | 2, _ => rfl
  | 3, _ => rfl
  | 4, _ => rfl
  | 5, _ => rfl
  | 6, _ => rfl
  | 7, _ => rfl
theorem cP06_is (l : Nat) (hl : l < 8) (N : F3) (b : F0) : (cP06 l).v N b = (se3 0).v ((se2 6).v ((se1 l).v b ((sl2 6).v ((sl3 0).v N))) ((sl3 0).v N)) N := by
  match l, hl with
  | 0, _ => rfl
  | 1, _ => rfl
  | 2, _ => rfl
  | 3, _ => rfl
  | 4, _ => rfl
  | 5, _ => rfl
  | 6, _ => rfl
  | 7, _ => rfl
theorem cP07_is (l : Nat) (hl : l < 8) (N : F3) (b : F0) : (cP07 l).v N b = (se3 0).v ((se2 7).v ((se1 l).v b ((sl2 7).v ((sl3 0).v N))) ((sl3 0).v N)) N := by
  match l, hl with
  | 0, _ => rfl
  | 1, _ => rfl
  | 2, _ => rfl
  | 3, _ => rfl
  | 4, _ => rfl
  | 5, _ => rfl
  | 6, _ => rfl
  | 7, _ => rfl
theorem cP0_is (j l : Nat) (hj : j < 8) (hl : l < 8) (N : F3) (b : F0) : (cP0 j l).v N b = (se3 0).v ((se2 j).v ((se1 l).v b ((sl2 j).v ((sl3 0).v N))) ((sl3 0).v N)) N := by
  match j, hj with
  | 0, _ => exact cP00_is l hl N b
  | 1, _ => exact cP01_is l hl N b
  | 2, _ => exact cP02_is l hl N b
  | 3, _ => exact cP03_is l hl N b
  | 4, _ => exact cP04_is l hl N b
  | 5, _ => exact cP05_is l hl N b
  | 6, _ => exact cP06_is l hl N b
  | 7, _ => exact cP07_is l hl N b
theorem cP10_is (l : Nat) (hl : l < 8) (N : F3) (b : F0) : (cP10 l).v N b = (se3 1).v ((se2 0).v ((se1 l).v b ((sl2 0).v ((sl3 1).v N))) ((sl3 1).v N)) N := by
  match l, hl with
  | 0, _ => rfl
  | 1, _ => rfl
  | 2, _ => rfl
  | 3, _ => rfl
  | 4, _ => rfl
  | 5, _ => rfl
  | 6, _ => rfl
  | 7, _ => rfl
theorem cP11_is (l : Nat) (hl : l < 8) (N : F3) (b : F0) : (cP11 l).v N b = (se3 1).v ((se2 1).v ((se1 l).v b ((sl2 1).v ((sl3 1).v N))) ((sl3 1).v N)) N := by
  match l, hl with
  | 0, _ => rfl
  | 1, _ => rfl
  | 2, _ => rfl
  | 3, _ => rfl
  | 4, _ => rfl
  | 5, _ => rfl
  | 6, _ => rfl
  | 7, _ => rfl
theorem cP12_is (l : Nat) (hl : l < 8) (N : F3) (b : F0) : (cP12 l).v N b = (se3 1).v ((se2 2).v ((se1 l).v b ((sl2 2).v ((sl3 1).v N))) ((sl3 1).v N)) N := by
  match l, hl with
  | 0, _ => rfl
  | 1, _ => rfl
  | 2, _ => rfl
  | 3, _ => rfl
  | 4, _ => rfl
  | 5, _ => rfl
  | 6, _ => rfl
  | 7, _ => rfl
theorem cP13_is (l : Nat) (hl : l < 8) (N : F3) (b : F0) : (cP13 l).v N b = (se3 1).v ((se2 3).v ((se1 l).v b ((sl2 3).v ((sl3 1).v N))) ((sl3 1).v N)) N := by
  match l, hl with
  | 0, _ => rfl
  | 1, _ => rfl
  | 2, _ => rfl
  | 3, _ => rfl
  | 4, _ => rfl
  | 5, _ => rfl
  | 6, _ => rfl
  | 7, _ => rfl
theorem cP14_is (l : Nat) (hl : l < 8) (N : F3) (b : F0) : (cP14 l).v N b = (se3 1).v ((se2 4).v ((se1 l).v b ((sl2 4).v ((sl3 1).v N))) ((sl3 1).v N)) N := by
  match l, hl with
  | 0, _ => rfl
  | 1, _ => rfl
  | 2, _ => rfl
  | 3, _ => rfl
  | 4, _ => rfl
  | 5, _ => rfl
  | 6, _ => rfl
  | 7, _ => rfl
theorem cP15_is (l : Nat) (hl : l < 8) (N : F3) (b : F0) : (cP15 l).v N b = (se3 1).v ((se2 5).v ((se1 l).v b ((sl2 5).v ((sl3 1).v N))) ((sl3 1).v N)) N := by
  match l, hl with
  | 0, _ => rfl
  | 1, _ => rfl
  | 2, _ => rfl
  | 3, _ => rfl
  | 4, _ => rfl
  | 5, _ => rfl
  | 6, _ => rfl
  | 7, _ => rfl
theorem cP16_is (l : Nat) (hl : l < 8) (N : F3) (b : F0) : (cP16 l).v N b = (se3 1).v ((se2 6).v ((se1 l).v b ((sl2 6).v ((sl3 1).v N))) ((sl3 1).v N)) N := by
  match l, hl with
  | 0, _ => rfl
  | 1, _ => rfl
  | 2, _ => rfl
  | 3, _ => rfl
  | 4, _ => rfl
  | 5, _ => rfl
  | 6, _ => rfl
  | 7, _ => rfl
theorem cP17_is (l : Nat) (hl : l < 8) (N : F3) (b : F0) : (cP17 l).v N b = (se3 1).v ((se2 7).v ((se1 l).v b ((sl2 7).v ((sl3 1).v N))) ((sl3 1).v N)) N := by
  match l, hl with
  | 0, _ => rfl
  | 1, _ => rfl
  | 2, _ => rfl
  | 3, _ => rfl
  | 4, _ => rfl
  | 5, _ => rfl
  | 6, _ => rfl
  | 7, _ => rfl
theorem cP1_is (j l : Nat) (hj : j < 8) (hl : l < 8) (N : F3) (b : F0) : (cP1 j l).v N b = (se3 1).v ((se2 j).v ((se1 l).v b ((sl2 j).v ((sl3 1).v N))) ((sl3 1).v N)) N := by
  match j, hj with
  | 0, _ => exact cP10_is l hl N b
  | 1, _ => exact cP11_is l hl N b
  | 2, _ => exact cP12_is l hl N b
  | 3, _ => exact cP13_is l hl N b
  | 4, _ => exact cP14_is l hl N b
  | 5, _ => exact cP15_is l hl N b
  | 6, _ => exact cP16_is l hl N b
  | 7, _ => exact cP17_is l hl N b
theorem cP20_is (l : Nat) (hl : l < 8) (N : F3) (b : F0) : (cP20 l).v N b = (se3 2).v ((se2 0).v ((se1 l).v b ((sl2 0).v ((sl3 2).v N))) ((sl3 2).v N)) N := by
  match l, hl with
  | 0, _ => rfl
  | 1, _ => rfl
  | 2, _ => rfl
  | 3, _ => rfl
  | 4, _ => rfl
  | 5, _ => rfl
  | 6, _ => rfl
  | 7, _ => rfl
theorem cP21_is (l : Nat) (hl : l < 8) (N : F3) (b : F0) : (cP21 l).v N b = (se3 2).v ((se2 1).v ((se1 l).v b ((sl2 1).v ((sl3 2).v N))) ((sl3 2).v N)) N := by
  match l, hl with
  | 0, _ => rfl
  | 1, _ => rfl
  | 2, _ => rfl
  | 3, _ => rfl
  | 4, _ => rfl
  | 5, _ => rfl
  | 6, _ => rfl
  | 7, _ => rfl
theorem cP22_is (l : Nat) (hl : l < 8) (N : F3) (b : F0) : (cP22 l).v N b = (se3 2).v ((se2 2).v ((se1 l).v b ((sl2 2).v ((sl3 2).v N))) ((sl3 2).v N)) N := by
  match l, hl with
  | 0, _ => rfl
  | 1, _ => rfl
  | 2, _ => rfl
  | 3, _ => rfl
  | 4, _ => rfl
  | 5, _ => rfl
  | 6, _ => rfl
  | 7, _ => rfl
theorem cP23_is (l : Nat) (hl : l < 8) (N : F3) (b : F0) : (cP23 l).v N b = (se3 2).v ((se2 3).v ((se1 l).v b ((sl2 3).v ((sl3 2).v N))) ((sl3 2).v N)) N := by
  match l, hl with
  | 0, _ => rfl
  | 1, _ => rfl
  | 2, _ => rfl
  | 3, _ => rfl
  | 4, _ => rfl
  | 5, _ => rfl
  | 6, _ => rfl
  | 7, _ => rfl
theorem cP24_is (l : Nat) (hl : l < 8) (N : F3) (b : F0) : (cP24 l).v N b = (se3 2).v ((se2 4).v ((se1 l).v b ((sl2 4).v ((sl3 2).v N))) ((sl3 2).v N)) N := by
  match l, hl with
  | 0, _ => rfl
  | 1, _ => rfl
  | 2, _ => rfl
  | 3, _ => rfl
  | 4, _ => rfl
  | 5, _ => rfl
  | 6, _ => rfl
  | 7, _ => rfl
theorem cP25_is (l : Nat) (hl : l < 8) (N : F3) (b : F0) : (cP25 l).v N b = (se3 2).v ((se2 5).v ((se1 l).v b ((sl2 5).v ((sl3 2).v N))) ((sl3 2).v N)) N := by
  match l, hl with
  | 0, _ => rfl
  | 1, _ => rfl
  | 2, _ => rfl
  | 3, _ => rfl
  | 4, _ => rfl
  | 5, _ => rfl
  | 6, _ => rfl
  | 7, _ => rfl
theorem cP26_is (l : Nat) (hl : l < 8) (N : F3) (b : F0) : (cP26 l).v N b = (se3 2).v ((se2 6).v ((se1 l).v b ((sl2 6).v ((sl3 2).v N))) ((sl3 2).v N)) N := by
  match l, hl with
  | 0, _ => rfl
  | 1, _ => rfl
  | 2, _ => rfl
  | 3, _ => rfl
  | 4, _ => rfl
  | 5, _ => rfl
  | 6, _ => rfl
  | 7, _ => rfl
theorem cP27_is (l : Nat) (hl : l < 8) (N : F3) (b : F0) : (cP27 l).v N b = (se3 2).v ((se2 7).v ((se1 l).v b ((sl2 7).v ((sl3 2).v N))) ((sl3 2).v N)) N := by
  match l, hl with
  | 0, _ => rfl
  | 1, _ => rfl
  | 2, _ => rfl
  | 3, _ => rfl
  | 4, _ => rfl
  | 5, _ => rfl
  | 6, _ => rfl
  | 7, _ => rfl
theorem cP2_is (j l : Nat) (hj : j < 8) (hl : l < 8) (N : F3) (b : F0) : (cP2 j l).v N b = (se3 2).v ((se2 j).v ((se1 l).v b ((sl2 j).v ((sl3 2).v N))) ((sl3 2).v N)) N := by
  match j, hj with
  | 0, _ => exact cP20_is l hl N b
  | 1, _ => exact cP21_is l hl N b
  | 2, _ => exact cP22_is l hl N b
  | 3, _ => exact cP23_is l hl N b
  | 4, _ => exact cP24_is l hl N b
  | 5, _ => exact cP25_is l hl N b
  | 6, _ => exact cP26_is l hl N b
  | 7, _ => exact cP27_is l hl N b
theorem cP30_is (l : Nat) (hl : l < 8) (N : F3) (b : F0) : (cP30 l).v N b = (se3 3).v ((se2 0).v ((se1 l).v b ((sl2 0).v ((sl3 3).v N))) ((sl3 3).v N)) N := by
  match l, hl with
  | 0, _ => rfl
  | 1, _ => rfl
  | 2, _ => rfl
  | 3, _ => rfl
  | 4, _ => rfl
  | 5, _ => rfl
  | 6, _ => rfl
  | 7, _ => rfl
theorem cP31_is (l : Nat) (hl : l < 8) (N : F3) (b : F0) : (cP31 l).v N b = (se3 3).v ((se2 1).v ((se1 l).v b ((sl2 1).v ((sl3 3).v N))) ((sl3 3).v N)) N := by
  match l, hl with
  | 0, _ => rfl
  | 1, _ => rfl
  | 2, _ => rfl
  | 3, _ => rfl
  | 4, _ => rfl
  | 5, _ => rfl
  | 6, _ => rfl
  | 7, _ => rfl
theorem cP32_is (l : Nat) (hl : l < 8) (N : F3) (b : F0) : (cP32 l).v N b = (se3 3).v ((se2 2).v ((se1 l).v b ((sl2 2).v ((sl3 3).v N))) ((sl3 3).v N)) N := by
  match l, hl with
  | 0, _ => rfl
  | 1, _ => rfl
  | 2, _ => rfl
  | 3, _ => rfl
  | 4, _ => rfl
  | 5, _ => rfl
  | 6, _ => rfl
  | 7, _ => rfl
theorem cP33_is (l : Nat) (hl : l < 8) (N : F3) (b : F0) : (cP33 l).v N b = (se3 3).v ((se2 3).v ((se1 l).v b ((sl2 3).v ((sl3 3).v N))) ((sl3 3).v N)) N := by
  match l, hl with
  | 0, _ => rfl
  | 1, _ => rfl
  | 2, _ => rfl
  | 3, _ => rfl
  | 4, _ => rfl
  | 5, _ => rfl
  | 6, _ => rfl
  | 7, _ => rfl
theorem cP34_is (l : Nat) (hl : l < 8) (N : F3) (b : F0) : (cP34 l).v N b = (se3 3).v ((se2 4).v ((se1 l).v b ((sl2 4).v ((sl3 3).v N))) ((sl3 3).v N)) N := by
  match l, hl with
  | 0, _ => rfl
  | 1, _ => rfl
  | 2, _ => rfl
  | 3, _ => rfl
  | 4, _ => rfl
  | 5, _ => rfl
  | 6, _ => rfl
  | 7, _ => rfl
theorem cP35_is (l : Nat) (hl : l < 8) (N : F3) (b : F0) : (cP35 l).v N b = (se3 3).v ((se2 5).v ((se1 l).v b ((sl2 5).v ((sl3 3).v N))) ((sl3 3).v N)) N := by
  match l, hl with
  | 0, _ => rfl
  | 1, _ => rfl
  | 2, _ => rfl
  | 3, _ => rfl
  | 4, _ => rfl
  | 5, _ => rfl
  | 6, _ => rfl
  | 7, _ => rfl
theorem cP36_is (l : Nat) (hl : l < 8) (N : F3) (b : F0) : (cP36 l).v N b = (se3 3).v ((se2 6).v ((se1 l).v b ((sl2 6).v ((sl3 3).v N))) ((sl3 3).v N)) N := by
  match l, hl with
  | 0, _ => rfl
  | 1, _ => rfl
  | 2, _ => rfl
  | 3, _ => rfl
  | 4, _ => rfl
  | 5, _ => rfl
  | 6, _ => rfl
  | 7, _ => rfl
theorem cP37_is (l : Nat) (hl : l < 8) (N : F3) (b : F0) : (cP37 l).v N b = (se3 3).v ((se2 7).v ((se1 l).v b ((sl2 7).v ((sl3 3).v N))) ((sl3 3).v N)) N := by
  match l, hl with
  | 0, _ => rfl
  | 1, _ => rfl
  | 2, _ => rfl
  | 3, _ => rfl
  | 4, _ => rfl
  | 5, _ => rfl
  | 6, _ => rfl
  | 7, _ => rfl
theorem cP3_is (j l : Nat) (hj : j < 8) (hl : l < 8) (N : F3) (b : F0) : (cP3 j l).v N b = (se3 3).v ((se2 j).v ((se1 l).v b ((sl2 j).v ((sl3 3).v N))) ((sl3 3).v N)) N := by
  match j, hj with
  | 0, _ => exact cP30_is l hl N b
  | 1, _ => exact cP31_is l hl N b
  | 2, _ => exact cP32_is l hl N b
  | 3, _ => exact cP33_is l hl N b
  | 4, _ => exact cP34_is l hl N b
  | 5, _ => exact cP35_is l hl N b
  | 6, _ => exact cP36_is l hl N b
  | 7, _ => exact cP37_is l hl N b
theorem cP40_is (l : Nat) (hl : l < 8) (N : F3) (b : F0) : (cP40 l).v N b = (se3 4).v ((se2 0).v ((se1 l).v b ((sl2 0).v ((sl3 4).v N))) ((sl3 4).v N)) N := by
  match l, hl with
  | 0, _ => rfl
  | 1, _ => rfl
  | 2, _ => rfl
  | 3, _ => rfl
  | 4, _ => rfl
  | 5, _ => rfl
  | 6, _ => rfl
  | 7, _ => rfl
theorem cP41_is (l : Nat) (hl : l < 8) (N : F3) (b : F0) : (cP41 l).v N b = (se3 4).v ((se2 1).v ((se1 l).v b ((sl2 1).v ((sl3 4).v N))) ((sl3 4).v N)) N := by
  match l, hl with
  | 0, _ => rfl
  | 1, _ => rfl
  | 2, _ => rfl
  | 3, _ => rfl
  | 4, _ => rfl
  | 5, _ => rfl
  | 6, _ => rfl
  | 7, _ => rfl
theorem cP42_is (l : Nat) (hl : l < 8) (N : F3) (b : F0) : (cP42 l).v N b = (se3 4).v ((se2 2).v ((se1 l).v b ((sl2 2).v ((sl3 4).v N))) ((sl3 4).v N)) N := by
  match l, hl with
  | 0, _ => rfl
  | 1, _ => rfl
  | 2, _ => rfl
  | 3, _ => rfl
  | 4, _ => rfl
  | 5, _ => rfl
  | 6, _ => rfl
  | 7, _ => rfl
theorem cP43_is (l : Nat) (hl : l < 8) (N : F3) (b : F0) : (cP43 l).v N b = (se3 4).v ((se2 3).v ((se1 l).v b ((sl2 3).v ((sl3 4).v N))) ((sl3 4).v N)) N := by
  match l, hl with
  | 0, _ => rfl
  | 1, _ => rfl
  | 2, _ => rfl
  | 3, _ => rfl
  | 4, _ => rfl
  | 5, _ => rfl
  | 6, _ => rfl
  | 7, _ => rfl
theorem cP44_is (l : Nat) (hl : l < 8) (N : F3) (b : F0) : (cP44 l).v N b = (se3 4).v ((se2 4).v ((se1 l).v b ((sl2 4).v ((sl3 4).v N))) ((sl3 4).v N)) N := by
  match l, hl with
  | 0, _ => rfl
  | 1, _ => rfl
  | 2, _ => rfl
  | 3, _ => rfl
  | 4, _ => rfl
  | 5, _ => rfl
  | 6, _ => rfl
  | 7, _ => rfl
theorem cP45_is (l : Nat) (hl : l < 8) (N : F3) (b : F0) : (cP45 l).v N b = (se3 4).v ((se2 5).v ((se1 l).v b ((sl2 5).v ((sl3 4).v N))) ((sl3 4).v N)) N := by
  match l, hl with
  | 0, _ => rfl
  | 1, _ => rfl
  | 2, _ => rfl
  | 3, _ => rfl
  | 4, _ => rfl
  | 5, _ => rfl
  | 6, _ => rfl
  | 7, _ => rfl
theorem cP46_is (l : Nat) (hl : l < 8) (N : F3) (b : F0) : (cP46 l).v N b = (se3 4).v ((se2 6).v ((se1 l).v b ((sl2 6).v ((sl3 4).v N))) ((sl3 4).v N)) N := by
  match l, hl with
  | 0, _ => rfl
  | 1, _ => rfl
  | 2, _ => rfl
  | 3, _ => rfl
  | 4, _ => rfl
  | 5, _ => rfl
  | 6, _ => rfl
  | 7, _ => rfl
theorem cP47_is (l : Nat) (hl : l < 8) (N : F3) (b : F0) : (cP47 l).v N b = (se3 4).v ((se2 7).v ((se1 l).v b ((sl2 7).v ((sl3 4).v N))) ((sl3 4).v N)) N := by
  match l, hl with
  | 0, _ => rfl
  | 1, _ => rfl
  | 2, _ => rfl
  | 3, _ => rfl
  | 4, _ => rfl
  | 5, _ => rfl
  | 6, _ => rfl
  | 7, _ => rfl
theorem cP4_is (j l : Nat) (hj : j < 8) (hl : l < 8) (N : F3) (b : F0) : (cP4 j l).v N b = (se3 4).v ((se2 j).v ((se1 l).v b ((sl2 j).v ((sl3 4).v N))) ((sl3 4).v N)) N := by
  match j, hj with
  | 0, _ => exact cP40_is l hl N b
  | 1, _ => exact cP41_is l hl N b
  | 2, _ => exact cP42_is l hl N b
  | 3, _ => exact cP43_is l hl N b
  | 4, _ => exact cP44_is l hl N b
  | 5, _ => exact cP45_is l hl N b
  | 6, _ => exact cP46_is l hl N b
  | 7, _ => exact cP47_is l hl N b
theorem cP50_is (l : Nat) (hl : l < 8) (N : F3) (b : F0) : (cP50 l).v N b = (se3 5).v ((se2 0).v ((se1 l).v b ((sl2 0).v ((sl3 5).v N))) ((sl3 5).v N)) N := by
  match l, hl with
  | 0, _ => rfl
  | 1, _ => rfl
  | 2, _ => rfl
  | 3, _ => rfl
  | 4, _ => rfl
  | 5, _ => rfl
  | 6, _ => rfl
  | 7, _ => rfl
theorem cP51_is (l : Nat) (hl : l < 8) (N : F3) (b : F0) : (cP51 l).v N b = (se3 5).v ((se2 1).v ((se1 l).v b ((sl2 1).v ((sl3 5).v N))) ((sl3 5).v N)) N := by
  match l, hl with
  | 0, _ => rfl
  | 1, _ => rfl
  | 2, _ => rfl
  | 3, _ => rfl
  | 4, _ => rfl
  | 5, _ => rfl
  | 6, _ => rfl
  | 7, _ => rfl
theorem cP52_is (l : Nat) (hl : l < 8) (N : F3) (b : F0) : (cP52 l).v N b = (se3 5).v ((se2 2).v ((se1 l).v b ((sl2 2).v ((sl3 5).v N))) ((sl3 5).v N)) N := by
  match l, hl with
  | 0, _ => rfl
  | 1, _ => rfl
  | 2, _ => rfl
  | 3, _ => rfl
  | 4, _ => rfl
  | 5, _ => rfl
  | 6, _ => rfl
  | 7, _ => rfl
theorem cP53_is (l : Nat) (hl : l < 8) (N : F3) (b : F0) : (cP53 l).v N b = (se3 5).v ((se2 3).v ((se1 l).v b ((sl2 3).v ((sl3 5).v N))) ((sl3 5).v N)) N := by
  match l, hl with
  | 0, _ => rfl
  | 1, _ => rfl
  | 2, _ => rfl
  | 3, _ => rfl
  | 4, _ => rfl
  | 5, _ => rfl
  | 6, _ => rfl
  | 7, _ => rfl
theorem cP54_is (l : Nat) (hl : l < 8) (N : F3) (b : F0) : (cP54 l).v N b = (se3 5).v ((se2 4).v ((se1 l).v b ((sl2 4).v ((sl3 5).v N))) ((sl3 5).v N)) N := by
  match l, hl with
  | 0, _ => rfl
  | 1, _ => rfl
  | 2, _ => rfl
  | 3, _ => rfl
  | 4, _ => rfl
  | 5, _ => rfl
  | 6, _ => rfl
  | 7, _ => rfl
theorem cP55_is (l : Nat) (hl : l < 8) (N : F3) (b : F0) : (cP55 l).v N b = (se3 5).v ((se2 5).v ((se1 l).v b ((sl2 5).v ((sl3 5).v N))) ((sl3 5).v N)) N := by
  match l, hl with
  | 0, _ => rfl
  | 1, _ => rfl
  | 2, _ => rfl
  | 3, _ => rfl
  | 4, _ => rfl
  | 5, _ => rfl
  | 6, _ => rfl
  | 7, _ => rfl
theorem cP56_is (l : Nat) (hl : l < 8) (N : F3) (b : F0) : (cP56 l).v N b = (se3 5).v ((se2 6).v ((se1 l).v b ((sl2 6).v ((sl3 5).v N))) ((sl3 5).v N)) N := by
  match l, hl with
  | 0, _ => rfl
  | 1, _ => rfl
  | 2, _ => rfl
  | 3, _ => rfl
  | 4, _ => rfl
  | 5, _ => rfl
  | 6, _ => rfl
  | 7, _ => rfl
theorem cP57_is (l : Nat) (hl : l < 8) (N : F3) (b : F0) : (cP57 l).v N b = (se3 5).v ((se2 7).v ((se1 l).v b ((sl2 7).v ((sl3 5).v N))) ((sl3 5).v N)) N := by
  match l, hl with
  | 0, _ => rfl
  | 1, _ => rfl
  | 2, _ => rfl
  | 3, _ => rfl
  | 4, _ => rfl
  | 5, _ => rfl
  | 6, _ => rfl
  | 7, _ => rfl
theorem cP5_is (j l : Nat) (hj : j < 8) (hl : l < 8) (N : F3) (b : F0) : (cP5 j l).v N b = (se3 5).v ((se2 j).v ((se1 l).v b ((sl2 j).v ((sl3 5).v N))) ((sl3 5).v N)) N := by
  match j, hj with
  | 0, _ => exact cP50_is l hl N b
  | 1, _ => exact cP51_is l hl N b
  | 2, _ => exact cP52_is l hl N b
  | 3, _ => exact cP53_is l hl N b
  | 4, _ => exact cP54_is l hl N b
  | 5, _ => exact cP55_is l hl N b
  | 6, _ => exact cP56_is l hl N b
  | 7, _ => exact cP57_is l hl N b
theorem cP60_is (l : Nat) (hl : l < 8) (N : F3) (b : F0) : (cP60 l).v N b = (se3 6).v ((se2 0).v ((se1 l).v b ((sl2 0).v ((sl3 6).v N))) ((sl3 6).v N)) N := by
  match l, hl with
  | 0, _ => rfl
  | 1, _ => rfl
  | 2, _ => rfl
  | 3, _ => rfl
  | 4, _ => rfl
  | 5, _ => rfl
  | 6, _ => rfl
  | 7, _ => rfl
theorem cP61_is (l : Nat) (hl : l < 8) (N : F3) (b : F0) : (cP61 l).v N b = (se3 6).v ((se2 1).v ((se1 l).v b ((sl2 1).v ((sl3 6).v N))) ((sl3 6).v N)) N := by
  match l, hl with
  | 0, _ => rfl
  | 1, _ => rfl
  | 2, _ => rfl
  | 3, _ => rfl
  | 4, _ => rfl
  | 5, _ => rfl
  | 6, _ => rfl
  | 7, _ => rfl
theorem cP62_is (l : Nat) (hl : l < 8) (N : F3) (b : F0) : (cP62 l).v N b = (se3 6).v ((se2 2).v ((se1 l).v b ((sl2 2).v ((sl3 6).v N))) ((sl3 6).v N)) N := by
  match l, hl with
  | 0, _ => rfl
  | 1, _ => rfl
  | 2, _ => rfl
  | 3, _ => rfl
  | 4, _ => rfl
  | 5, _ => rfl
  | 6, _ => rfl
  | 7, _ => rfl
theorem cP63_is (l : Nat) (hl : l < 8) (N : F3) (b : F0) : (cP63 l).v N b = (se3 6).v ((se2 3).v ((se1 l).v b ((sl2 3).v ((sl3 6).v N))) ((sl3 6).v N)) N := by
  match l, hl with
  | 0, _ => rfl
  | 1, _ => rfl
  | 2, _ => rfl
  | 3, _ => rfl
  | 4, _ => rfl
  | 5, _ => rfl
  | 6, _ => rfl
  | 7, _ => rfl
theorem cP64_is (l : Nat) (hl : l < 8) (N : F3) (b : F0) : (cP64 l).v N b = (se3 6).v ((se2 4).v ((se1 l).v b ((sl2 4).v ((sl3 6).v N))) ((sl3 6).v N)) N := by
  match l, hl with
  | 0, _ => rfl
  | 1, _ => rfl
  | 2, _ => rfl
  | 3, _ => rfl
  | 4, _ => rfl
  | 5, _ => rfl
  | 6, _ => rfl
  | 7, _ => rfl
theorem cP65_is (l : Nat) (hl : l < 8) (N : F3) (b : F0) : (cP65 l).v N b = (se3 6).v ((se2 5).v ((se1 l).v b ((sl2 5).v ((sl3 6).v N))) ((sl3 6).v N)) N := by
  match l, hl with
  | 0, _ => rfl
  | 1, _ => rfl
  | 2, _ => rfl
  | 3, _ => rfl
  | 4, _ => rfl
  | 5, _ => rfl
  | 6, _ => rfl
  | 7, _ => rfl
theorem cP66_is (l : Nat) (hl : l < 8) (N : F3) (b : F0) : (cP66 l).v N b = (se3 6).v ((se2 6).v ((se1 l).v b ((sl2 6).v ((sl3 6).v N))) ((sl3 6).v N)) N := by
  match l, hl with
  | 0, _ => rfl
  | 1, _ => rfl
  | 2, _ => rfl
  | 3, _ => rfl
  | 4, _ => rfl
  | 5, _ => rfl
  | 6, _ => rfl
  | 7, _ => rfl
theorem cP67_is (l : Nat) (hl : l < 8) (N : F3) (b : F0) : (cP67 l).v N b = (se3 6).v ((se2 7).v ((se1 l).v b ((sl2 7).v ((sl3 6).v N))) ((sl3 6).v N)) N := by
  match l, hl with
  | 0, _ => rfl
  | 1, _ => rfl
  | 2, _ => rfl
  | 3, _ => rfl
  | 4, _ => rfl
  | 5, _ => rfl
  | 6, _ => rfl
  | 7, _ => rfl
theorem cP6_is (j l : Nat) (hj : j < 8) (hl : l < 8) (N : F3) (b : F0) : (cP6 j l).v N b = (se3 6).v ((se2 j).v ((se1 l).v b ((sl2 j).v ((sl3 6).v N))) ((sl3 6).v N)) N := by
  match j, hj with
  | 0, _ => exact cP60_is l hl N b
  | 1, _ => exact cP61_is l hl N b
  | 2, _ => exact cP62_is l hl N b
  | 3, _ => exact cP63_is l hl N b
  | 4, _ => exact cP64_is l hl N b
  | 5, _ => exact cP65_is l hl N b
  | 6, _ => exact cP66_is l hl N b
  | 7, _ => exact cP67_is l hl N b
theorem cP70_is (l : Nat) (hl : l < 8) (N : F3) (b : F0) : (cP70 l).v N b = (se3 7).v ((se2 0).v ((se1 l).v b ((sl2 0).v ((sl3 7).v N))) ((sl3 7).v N)) N := by
  match l, hl with
  | 0, _ => rfl
  | 1, _ => rfl
  | 2, _ => rfl
  | 3, _ => rfl
  | 4, _ => rfl
  | 5, _ => rfl
  | 6, _ => rfl
  | 7, _ => rfl
theorem cP71_is (l : Nat) (hl : l < 8) (N : F3) (b : F0) : (cP71 l).v N b = (se3 7).v ((se2 1).v ((se1 l).v b ((sl2 1).v ((sl3 7).v N))) ((sl3 7).v N)) N := by
  match l, hl with
  | 0, _ => rfl
  | 1, _ => rfl
  | 2, _ => rfl
  | 3, _ => rfl
  | 4, _ => rfl
  | 5, _ => rfl
  | 6, _ => rfl
  | 7, _ => rfl
theorem cP72_is (l : Nat) (hl : l < 8) (N : F3) (b : F0) : (cP72 l).v N b = (se3 7).v ((se2 2).v ((se1 l).v b ((sl2 2).v ((sl3 7).v N))) ((sl3 7).v N)) N := by
  match l, hl with
  | 0, _ => rfl
  | 1, _ => rfl
  | 2, _ => rfl
  | 3, _ => rfl
  | 4, _ => rfl
  | 5, _ => rfl
  | 6, _ => rfl
  | 7, _ => rfl
theorem cP73_is (l : Nat) (hl : l < 8) (N : F3) (b : F0) : (cP73 l).v N b = (se3 7).v ((se2 3).v ((se1 l).v b ((sl2 3).v ((sl3 7).v N))) ((sl3 7).v N)) N := by
  match l, hl with
  | 0, _ => rfl
  | 1, _ => rfl
  | 2, _ => rfl
  | 3, _ => rfl
  | 4, _ => rfl
  | 5, _ => rfl
  | 6, _ => rfl
  | 7, _ => rfl
theorem cP74_is (l : Nat) (hl : l < 8) (N : F3) (b : F0) : (cP74 l).v N b = (se3 7).v ((se2 4).v ((se1 l).v b ((sl2 4).v ((sl3 7).v N))) ((sl3 7).v N)) N := by
  match l, hl with
  | 0, _ => rfl
  | 1, _ => rfl
  | 2, _ => rfl
  | 3, _ => rfl
  | 4, _ => rfl
  | 5, _ => rfl
  | 6, _ => rfl
  | 7, _ => rfl
theorem cP75_is (l : Nat) (hl : l < 8) (N : F3) (b : F0) : (cP75 l).v N b = (se3 7).v ((se2 5).v ((se1 l).v b ((sl2 5).v ((sl3 7).v N))) ((sl3 7).v N)) N := by
  match l, hl with
  | 0, _ => rfl
  | 1, _ => rfl
  | 2, _ => rfl
  | 3, _ => rfl
  | 4, _ => rfl
  | 5, _ => rfl
  | 6, _ => rfl
  | 7, _ => rfl
theorem cP76_is (l : Nat) (hl : l < 8) (N : F3) (b : F0) : (cP76 l).v N b = (se3 7).v ((se2 6).v ((se1 l).v b ((sl2 6).v ((sl3 7).v N))) ((sl3 7).v N)) N := by
  match l, hl with
  | 0, _ => rfl
  | 1, _ => rfl
  | 2, _ => rfl
  | 3, _ => rfl
  | 4, _ => rfl
  | 5, _ => rfl
  | 6, _ => rfl
  | 7, _ => rfl
theorem cP77_is (l : Nat) (hl : l < 8) (N : F3) (b : F0) : (cP77 l).v N b = (se3 7).v ((se2 7).v ((se1 l).v b ((sl2 7).v ((sl3 7).v N))) ((sl3 7).v N)) N := by
  match l, hl with
  | 0, _ => rfl
  | 1, _ => rfl
  | 2, _ => rfl
  | 3, _ => rfl
  | 4, _ => rfl
  | 5, _ => rfl
  | 6, _ => rfl
  | 7, _ => rfl
theorem cP7_is (j l : Nat) (hj : j < 8) (hl : l < 8) (N : F3) (b : F0) : (cP7 j l).v N b = (se3 7).v ((se2 j).v ((se1 l).v b ((sl2 j).v ((sl3 7).v N))) ((sl3 7).v N)) N := by
  match j, hj with
  | 0, _ => exact cP70_is l hl N b
  | 1, _ => exact cP71_is l hl N b
  | 2, _ => exact cP72_is l hl N b
  | 3, _ => exact cP73_is l hl N b
  | 4, _ => exact cP74_is l hl N b
  | 5, _ => exact cP75_is l hl N b
  | 6, _ => exact cP76_is l hl N b
  | 7, _ => exact cP77_is l hl N b
theorem cP_is (i j l : Nat) (hi : i < 8) (hj : j < 8) (hl : l < 8) (N : F3) (b : F0) : (cP i j l).v N b = (se3 i).v ((se2 j).v ((se1 l).v b ((sl2 j).v ((sl3 i).v N))) ((sl3 i).v N)) N := by
  match i, hi with
  | 0, _ => exact cP0_is j l hj hl N b
  | 1, _ => exact cP1_is j l hj hl N b
  | 2, _ => exact cP2_is j l hj hl N b
  | 3, _ => exact cP3_is j l hj hl N b
  | 4, _ => exact cP4_is j l hj hl N b
  | 5, _ => exact cP5_is j l hj hl N b
  | 6, _ => exact cP6_is j l hj hl N b
  | 7, _ => exact cP7_is j l hj hl N b
theorem cGet_lt {k : Nat} (h : k < 512) (N : F3) : (cGet k).v N = (sl1 (k % 8)).v ((sl2 (k / 8 % 8)).v ((sl3 (k / 64)).v N)) := by
  unfold cGet
  have e : Nat.blt k 512 = true := Nat.ble_eq_true_of_le h
  rw [e]
  exact cG_is _ _ _ (show k / 64 < 8 by omega) (show k / 8 % 8 < 8 by omega) (show k % 8 < 8 by omega) N
theorem cGet_ge {k : Nat} (h : ¬ k < 512) (N : F3) : (cGet k).v N = w0 := by
  unfold cGet
  have e : Nat.blt k 512 = false := by
    cases e : Nat.blt k 512 with
    | false => rfl
    | true => exact absurd (Nat.le_of_ble_eq_true e) h
  rw [e]
  rfl
theorem cGet_cPut {k : Nat} (hk : k < 512) (j : Nat) (N : F3) (b : F0) : (cGet j).v ((cPut k).v N b) = if j = k then b else (cGet j).v N := by
  by_cases hj : j < 512
  · rw [cGet_lt hj, cGet_lt hj]
    rw [show (cPut k).v N b = _ from cP_is (k / 64) (k / 8 % 8) (k % 8) (by omega) (by omega) (by omega) N b]
    rw [sese3 _ _ (by omega) (by omega)]
    by_cases h1 : j / 64 = k / 64
    · rw [if_pos h1, sese2 _ _ (by omega) (by omega)]
      by_cases h2 : j / 8 % 8 = k / 8 % 8
      · rw [if_pos h2, sese1 _ _ (by omega) (by omega)]
        by_cases h3 : j % 8 = k % 8
        · rw [if_pos h3, if_pos (by omega)]
        · rw [if_neg h3, if_neg (by omega), h1, h2]
      · rw [if_neg h2, if_neg (by omega), h1]
    · rw [if_neg h1, if_neg (by omega)]
  · rw [cGet_ge hj, cGet_ge hj, if_neg (by omega)]
def EnvR (N : F3) (A : T Value) : Prop := ∀ k, ((cGet k).v N).v = tg A k
theorem EnvR.put {N : F3} {A : T Value} (h : EnvR N A) {k : Nat} (hk : k < 512) (v : Value) : EnvR ((cPut k).v N ⟨v⟩) (A.put (some v) k) := fun j => by
  rw [cGet_cPut hk]
  unfold tg
  rw [get_put]
  by_cases e : j = k
  · rw [if_pos e, if_pos e]; rfl
  · rw [if_neg e, if_neg e]; exact h j
def dstOk (d : Option Tmp) : Prop := ∀ k, d = some k → k < 512
theorem EnvR.dst {N : F3} {A : T Value} (h : EnvR N A) {d : Option Tmp} (hd : dstOk d) (v : Value) : EnvR ((cDst d).v N ⟨v⟩) (putA A d v) := by
  cases d with
  | none => exact h
  | some k => exact h.put (hd k rfl) v
theorem sel_w (k : Nat) : (cGet k).v w3 = w0 := by
  by_cases h : k < 512
  · rw [cGet_lt h]
    have e3 : ∀ i, (sl3 i).v w3 = w2 := fun i => by unfold sl3; split <;> rfl
    have e2 : ∀ i, (sl2 i).v w2 = w1 := fun i => by unfold sl2; split <;> rfl
    have e1 : ∀ i, (sl1 i).v w1 = w0 := fun i => by unfold sl1; split <;> rfl
    rw [e3, e2, e1]
  · exact cGet_ge h _
theorem envR_empty : EnvR w3 .lf := fun k => by rw [sel_w]; rfl

/-! ## operands -/
section
variable {N : F3} {A : T Value}
theorem cVal_eq (h : EnvR N A) (x : Operand) : (cVal x).v N = ev A x := by
  cases x with
  | tmp t => exact h t
  | _ => rfl
theorem cF0_eq (h : EnvR N A) (x : Operand) : (cF0 x).v N = ⟨ev A x⟩ := by
  cases x with
  | tmp t =>
    show (cGet t).v N = ⟨tg A t⟩
    rw [← h t]
  | _ => rfl
theorem cVals_eq (h : EnvR N A) : ∀ l : List Operand, (cVals l).v N = l.map (ev A)
  | [] => rfl
  | x :: r => by
    show (cVal x).v N :: (cVals r).v N = _
    rw [cVal_eq h, cVals_eq h r]
    rfl
theorem cParts_eq (h : EnvR N A) : ∀ l : List (Nat × Operand), (cParts l).v N = l.map fun p => (p.1, ev A p.2)
  | [] => rfl
  | p :: r => by
    show (p.1, (cVal p.2).v N) :: (cParts r).v N = _
    rw [cVal_eq h, cParts_eq h r]
    rfl
theorem cOpt_eq (h : EnvR N A) (x : Option Operand) : (cOpt x).v N = x.map (ev A) := by
  cases x with
  | none => rfl
  | some x => show some ((cVal x).v N) = _; rw [cVal_eq h]; rfl

/-! ## what an operation gives -/
theorem callPureV_eq (c : Call) : callPureV P c.callee c.argTypes.toList (c.args.toList.map (ev A)) = callPure P c A := by
  unfold callPureV callPure
  split <;> split <;> simp_all
theorem cPure_eq (h : EnvR N A) (o : Op) : (cPure P o).v N = evPure o P A := by
  cases o with
  | move x => show some ((cVal x).v N) = _; rw [cVal_eq h]; rfl
  | assign x => show some ((cVal x).v N) = _; rw [cVal_eq h]; rfl
  | pick c a b => show ob (asB ((cVal c).v N)) (fun t => bsel t (some ((cVal b).v N)) (some ((cVal a).v N))) = _; rw [cVal_eq h, cVal_eq h, cVal_eq h]; rfl
  | build t ps => show buildV P t ((cParts ps.toList).v N) = _; rw [cParts_eq h]; rfl
  | nilCheck x => show nilChk P ((cVal x).v N) = _; rw [cVal_eq h]; rfl
  | binOp op t x y q => show binA (isConst x || isConst y) P op t ((cVal x).v N) ((cVal y).v N) = _; rw [cVal_eq h, cVal_eq h]; rfl
  | makeInterface t x => show mkIface P t ((cVal x).v N) = _; rw [cVal_eq h]; rfl
  | unOp op t x => show unV op ((cVal x).v N) = _; rw [cVal_eq h]; rfl
  | convert s d x => show convPure P s d ((cVal x).v N) = _; rw [cVal_eq h]; rfl
  | makeFunc fn f c => show makeFuncV fn ((cVals f.toList).v N) ((cVals c.toList).v N) = _; rw [cVals_eq h, cVals_eq h]; rfl
  | slice t x lo hi mx => show sliceS P t ((cVal x).v N) ((cOpt lo).v N) ((cOpt hi).v N) ((cOpt mx).v N) = _; rw [cVal_eq h, cOpt_eq h, cOpt_eq h, cOpt_eq h]; rfl
  | fieldAddr t x f => show fieldAddrV P t f ((cVal x).v N) = _; rw [cVal_eq h]; rfl
  | field t x f => show fieldV P t f ((cVal x).v N) = _; rw [cVal_eq h]; rfl
  | indexAddr t x i => show indexAddrV P t ((cVal x).v N) ((cVal i).v N) = _; rw [cVal_eq h, cVal_eq h]; rfl
  | index t x i => show indexV P t ((cVal x).v N) ((cVal i).v N) = _; rw [cVal_eq h, cVal_eq h]; rfl
  | extract t i => show extractV i ((cVal t).v N) = _; rw [cVal_eq h]; rfl
  | call c => show callPureV P c.callee c.argTypes.toList ((cVals c.args.toList).v N) = _; rw [cVals_eq h, callPureV_eq]; rfl
  | _ => rfl
theorem cNew_eq (h : EnvR N A) (o : Op) : (cNew P o).v N = evNew o P A := by
  cases o with
  | box t x => show boxV ((cVal x).v N) = _; rw [cVal_eq h]; rfl
  | buildSlice t len ps => show buildSliceV P t len ((cParts ps.toList).v N) = _; rw [cParts_eq h]; rfl
  | makeMap t r =>
    show makeMapO P t ((cOpt r).v N) = makeMapV P A t r
    rw [cOpt_eq h]
    cases r <;> rfl
  | makeSlice t l c => show makeSliceV P t ((cVal l).v N) ((cVal c).v N) = _; rw [cVal_eq h, cVal_eq h]; rfl
  | _ => rfl
theorem cRead_eq (h : EnvR N A) (o : Op) (st : St) : (cRead P o).v N st = evRead o P A st := by
  cases o with
  | load t a => show ob (asP ((cVal a).v N)) (loadV P st t) = _; rw [cVal_eq h]; rfl
  | convert s d x => show toStr P st s d ((cVal x).v N) = _; rw [cVal_eq h]; rfl
  | slice t x lo hi mx => show sliceV P st t ((cVal x).v N) ((cOpt lo).v N) ((cOpt hi).v N) ((cOpt mx).v N) = _; rw [cVal_eq h, cOpt_eq h, cOpt_eq h, cOpt_eq h]; rfl
  | lookup t x k ok => show lookupV P st t ((cVal x).v N) ((cVal k).v N) ok = _; rw [cVal_eq h, cVal_eq h]; rfl
  | entry it => show entryV st ((cVal it).v N) = _; rw [cVal_eq h]; rfl
  | call c => show lenMap P st c.argTypes.toList ((cVals c.args.toList).v N) = _; rw [cVals_eq h]; rfl
  | _ => rfl
theorem cCall_eq (h : EnvR N A) (c : Call) (E : Env) (st : St) : (cCall P c).v E N st = callGen P c E A st := by
  obtain ⟨ce, args, ts⟩ := c
  have hs := cVals_eq h args.toList
  cases ce with
  | value f => show E.call ((cVal f).v N) ((cVals args.toList).v N) st = _; rw [hs, cVal_eq h]; rfl
  | invoke r m => show E.call (.func (.method m) #[] #[]) ((cVal r).v N :: (cVals args.toList).v N) st = _; rw [hs, cVal_eq h]; rfl
  | builtin b =>
    cases b with
    | append => show appendV P st ts.toList ((cVals args.toList).v N) = _; rw [hs]; rfl
    | copy => show copyV P st ts.toList ((cVals args.toList).v N) = _; rw [hs]; rfl
    | delete => show delV P st ts.toList ((cVals args.toList).v N) = _; rw [hs]; rfl
    | _ => rfl
theorem cGen_eq (h : EnvR N A) (o : Op) (E : Env) (st : St) : (cGen P o).v E N st = evGen o P E A st := by
  cases o with
  | insert t m k x => show retU (updV P st t ((cVal m).v N) ((cVal k).v N) ((cVal x).v N)) = _; rw [cVal_eq h, cVal_eq h, cVal_eq h]; rfl
  | mapUpdate t m k x => show retU (updV P st t ((cVal m).v N) ((cVal k).v N) ((cVal x).v N)) = _; rw [cVal_eq h, cVal_eq h, cVal_eq h]; rfl
  | store t a x => show ob (asP ((cVal a).v N)) (storeAtV P t st ((cVal x).v N)) = _; rw [cVal_eq h, cVal_eq h]; rfl
  | convert s d x => show toBytes P st s d ((cVal x).v N) = _; rw [cVal_eq h]; rfl
  | range t x => show rangeV P st t ((cVal x).v N) = _; rw [cVal_eq h]; rfl
  | next it s => show nextV st ((cVal it).v N) s = _; rw [cVal_eq h]; rfl
  | call c => exact cCall_eq h c E st
  | _ => rfl
end
end Go.Ev

namespace Go.Ev
set_option linter.unusedSectionVars false
variable [OTab]
variable {P : Program}

theorem fz_is {β : Type} (v : Value) (k : Value → Option β) : fz v k = k v := by
  cases v with
  | bool b => cases b <;> rfl
  | int kd n =>
    cases n with
    | ofNat x => show bsel (Nat.ble x x) none (k (.int kd (.ofNat x))) = _; rw [Nat.ble_self_eq_true]; rfl
    | negSucc x => show bsel (Nat.ble x x) none (k (.int kd (.negSucc x))) = _; rw [Nat.ble_self_eq_true]; rfl
  | _ => rfl
theorem fzS_is {β : Type} (st : St) (k : St → Option β) : fzS st k = k st := by
  obtain ⟨⟨⟨l, r⟩, u⟩, nxt, low⟩ := st
  show fzN nxt (fzN low (fzM ⟨⟨l, r⟩, u⟩ (fzS1 (Nat.add nxt 0) low k))) = _
  unfold fzN
  rw [Nat.ble_self_eq_true, Nat.ble_self_eq_true, bsel_true, bsel_true]
  rfl
theorem evOps_is {E : Env} {ops : Array Oper} {o : Oper} {l : List Oper} {A : T Value} {st : St} : evOps P E ops (o :: l) A st =
    if wantedA ops A o.guard = true then (ob (evOp P o.op E A st) fun p => evOps P E ops l (putA A o.dst p.1) p.2) else evOps P E ops l (putA A o.dst undef) st := by
  show bsel (wantedA ops A o.guard) (idd (evOps P E ops l (putA A o.dst undef) st)) (ob (evOp P o.op E A st) (opsK (evOps P E ops l) A o.dst)) = _
  cases wantedA ops A o.guard with
  | false => rfl
  | true =>
    rw [bsel_true, if_pos rfl]
    cases evOp P o.op E A st with
    | none => rfl
    | some p =>
      show opsK (evOps P E ops l) A o.dst p = evOps P E ops l (putA A o.dst p.1) p.2
      unfold opsK
      rw [fz_is]
      unfold opsK2
      rw [fzS_is]
      rfl
def OE {α β : Type} (R : α → β → Prop) : Option α → Option β → Prop
  | none, none => True
  | some a, some b => R a b
  | _, _ => False
theorem OE.bind {α β γ δ : Type} {R : α → β → Prop} {S : γ → δ → Prop} {x : Option α} {y : Option β} {f : α → Option γ} {g : β → Option δ} (h : OE R x y) (hf : ∀ a b, R a b → OE S (f a) (g b)) : OE S (ob x f) (ob y g) := by
  cases x <;> cases y
  · exact h
  · exact h.elim
  · exact h.elim
  · exact hf _ _ h
theorem OE.same {α γ δ : Type} {S : γ → δ → Prop} {x : Option α} {f : α → Option γ} {g : α → Option δ} (hf : ∀ a, OE S (f a) (g a)) : OE S (ob x f) (ob x g) := by
  cases x with
  | none => trivial
  | some a => exact hf a
theorem OE.gd {γ δ : Type} {S : γ → δ → Prop} {b : Bool} {f : Option γ} {g : Option δ} (hf : OE S f g) : OE S (gd b f) (gd b g) := by
  cases b
  · trivial
  · exact hf
theorem OE.bsel {γ δ : Type} {S : γ → δ → Prop} {b : Bool} {f f' : Option γ} {g g' : Option δ} (hf : OE S f g) (hg : OE S f' g') : OE S (bsel b f f') (bsel b g g') := by
  cases b
  · exact hf
  · exact hg

theorem obV_is (x : Option Value) (k : Value → Option OR) : obV x k = ob x k := by cases x <;> rfl
theorem obN_is (x : Option NewV) (k : NewV → Option OR) : obN x k = ob x k := by cases x <;> rfl
theorem obP_is (x : Option (Value × St)) (k : Value × St → Option OR) : obP x k = ob x k := by cases x <;> rfl
theorem bselO_is (b : Bool) (f t : Option OR) : bselO b f t = bsel b f t := by cases b <;> rfl
theorem gdO_is (b : Bool) (t : Option OR) : gdO b t = gd b t := by cases b <;> rfl
theorem fzI_eq (n : Int) (kd : IntKind) (c : Value → Option OR) : fzI n kd c = c (.int kd n) := by
  cases n with
  | ofNat m => cases m <;> rfl
  | negSucc m => cases m <;> rfl
theorem fzO_is (v : Value) (k : Value → Option OR) : fzO v k = k v := by
  cases v with
  | bool b => cases b <;> rfl
  | int kd n => exact fzI_eq n kd k
  | _ => rfl
theorem fzNO_is (n : Nat) (k : Nat → Option OR) : fzNO n k = k n := by cases n <;> rfl
theorem fzSO_is (st : St) (k : St → Option OR) : fzSO st k = k st := by
  obtain ⟨⟨⟨l, r⟩, u⟩, nxt, low⟩ := st
  show fzNO nxt (fzSO1 low ⟨⟨l, r⟩, u⟩ k) = _
  rw [fzNO_is]
  show fzNO low (fzSO2 nxt ⟨⟨l, r⟩, u⟩ k) = _
  rw [fzNO_is]
  rfl
/-! ## one operation -/
section
variable {N : F3} {A : T Value} {E : Env} {st : St} {pt : PutF} {r : Bx KO}
theorem fzBo_eq (b : Bool) (c : Value → Option OR) : fzBo b c = c (.bool b) := by cases b <;> rfl
theorem nxZ_eq (v : Value) : nxZ pt r E N st v = r.v E (pt N ⟨v⟩) st := fzO_is v _
theorem kn_inj {k k' : IntKind} (h : kn k = kn k') : k = k' := by
  cases k <;> cases k' <;> first | rfl | (exfalso; revert h; decide)
theorem binA_int (c : Bool) (op : BinOp) (t : TypeId) (k k' : IntKind) (a b : Int) : binA c P op t (.int k a) (.int k' b) = binV P op t (.int k a) (.int k' b) := by
  have h0 : nilCmp P op t (.int k a) (.int k' b) = none := by
    unfold nilCmp
    cases ifaceT P t <;> rfl
  unfold binA
  rw [h0]
  cases c
  · rfl
  · show alt (binV P op t (.int k a) (.int k' b)) none = _
    cases binV P op t (.int k a) (.int k' b) <;> rfl
theorem kInt_eq {f : IntK} {op : BinOp} {t : TypeId} (hf : cIK op = some ⟨f⟩) {x y : F3 → Value} {p : F3 → Option Value} {c : Bool} (hp : p N = binA c P op t (x N) (y N)) : kInt f x y p pt r E N st = kPure p pt r E N st := by
  unfold kInt
  cases hx : x N with
  | int k a =>
    show kInt2 f y p pt r E N st k a = _
    unfold kInt2
    cases hy : y N with
    | int k' b =>
      show kInt3 f p pt r E N st k a k' b = _
      unfold kInt3
      by_cases hk : kn k = kn k'
      · obtain rfl := kn_inj hk
        rw [show Nat.beq (kn k) (kn k) = true from Nat.beq_refl _, bselO_is, bsel_true]
        unfold kPure
        rw [obV_is, hp, hx, hy, binA_int]
        cases op <;> simp only [cIK, Option.some.injEq, Bx.mk.injEq, reduceCtorEq] at hf <;> subst hf
        all_goals first
          | (show fzI _ k (nx pt r E N st) = ob (gd (kindEq k k) (some _)) (nxZ pt r E N st)
             rw [fzI_eq, kind_self]
             exact (nxZ_eq _).symm)
          | (show fzBo _ (nx pt r E N st) = ob (gd (kindEq k k) (some _)) (nxZ pt r E N st)
             rw [fzBo_eq, kind_self]
             exact (nxZ_eq _).symm)
      · have e : Nat.beq (kn k) (kn k') = false := by
          cases e : Nat.beq (kn k) (kn k') with
          | false => rfl
          | true => exact absurd (Nat.eq_of_beq_eq_true e) hk
        rw [e, bselO_is, bsel_false]
    | _ => rfl
  | _ => rfl
theorem ob_ob {α β γ : Type} (x : Option α) (f : α → Option β) (g : β → Option γ) : ob (ob x f) g = ob x fun a => ob (f a) g := by cases x <;> rfl
theorem kPure_eq (h : EnvR N A) (o : Op) (hc : cls P o = 0) : kPure (cPure P o).v pt r E N st = ob (evOp P o E A st) fun p => r.v E (pt N ⟨p.1⟩) p.2 := by
  unfold evOp
  rw [hc]
  show _ = ob (ob (evPure o P A) (mkVal st)) _
  rw [ob_ob, ← cPure_eq h]
  unfold kPure
  rw [obV_is]
  cases (cPure P o).v N with
  | none => rfl
  | some v => exact nxZ_eq v
theorem cCls_eq (h : EnvR N A) (o : Op) : (cCls P o (cls P o) pt r).v E N st = ob (evOp P o E A st) fun p => r.v E (pt N ⟨p.1⟩) p.2 := by
  match hc : cls P o with
  | 0 =>
    have hp := kPure_eq (E := E) (st := st) (pt := pt) (r := r) h o hc
    cases o with
    | move x =>
      rw [← hp]
      show fzB ((cF0 x).v N) (nxB pt r E N st) = obV (some ((cVal x).v N)) (nxZ pt r E N st)
      rw [obV_is]
      rw [cF0_eq h, cVal_eq h]
      exact (nxZ_eq _).symm
    | assign x =>
      rw [← hp]
      show fzB ((cF0 x).v N) (nxB pt r E N st) = obV (some ((cVal x).v N)) (nxZ pt r E N st)
      rw [obV_is]
      rw [cF0_eq h, cVal_eq h]
      exact (nxZ_eq _).symm
    | binOp op t x y q =>
      rw [← hp]
      show (kIntO (cIK op) (cVal x).v (cVal y).v (cPure P (.binOp op t x y q)).v pt r).v E N st = _
      cases hf : cIK op with
      | none => rfl
      | some f => obtain ⟨f⟩ := f; exact kInt_eq hf rfl
    | _ => exact hp
  | 1 =>
    show kNew (cNew P o).v pt r E N st = _
    unfold evOp
    rw [hc]
    show _ = ob (ob (evNew o P A) (mkNew st)) _
    rw [ob_ob, ← cNew_eq h]
    unfold kNew
    rw [obN_is]
    cases (cNew P o).v N with
    | none => rfl
    | some n =>
      show fzSO (st.push (n.b st.nxt)) (nxS pt r E N (n.v st.nxt)) = _
      rw [fzSO_is]
      rfl
  | 2 =>
    show kRead (cRead P o).v pt r E N st = _
    unfold evOp
    rw [hc]
    show _ = ob (ob (evRead o P A st) (mkVal st)) _
    rw [ob_ob, ← cRead_eq h]
    unfold kRead
    rw [obV_is]
    cases (cRead P o).v N st with
    | none => rfl
    | some v => exact nxZ_eq v
  | n + 3 =>
    show kGen (cGen P o).v pt r E N st = _
    unfold evOp
    rw [hc]
    show _ = ob (evGen o P E A st) _
    rw [← cGen_eq h]
    unfold kGen
    rw [obP_is]
    cases (cGen P o).v E N st with
    | none => rfl
    | some p =>
      show fzO p.1 (nxSF pt r E N p.2) = _
      rw [fzO_is]
      unfold nxSF
      rw [fzSO_is]
      rfl
theorem cGuard_eq (h : EnvR N A) (ops : Array Oper) (g : Nat × Bool) : (cGuard ops g).v N = wantedA ops A (some g) := by
  unfold cGuard
  show _ = wantedD A g.2 (dstOf ops g.1)
  cases dstOf ops g.1 with
  | none => rfl
  | some d =>
    show isB ((cVal (.tmp d)).v N) g.2 = isB (tg A d) g.2
    rw [cVal_eq h]
    rfl
theorem cOper_eq (h : EnvR N A) (ops : Array Oper) (o : Oper) : (cOper P ops o r).v E N st =
    if wantedA ops A o.guard = true then ob (evOp P o.op E A st) fun p => r.v E ((cDst o.dst).v N ⟨p.1⟩) p.2 else r.v E ((cDst o.dst).v N ⟨undef⟩) st := by
  unfold cOper
  cases hg : o.guard with
  | none =>
    show (cCls P o.op (cls P o.op) (cDst o.dst).v r).v E N st = _
    rw [cCls_eq h]
    exact (if_pos rfl).symm
  | some g =>
    show bselO ((cGuard ops g).v N) (r.v E ((cDst o.dst).v N w0) st) ((cCls P o.op (cls P o.op) (cDst o.dst).v r).v E N st) = _
    rw [bselO_is, cGuard_eq h, cCls_eq h]
    cases wantedA ops A (some g) <;> rfl
end
def ORel (r : OR) (s : OpsRes) : Prop := EnvR r.A s.A ∧ r.st = s.st
theorem cOps_eq {E : Env} {ops : Array Oper} : ∀ (l : List Oper) (_ : ∀ o ∈ l, dstOk o.dst) (N : F3) (A : T Value) (st : St), EnvR N A → OE ORel ((cOps P ops l).v E N st) (evOps P E ops l A st)
  | [], _, N, A, st, h => ⟨h, rfl⟩
  | o :: l, hd, N, A, st, h => by
    have hl := cOps_eq (E := E) (ops := ops) l (fun o ho => hd o (by simp [ho]))
    have hdo := hd o (by simp)
    show OE ORel ((cOper P ops o (cOps P ops l)).v E N st) _
    rw [cOper_eq h, evOps_is]
    by_cases hw : wantedA ops A o.guard = true
    · rw [if_pos hw, if_pos hw]
      exact OE.same fun p => hl _ _ _ (h.dst hdo _)
    · rw [if_neg hw, if_neg hw]
      exact hl _ _ _ (h.dst hdo _)

/-! ## regions that draw their order -/
theorem cAny_eq {N : F3} {A : T Value} (h : EnvR N A) (o : Op) (E : Env) (st : St) : (cAny P o (cls P o)).v E N st = evOp P o E A st := by
  unfold evOp
  match hc : cls P o with
  | 0 => show ob ((cPure P o).v N) (mkVal st) = ob (evPure o P A) (mkVal st); rw [cPure_eq h]
  | 1 => show ob ((cNew P o).v N) (mkNew st) = ob (evNew o P A) (mkNew st); rw [cNew_eq h]
  | 2 => show ob ((cRead P o).v N st) (mkVal st) = ob (evRead o P A st) (mkVal st); rw [cRead_eq h]
  | n + 3 => exact cGen_eq h o E st
def PendR (P : Program) (p : FPend) (q : Pend) : Prop := p.i = q.i ∧ p.v = q.v ∧ p.rd = (if cls P q.o = 2 then some (fun st => evRead q.o P q.A st) else none)
theorem fAgain_eq {st : St} {anc : Nat} {p : FPend} {q : Pend} (h : PendR P p q) : fAgain st anc p = again P st anc q := by
  obtain ⟨h1, h2, h3⟩ := h
  unfold fAgain again
  rw [h1, h2, h3]
  by_cases hc : cls P q.o = 2
  · rw [if_pos hc, hc]; rfl
  · rw [if_neg hc]
    have : (cls P q.o == 2) = false := by simpa using hc
    rw [this]
    rfl
inductive PendsR (P : Program) : List FPend → List Pend → Prop where
  | nil : PendsR P [] []
  | cons {p : FPend} {q : Pend} {l : List FPend} {m : List Pend} (h : PendR P p q) (hl : PendsR P l m) : PendsR P (p :: l) (q :: m)
theorem PendsR.all {st : St} {anc : Nat} {l : List FPend} {m : List Pend} (h : PendsR P l m) : l.all (fAgain st anc) = m.all (again P st anc) := by
  induction h with
  | nil => rfl
  | cons h _ ih => rw [List.all_cons, List.all_cons, fAgain_eq h, ih]
theorem PendsR.more {N : F3} {A : T Value} (h : EnvR N A) {l : List FPend} {m : List Pend} (hl : PendsR P l m) (i : Nat) (o : Op) (v : Value) :
    PendsR P (bsel (Nat.ble (cls P o) 0) (⟨i, rdOf (cls P o) (cRead P o).v N, v⟩ :: l) l) (bsel (Nat.ble (cls P o) 0) (⟨i, o, A, v⟩ :: m) m) := by
  cases Nat.ble (cls P o) 0 with
  | true => exact hl
  | false =>
    refine .cons ⟨rfl, rfl, ?_⟩ hl
    show rdOf (cls P o) (cRead P o).v N = if cls P o = 2 then some (fun st => evRead o P A st) else none
    match cls P o with
    | 0 => rfl
    | 1 => rfl
    | 2 => show some ((cRead P o).v N) = some _; rw [show (cRead P o).v N = fun st => evRead o P A st from funext fun st => cRead_eq h o st]
    | n + 3 => rfl
theorem cDraws_eq {E : Env} {ops : Array Oper} : ∀ (l : List (Oper × Nat)) (_ : ∀ o ∈ l, dstOk o.1.dst) (N : F3) (A : T Value) (st : St) (pf : List FPend) (pend : List Pend) (louds : List Nat), EnvR N A → PendsR P pf pend →
    OE ORel ((cDraws P ops l).v E N st pf louds) (evDraws P E ops l A st pend louds)
  | [], _, N, A, st, pf, pend, louds, h, _ => ⟨h, rfl⟩
  | oi :: l, hd, N, A, st, pf, pend, louds, h, hp => by
    have hl := cDraws_eq (E := E) (ops := ops) l (fun o ho => hd o (by simp [ho]))
    have hdo := hd oi (by simp)
    show OE ORel ((cDraw1 P ops oi.1 oi.2 (cDraws P ops l)).v E N st pf louds) (drawStep P E ops oi (evDraws P E ops l) A st pend louds)
    have key : OE ORel (dStep (cAny P oi.1.op (cls P oi.1.op)).v oi.2 (cls P oi.1.op) (ancAt ops oi.2) (cRead P oi.1.op).v (cDst oi.1.dst).v (cDraws P ops l) E N st pf louds) (ob (evOp P oi.1.op E A (setLow st st.nxt)) (drawK P ops oi (evDraws P E ops l) A st pend louds)) := by
      unfold dStep
      rw [obP_is, cAny_eq h]
      refine OE.same fun p => ?_
      unfold dStep2 drawK
      rw [gdO_is, bselO_is, gdO_is]
      refine OE.gd (OE.bsel ?_ ?_)
      · unfold drawQuiet
        rw [fzO_is, fz_is]
        unfold dQ1
        rw [fzSO_is, fzS_is]
        exact hl _ _ _ _ _ _ (h.dst hdo _) (hp.more h _ _ _)
      · unfold drawLoud
        rw [hp.all]
        refine OE.gd ?_
        rw [fzO_is, fz_is]
        unfold dL1
        rw [fzSO_is, fzS_is]
        exact hl _ _ _ _ _ _ (h.dst hdo _) hp
    unfold cDraw1 drawStep
    cases hg : oi.1.guard with
    | none => exact key
    | some g =>
      show OE ORel (bselO ((cGuard ops g).v N) ((cDraws P ops l).v E ((cDst oi.1.dst).v N w0) st pf louds) (dStep _ _ _ _ _ _ _ E N st pf louds)) _
      rw [bselO_is, cGuard_eq h]
      refine OE.bsel ?_ key
      exact hl _ _ _ _ _ _ (h.dst hdo _) hp
theorem cRegion_eq {E : Env} {ops : Array Oper} {draw : Bool} (hd : ∀ o ∈ ops.toList, dstOk o.dst) {N : F3} {A : T Value} (h : EnvR N A) (st : St) :
    OE ORel ((cRegion P ops draw).v E N st) (bsel draw (evOps P E ops ops.toList A st) (evDraws P E ops ops.toList.zipIdx A st [] [])) := by
  unfold cRegion
  cases draw with
  | false => exact cOps_eq _ hd _ _ _ h
  | true =>
    refine cDraws_eq _ (fun o ho => hd o.1 ?_) _ _ _ _ _ _ h .nil
    obtain ⟨i, hi⟩ := List.mem_iff_getElem?.1 ho
    rw [List.getElem?_zipIdx] at hi
    cases e : ops.toList[i]? with
    | none => rw [e] at hi; cases hi
    | some x =>
      rw [e] at hi
      cases hi
      exact List.mem_of_getElem? e

/-! ## code -/
def FRel (r : FRes) (s : Res) : Prop := r.ex = s.ex ∧ EnvR r.A s.A ∧ r.dm = s.dm ∧ r.st = s.st
theorem frSeq_eq {k : Bx FC} {g : CodeF} {E : Env} (hk : ∀ N A dm st, EnvR N A → OE FRel (k.v E N dm st) (g E A dm st)) {r : FRes} {s : Res} (h : FRel r s) : OE FRel (frSeq k E r) (seqK g E s) := by
  obtain ⟨ex, N, dm, st⟩ := r
  obtain ⟨ex', A, dm', st'⟩ := s
  obtain ⟨h1, h2, h3, h4⟩ := h
  simp only at h1 h2 h3 h4
  subst h1 h3 h4
  cases ex with
  | normal => exact hk _ _ _ _ h2
  | exit id => exact ⟨rfl, h2, rfl, rfl⟩
  | ret => exact ⟨rfl, h2, rfl, rfl⟩
theorem cCode_eq {n : Nat} (hn : n ≤ 512) {E : Env} : ∀ (c : Code), noRange c = true → codeOk P n c = true → ∀ (N : F3) (A : T Value) (dm : List Nat) (st : St), EnvR N A → OE FRel ((cCode P c).v E N dm st) (evCode P c E A dm st) := by
  intro c
  induction c with
  | skip => intro _ _ N A dm st h; exact ⟨rfl, h, rfl, rfl⟩
  | region id ops draw =>
    intro _ hok N A dm st h
    have hd : ∀ o ∈ ops.toList, dstOk o.dst := fun o ho k hk => by
      simp only [codeOk, Bool.and_eq_true] at hok
      have hop : operOk P n o = true := List.all_eq_true.1 hok.1 o ho
      have hlt : decide (k < n) = true := by
        unfold operOk at hop
        rw [Bool.and_eq_true] at hop
        have h3 := hop.2
        rw [hk] at h3
        exact h3
      exact Nat.lt_of_lt_of_le (of_decide_eq_true hlt) hn
    exact (cRegion_eq hd h st).bind fun a b hab => ⟨rfl, hab.1, rfl, hab.2⟩
  | seq a b iha ihb =>
    intro hr hok N A dm st h
    simp only [noRange, Bool.and_eq_true] at hr
    simp only [codeOk, Bool.and_eq_true] at hok
    exact (iha hr.1 hok.1 N A dm st h).bind fun r s hrs => frSeq_eq (fun N A dm st h => ihb hr.2 hok.2 N A dm st h) hrs
  | cond c a b iha ihb =>
    intro hr hok N A dm st h
    simp only [noRange, Bool.and_eq_true] at hr
    simp only [codeOk, Bool.and_eq_true] at hok
    show OE FRel (ob (asB ((cVal c).v N)) _) (ob (asB (ev A c)) _)
    rw [cVal_eq h]
    refine OE.same fun t => OE.bsel ?_ ?_
    · exact ihb hr.2 hok.2 N A dm st h
    · exact iha hr.1 hok.1.2 N A dm st h
  | block id b ih =>
    intro hr hok N A dm st h
    refine (ih hr hok N A dm st h).bind fun r s hrs => ?_
    obtain ⟨ex, N, dm, st⟩ := r
    obtain ⟨ex', A, dm', st'⟩ := s
    obtain ⟨h1, h2, h3, h4⟩ := hrs
    simp only at h1 h2 h3 h4
    subst h1 h3 h4
    cases ex with
    | normal => exact ⟨rfl, h2, rfl, rfl⟩
    | exit id' =>
      show OE FRel (bsel (Nat.beq id' id) _ _) (bsel (Nat.beq id' id) _ _)
      exact OE.bsel ⟨rfl, h2, rfl, rfl⟩ ⟨rfl, h2, rfl, rfl⟩
    | ret => exact ⟨rfl, h2, rfl, rfl⟩
  | loop b ih =>
    intro hr hok N A dm st h
    show OE FRel (fcLoopN (cCode P b) 1000000 E N dm st) (loopN (evCode P b) 1000000 E A dm st)
    generalize 1000000 = fuel
    induction fuel generalizing N A dm st with
    | zero => trivial
    | succ f ihf =>
      show OE FRel (ob ((cCode P b).v E N dm st) (frSeq ⟨fcLoopN (cCode P b) f⟩ E)) (ob (evCode P b E A dm st) (seqK (loopN (evCode P b) f) E))
      exact (ih hr hok N A dm st h).bind fun r s hrs => frSeq_eq (fun N A dm st h => ihf N A dm st h) hrs
  | rangeFunc f ps a b _ _ => intro hr; cases hr
  | exit id => intro _ _ N A dm st h; exact ⟨rfl, h, rfl, rfl⟩
  | scope b ih => intro hr hok N A dm st h; exact ih hr hok N A dm st h
  | label l => intro _ _ N A dm st h; exact ⟨rfl, h, rfl, rfl⟩
  | goto l => intro _ _ N A dm st h; trivial
  | ret => intro _ _ N A dm st h; exact ⟨rfl, h, rfl, rfl⟩
  | refuse w => intro _ _ N A dm st h; trivial

/-! ## calls -/
theorem cRVs_eq {N : F3} {A : T Value} (h : EnvR N A) (st : St) : ∀ l : List ResultVar, (cRVs P l).v N st = resAll P A st l
  | [] => rfl
  | r :: l => by
    show ob ((cRV P r).v N st) (rvs1 (cRVs P l) N st) = _
    have e : (cRV P r).v N st = resOne P A st r := by
      cases r with
      | tmp t => show some ((cVal (.tmp t)).v N) = _; rw [cVal_eq h]; rfl
      | cell a t => show ob (asP ((cVal (.tmp a)).v N)) _ = _; rw [cVal_eq h]; rfl
    rw [e]
    unfold resAll
    cases resOne P A st r with
    | none => rfl
    | some v =>
      show ob ((cRVs P l).v N st) (rvs2 v) = _
      rw [cRVs_eq h st l]
      rfl
theorem fRet_eq {rs : List ResultVar} {r : FRes} {s : Res} (h : FRel r s) : fRet (cRVs P rs) r = retK P rs s := by
  obtain ⟨ex, N, dm, st⟩ := r
  obtain ⟨ex', A, dm', st'⟩ := s
  obtain ⟨h1, h2, h3, h4⟩ := h
  simp only at h1 h2 h3 h4
  subst h1 h3 h4
  have key : ob (dropMarks dm st) (fRet1 (cRVs P rs) N) = ob (dropMarks dm st) fun st => ob (resAll P A st rs) fun l => some (oneOrTuple l, st) := by
    cases dropMarks dm st with
    | none => rfl
    | some st2 =>
      show ob ((cRVs P rs).v N st2) (fRet2 st2) = _
      rw [cRVs_eq h2]
      rfl
  cases ex with
  | normal => exact key
  | exit id => rfl
  | ret => exact key
theorem bindA_eq : ∀ (l : List Value) (i : Nat) (N : F3) (A : T Value), EnvR N A → i + l.length ≤ 512 → EnvR (bindA l i N) (fillT l i A)
  | [], _, N, A, h, _ => h
  | v :: l, i, N, A, h, hi => by
    simp only [List.length_cons] at hi
    exact bindA_eq l (i + 1) _ _ (h.put (by omega) v) (by omega)
theorem fillG_get {α : Type} : ∀ (l : List α) (i : Nat) (t : T α) (j : Nat), (fillG l i t).get j = if i ≤ j ∧ j < i + l.length then l[j - i]? else t.get j
  | [], i, t, j => by
    show t.get j = _
    rw [if_neg (by simp)]
  | v :: l, i, t, j => by
    show (fillG l (Nat.succ i) (t.put (some v) i)).get j = _
    rw [fillG_get l (Nat.succ i) _ j, get_put]
    simp only [List.length_cons]
    by_cases h1 : i + 1 ≤ j ∧ j < i + 1 + l.length
    · rw [if_pos h1, if_pos (by omega)]
      obtain ⟨k, hk⟩ : ∃ k, j - i = k + 1 := ⟨j - i - 1, by omega⟩
      rw [hk, List.getElem?_cons_succ]
      congr 1
      omega
    · rw [if_neg h1]
      by_cases e : j = i
      · subst e
        rw [if_pos rfl, if_pos (by omega)]
        simp
      · rw [if_neg e, if_neg (by omega)]
theorem fnTab_get (f : Nat) : (fnTab P).get f = P.funcs[f]? := by
  unfold fnTab
  rw [fillG_get]
  by_cases h : f < P.funcs.size
  · rw [if_pos (by simp; exact h)]
    simp
  · rw [if_neg (by simp; omega), Array.getElem?_eq_none (by omega)]
    rfl
/-- every function that is asked for has a text that is as it must be -/
def Good (P : Program) (good : Nat) : Prop := ∀ f fn c, good.testBit f = true → P.funcs[f]? = some fn → fn.body = some c → fnOk P fn c = true
theorem okTexts_good {good : Nat} : ∀ (l : List Func) (i : Nat), okTexts P good l i = true → ∀ (f : Nat) fn c, good.testBit (i + f) = true → l[f]? = some fn → fn.body = some c → fnOk P fn c = true
  | [], _, _, f, fn, c, _, hf, _ => by simp at hf
  | x :: l, i, h, f, fn, c, hg, hf, hb => by
    have h' : bsel (good.testBit i) (okTexts P good l (Nat.succ i)) (bsel (okText P x) false (okTexts P good l (Nat.succ i))) = true := h
    cases f with
    | zero =>
      simp at hf
      subst hf
      rw [Nat.add_zero] at hg
      rw [hg, bsel_true] at h'
      cases hx : okText P x with
      | false => rw [hx] at h'; cases h'
      | true =>
        unfold okText at hx
        rw [hb] at hx
        exact hx
    | succ f =>
      have hr : okTexts P good l (Nat.succ i) = true := by
        cases hgi : good.testBit i with
        | false => rw [hgi] at h'; exact h'
        | true =>
          rw [hgi, bsel_true] at h'
          cases hx : okText P x with
          | false => rw [hx] at h'; cases h'
          | true => rw [hx] at h'; exact h'
      exact okTexts_good l (i + 1) hr f fn c (by rw [show i + 1 + f = i + (f + 1) by omega]; exact hg) (by simpa using hf) hb
theorem good_of {good : Nat} (h : okTexts P good P.funcs.toList 0 = true) : Good P good := fun f fn c hg hf hb => okTexts_good _ 0 h f fn c (by rw [Nat.zero_add]; exact hg) (by simpa using hf) hb
/-- two masks together -/
theorem Good.or {a b : Nat} (ha : Good P a) (hb : Good P b) : Good P (a ||| b) := fun f fn c hg hf hbd => by
  rw [Nat.testBit_or, Bool.or_eq_true] at hg
  rcases hg with hg | hg
  · exact ha f fn c hg hf hbd
  · exact hb f fn c hg hf hbd
theorem cFn_eq {good : Nat} (hgood : Good P good) (call : CallF) (f : FuncId) (args : List Value) (st : St) : (cFn P good f).v call args st = callFn P call f args st := by
  unfold cFn callFn
  rw [fnTab_get]
  cases hf : P.funcs[f]? with
  | none => rfl
  | some fn =>
    show (cFn2 P good f fn).v call args st = ob fn.body _
    unfold cFn2
    cases hb : fn.body with
    | none => rfl
    | some c =>
      show (cFn1 P good f fn c).v call args st = gd (fnOk P fn c) _
      unfold cFn1
      cases hok : (good.testBit f && (Nat.ble fn.ntmps 512 && noRange c)) with
      | false =>
        show callFn P call f args st = _
        unfold callFn
        rw [hf]
        show ob fn.body _ = _
        rw [hb]
        rfl
      | true =>
        simp only [Bool.and_eq_true] at hok
        obtain ⟨h0, h2, h3⟩ := hok
        have h1 := hgood f fn c h0 hf hb
        have hn := Nat.le_of_ble_eq_true h2
        rw [h1]
        show gd (Nat.ble args.length fn.ntmps) _ = gd (Nat.ble args.length fn.ntmps) _
        cases ha : Nat.ble args.length fn.ntmps with
        | false => rfl
        | true =>
          have hc : codeOk P fn.ntmps c = true := by
            unfold fnOk at h1
            simp only [Bool.and_eq_true] at h1
            exact h1.1.1
          have hle := Nat.le_of_ble_eq_true ha
          have := cCode_eq hn (E := ⟨call, f, fn.ntmps, none⟩) c h3 hc (bindA args 0 w3) (fillT args 0 .lf) [] st (bindA_eq args 0 _ _ envR_empty (by omega))
          show ob ((cCode P c).v _ _ _ _) (fRet (cRVs P fn.results.toList)) = ob (evCode P c _ _ _ _) (retK P fn.results.toList)
          revert this
          cases (cCode P c).v ⟨call, f, fn.ntmps, none⟩ (bindA args 0 w3) [] st <;> cases evCode P c ⟨call, f, fn.ntmps, none⟩ (fillT args 0 .lf) [] st
          · exact fun _ => rfl
          · exact fun h => h.elim
          · exact fun h => h.elim
          · exact fun h => fRet_eq h
theorem callNF_eq {good : Nat} (hgood : Good P good) : ∀ d, callNF P good d = callN P d
  | 0 => rfl
  | d + 1 => by
    show callVF P good (callNF P good d) = callV P (callN P d)
    rw [callNF_eq hgood d]
    funext f args st
    have ho : ∀ g l s, callOF P good (callN P d) g l s = callO P (callN P d) g l s := fun g l s => by
      unfold callOF callO
      cases known P g l s with
      | none =>
        simp only
        cases OTab.nat g l s with
        | none => exact cFn_eq hgood _ _ _ _
        | some r => rfl
      | some z => rfl
    have hm : ∀ n l s, methVF P good (callN P d) n l s = methV P (callN P d) n l s := fun n l s => by
      cases l with
      | nil => rfl
      | cons v r =>
        cases v with
        | iface t z =>
          show ob (methF P t n) (fun f => callOF P good (callN P d) f (z :: r) s) = ob (methF P t n) (fun f => callO P (callN P d) f (z :: r) s)
          rw [funext fun f => ho f (z :: r) s]
        | _ => rfl
    unfold callVF callV
    split <;> simp_all
theorem runF_eq {good : Nat} (hgood : Good P good) (f : FuncId) (args : List Value) (st : St) : runF P good f args st = run P f args st := by
  unfold runF run
  rw [cFn_eq hgood, callNF_eq hgood]
end Go.Ev
