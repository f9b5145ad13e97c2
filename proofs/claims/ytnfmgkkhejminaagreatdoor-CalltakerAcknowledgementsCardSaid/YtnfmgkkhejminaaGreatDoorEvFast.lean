/-
  A part of the proof that the evaluator answers what the model answers, for every program that follows mixed orders; no other condition.
-/
import Derived.Test.YtnfmgkkhejminaaGreatDoorEvFastT
namespace Go.Ev
noncomputable section
variable [OTab]
/-- open a box while a text is made ready -/
def ub {α β : Type} (b : Bx α) (k : α → Bx β) : Bx β := Bx.rec (motive := fun _ => Bx β) (fun v => k v) b
def putId (N : F3) (_ : F0) : F3 := N
def cDst (d : Option Tmp) : Bx PutF := match d with
  | none => ⟨putId⟩
  | some k => cPut k

/-! operands -/
def cF0 (x : Operand) : Bx (F3 → F0) := match x with
  | .tmp t => cGet t
  | .const v => ⟨fun _ => ⟨v⟩⟩
  | .global g => ⟨fun _ => ⟨.pointer (some ⟨g, 0, none⟩)⟩⟩
  | .func f => ⟨fun _ => ⟨.func (.func f) #[] #[]⟩⟩
def gvT (g : F3 → F0) (N : F3) : Value := (g N).v
def cVal (x : Operand) : Bx (F3 → Value) := match x with
  | .tmp t => ub (cGet t) fun g => ⟨gvT g⟩
  | .const v => ⟨fun _ => v⟩
  | .global g => ⟨fun _ => .pointer (some ⟨g, 0, none⟩)⟩
  | .func f => ⟨fun _ => .func (.func f) #[] #[]⟩
def consV (x : F3 → Value) (r : F3 → List Value) (N : F3) : List Value := x N :: r N
def nilV (_ : F3) : List Value := []
def cVals : List Operand → Bx (F3 → List Value)
  | [] => ⟨nilV⟩
  | x :: r => ub (cVal x) fun g => ub (cVals r) fun l => ⟨consV g l⟩
def consP (i : Nat) (x : F3 → Value) (r : F3 → List (Nat × Value)) (N : F3) : List (Nat × Value) := (i, x N) :: r N
def nilP (_ : F3) : List (Nat × Value) := []
def cParts : List (Nat × Operand) → Bx (F3 → List (Nat × Value))
  | [] => ⟨nilP⟩
  | p :: r => ub (cVal p.2) fun g => ub (cParts r) fun l => ⟨consP p.1 g l⟩
def someV (x : F3 → Value) (N : F3) : Option Value := some (x N)
def noV (_ : F3) : Option Value := none
def cOpt (x : Option Operand) : Bx (F3 → Option Value) := match x with
  | none => ⟨noV⟩
  | some x => ub (cVal x) fun g => ⟨someV g⟩

/-! what an operation gives -/
def pPick (c a b : (F3 → Value)) (N : F3) : Option Value := ob (asB (c N)) fun t => bsel t (some (b N)) (some (a N))
def pBuild (P : Program) (t : TypeId) (ps : (F3 → List (Nat × Value))) (N : F3) : Option Value := buildV P t (ps N)
def pNil (P : Program) (x : (F3 → Value)) (N : F3) : Option Value := nilChk P (x N)
def pBin (c : Bool) (P : Program) (op : BinOp) (t : TypeId) (x y : (F3 → Value)) (N : F3) : Option Value := binA c P op t (x N) (y N)
def pIface (P : Program) (t : TypeId) (x : (F3 → Value)) (N : F3) : Option Value := mkIface P t (x N)
def pUn (op : UnOp) (x : (F3 → Value)) (N : F3) : Option Value := unV op (x N)
def pConv (P : Program) (s d : TypeId) (x : (F3 → Value)) (N : F3) : Option Value := convPure P s d (x N)
def pFunc (fn : Fn) (f c : (F3 → List Value)) (N : F3) : Option Value := makeFuncV fn (f N) (c N)
def pSlice (P : Program) (t : TypeId) (x : (F3 → Value)) (lo hi mx : (F3 → Option Value)) (N : F3) : Option Value := sliceS P t (x N) (lo N) (hi N) (mx N)
def pFieldA (P : Program) (t : TypeId) (f : Nat) (x : (F3 → Value)) (N : F3) : Option Value := fieldAddrV P t f (x N)
def pField (P : Program) (t : TypeId) (f : Nat) (x : (F3 → Value)) (N : F3) : Option Value := fieldV P t f (x N)
def pIdxA (P : Program) (t : TypeId) (x i : (F3 → Value)) (N : F3) : Option Value := indexAddrV P t (x N) (i N)
def pIdx (P : Program) (t : TypeId) (x i : (F3 → Value)) (N : F3) : Option Value := indexV P t (x N) (i N)
def pExt (i : Nat) (x : (F3 → Value)) (N : F3) : Option Value := extractV i (x N)
def callPureV (P : Program) (ce : Callee) (ts : List TypeId) (l : List Value) : Option Value :=
  match ce with
  | .builtin .len => lenPure P ts l
  | .builtin .min => mmV .min min2 l
  | .builtin .max => mmV .max max2 l
  | _ => none
def pCall (P : Program) (ce : Callee) (ts : List TypeId) (l : (F3 → List Value)) (N : F3) : Option Value := callPureV P ce ts (l N)
def pNone (_ : F3) : Option Value := none
def cPure (P : Program) (o : Op) : Bx (F3 → Option Value) := match o with
  | .move x => ub (cVal x) fun v0 => ⟨someV v0⟩
  | .assign x => ub (cVal x) fun v0 => ⟨someV v0⟩
  | .pick c a b => ub (cVal c) fun v0 => ub (cVal a) fun v1 => ub (cVal b) fun v2 => ⟨pPick v0 v1 v2⟩
  | .build t ps => ub (cParts ps.toList) fun v0 => ⟨pBuild P t v0⟩
  | .nilCheck x => ub (cVal x) fun v0 => ⟨pNil P v0⟩
  | .binOp op t x y _ => ub (cVal x) fun v0 => ub (cVal y) fun v1 => ⟨pBin (isConst x || isConst y) P op t v0 v1⟩
  | .makeInterface t x => ub (cVal x) fun v0 => ⟨pIface P t v0⟩
  | .unOp op _ x => ub (cVal x) fun v0 => ⟨pUn op v0⟩
  | .convert s d x => ub (cVal x) fun v0 => ⟨pConv P s d v0⟩
  | .makeFunc fn f c => ub (cVals f.toList) fun v0 => ub (cVals c.toList) fun v1 => ⟨pFunc fn v0 v1⟩
  | .slice t x lo hi mx => ub (cVal x) fun v0 => ub (cOpt lo) fun v1 => ub (cOpt hi) fun v2 => ub (cOpt mx) fun v3 => ⟨pSlice P t v0 v1 v2 v3⟩
  | .fieldAddr t x f => ub (cVal x) fun v0 => ⟨pFieldA P t f v0⟩
  | .field t x f => ub (cVal x) fun v0 => ⟨pField P t f v0⟩
  | .indexAddr t x i => ub (cVal x) fun v0 => ub (cVal i) fun v1 => ⟨pIdxA P t v0 v1⟩
  | .index t x i => ub (cVal x) fun v0 => ub (cVal i) fun v1 => ⟨pIdx P t v0 v1⟩
  | .extract t i => ub (cVal t) fun v0 => ⟨pExt i v0⟩
  | .call c => ub (cVals c.args.toList) fun v0 => ⟨pCall P c.callee c.argTypes.toList v0⟩
  | _ => ⟨pNone⟩
def nBox (x : (F3 → Value)) (N : F3) : Option NewV := boxV (x N)
def nBuildS (P : Program) (t : TypeId) (len : Nat) (ps : (F3 → List (Nat × Value))) (N : F3) : Option NewV := buildSliceV P t len (ps N)
def makeMapO (P : Program) (t : TypeId) : Option Value → Option NewV
  | none => some newMap
  | some h => ob (mapKV P t) fun _ => ob (asI h) fun _ => some newMap
def nMap (P : Program) (t : TypeId) (r : (F3 → Option Value)) (N : F3) : Option NewV := makeMapO P t (r N)
def nSlice (P : Program) (t : TypeId) (l c : (F3 → Value)) (N : F3) : Option NewV := makeSliceV P t (l N) (c N)
def nNone (_ : F3) : Option NewV := none
def nAlloc (P : Program) (e : TypeId) (_ : F3) : Option NewV := allocV P e
def cNew (P : Program) (o : Op) : Bx (F3 → Option NewV) := match o with
  | .alloc e => ⟨nAlloc P e⟩
  | .box _ x => ub (cVal x) fun v0 => ⟨nBox v0⟩
  | .buildSlice t len ps => ub (cParts ps.toList) fun v0 => ⟨nBuildS P t len v0⟩
  | .makeMap t r => ub (cOpt r) fun v0 => ⟨nMap P t v0⟩
  | .makeSlice t l c => ub (cVal l) fun v0 => ub (cVal c) fun v1 => ⟨nSlice P t v0 v1⟩
  | _ => ⟨nNone⟩
abbrev RdF : Type := F3 → St → Option Value
def rLoad (P : Program) (t : TypeId) (x : (F3 → Value)) (N : F3) (st : St) : Option Value := ob (asP (x N)) (loadV P st t)
def rConv (P : Program) (s d : TypeId) (x : (F3 → Value)) (N : F3) (st : St) : Option Value := toStr P st s d (x N)
def rSlice (P : Program) (t : TypeId) (x : (F3 → Value)) (lo hi mx : (F3 → Option Value)) (N : F3) (st : St) : Option Value := sliceV P st t (x N) (lo N) (hi N) (mx N)
def rLook (P : Program) (t : TypeId) (x k : (F3 → Value)) (ok : Bool) (N : F3) (st : St) : Option Value := lookupV P st t (x N) (k N) ok
def rEntry (x : (F3 → Value)) (N : F3) (st : St) : Option Value := entryV st (x N)
def rLen (P : Program) (ts : List TypeId) (l : (F3 → List Value)) (N : F3) (st : St) : Option Value := lenMap P st ts (l N)
def rNone (_ : F3) (_ : St) : Option Value := none
def cRead (P : Program) (o : Op) : Bx RdF := match o with
  | .load t a => ub (cVal a) fun v0 => ⟨rLoad P t v0⟩
  | .convert s d x => ub (cVal x) fun v0 => ⟨rConv P s d v0⟩
  | .slice t x lo hi mx => ub (cVal x) fun v0 => ub (cOpt lo) fun v1 => ub (cOpt hi) fun v2 => ub (cOpt mx) fun v3 => ⟨rSlice P t v0 v1 v2 v3⟩
  | .lookup t x k ok => ub (cVal x) fun v0 => ub (cVal k) fun v1 => ⟨rLook P t v0 v1 ok⟩
  | .entry it => ub (cVal it) fun v0 => ⟨rEntry v0⟩
  | .call c => ub (cVals c.args.toList) fun v0 => ⟨rLen P c.argTypes.toList v0⟩
  | _ => ⟨rNone⟩
abbrev GenF : Type := Env → F3 → St → Option (Value × St)
def uUpd (P : Program) (t : TypeId) (m k x : (F3 → Value)) (_ : Env) (N : F3) (st : St) : Option (Value × St) := retU (updV P st t (m N) (k N) (x N))
def uStore (P : Program) (t : TypeId) (a x : (F3 → Value)) (_ : Env) (N : F3) (st : St) : Option (Value × St) := ob (asP (a N)) (storeAtV P t st (x N))
def uConv (P : Program) (s d : TypeId) (x : (F3 → Value)) (_ : Env) (N : F3) (st : St) : Option (Value × St) := toBytes P st s d (x N)
def uRange (P : Program) (t : TypeId) (x : (F3 → Value)) (_ : Env) (N : F3) (st : St) : Option (Value × St) := rangeV P st t (x N)
def uNext (x : (F3 → Value)) (s : Bool) (_ : Env) (N : F3) (st : St) : Option (Value × St) := nextV st (x N) s
def uCallV (f : (F3 → Value)) (l : (F3 → List Value)) (E : Env) (N : F3) (st : St) : Option (Value × St) := E.call (f N) (l N) st
def uInv (n : String) (f : (F3 → Value)) (l : (F3 → List Value)) (E : Env) (N : F3) (st : St) : Option (Value × St) := E.call (.func (.method n) #[] #[]) (f N :: l N) st
def uApp (P : Program) (ts : List TypeId) (l : (F3 → List Value)) (_ : Env) (N : F3) (st : St) : Option (Value × St) := appendV P st ts (l N)
def uCopy (P : Program) (ts : List TypeId) (l : (F3 → List Value)) (_ : Env) (N : F3) (st : St) : Option (Value × St) := copyV P st ts (l N)
def uDel (P : Program) (ts : List TypeId) (l : (F3 → List Value)) (_ : Env) (N : F3) (st : St) : Option (Value × St) := delV P st ts (l N)
def uNone (_ : Env) (_ : F3) (_ : St) : Option (Value × St) := none
def cCall (P : Program) (c : Call) : Bx GenF := match c.callee with
  | .value f => ub (cVal f) fun v0 => ub (cVals c.args.toList) fun v1 => ⟨uCallV v0 v1⟩
  | .invoke r n => ub (cVal r) fun v0 => ub (cVals c.args.toList) fun v1 => ⟨uInv n v0 v1⟩
  | .builtin .append => ub (cVals c.args.toList) fun v0 => ⟨uApp P c.argTypes.toList v0⟩
  | .builtin .copy => ub (cVals c.args.toList) fun v0 => ⟨uCopy P c.argTypes.toList v0⟩
  | .builtin .delete => ub (cVals c.args.toList) fun v0 => ⟨uDel P c.argTypes.toList v0⟩
  | _ => ⟨uNone⟩
def cGen (P : Program) (o : Op) : Bx GenF := match o with
  | .insert t m k x => ub (cVal m) fun v0 => ub (cVal k) fun v1 => ub (cVal x) fun v2 => ⟨uUpd P t v0 v1 v2⟩
  | .mapUpdate t m k x => ub (cVal m) fun v0 => ub (cVal k) fun v1 => ub (cVal x) fun v2 => ⟨uUpd P t v0 v1 v2⟩
  | .store t a x => ub (cVal a) fun v0 => ub (cVal x) fun v1 => ⟨uStore P t v0 v1⟩
  | .convert s d x => ub (cVal x) fun v0 => ⟨uConv P s d v0⟩
  | .range t x => ub (cVal x) fun v0 => ⟨uRange P t v0⟩
  | .next it s => ub (cVal it) fun v0 => ⟨uNext v0 s⟩
  | .call c => cCall P c
  | _ => ⟨uNone⟩

/-! ## the operations of a region, in the text's order -/
structure OR where
  A : F3
  st : St
abbrev KO : Type := Env → F3 → St → Option OR
def fzI (n : Int) (kd : IntKind) (c : Value → Option OR) : Option OR :=
  Int.rec (motive := fun _ => IntKind → (Value → Option OR) → Option OR) (fun m kd c => Nat.rec (motive := fun _ => IntKind → (Value → Option OR) → Option OR) (fun kd c => c (.int kd (.ofNat 0))) (fun p _ kd c => c (.int kd (.ofNat (Nat.succ p)))) m kd c) (fun m kd c => Nat.rec (motive := fun _ => IntKind → (Value → Option OR) → Option OR) (fun kd c => c (.int kd (.negSucc 0))) (fun p _ kd c => c (.int kd (.negSucc (Nat.succ p)))) m kd c) n kd c
def fzO (v : Value) (k : Value → Option OR) : Option OR := Value.rec (motive_1 := fun _ => (Value → Option OR) → Option OR) (motive_2 := fun _ => Unit) (motive_3 := fun _ => Unit) (fun b => fun k => Bool.rec (motive := fun _ => (Value → Option OR) → Option OR) (fun k => k (.bool false)) (fun k => k (.bool true)) b k) (fun kd n => fun k => fzI n kd k) (fun a b => fun k => k (.float a b)) (fun a b c => fun k => k (.complex a b c)) (fun s => fun k => k (.string s)) (fun a => fun k => k (.pointer a)) (fun a l c => fun k => k (.slice a l c)) (fun r => fun k => k (.map r)) (fun r => fun k => k (.chan r)) (fun f a b _ _ => fun k => k (.func f a b)) (fun k => k .nilFunc) (fun t v _ => fun k => k (.iface t v)) (fun k => k .nilIface) (fun c _ => fun k => k (.agg c)) (fun c _ => fun k => k (.tuple c)) (fun _ _ => ()) () (fun _ _ _ _ => ()) v k

/-! the small tools at one type: nothing of them is copied when they are opened -/
def obV (x : Option Value) (k : Value → Option OR) : Option OR := Option.rec (motive := fun _ => (Value → Option OR) → Option OR) (fun _ => none) (fun v k => k v) x k
def obN (x : Option NewV) (k : NewV → Option OR) : Option OR := Option.rec (motive := fun _ => (NewV → Option OR) → Option OR) (fun _ => none) (fun v k => k v) x k
def obP (x : Option (Value × St)) (k : Value × St → Option OR) : Option OR := Option.rec (motive := fun _ => (Value × St → Option OR) → Option OR) (fun _ => none) (fun v k => k v) x k
def bselO (b : Bool) (f t : Option OR) : Option OR := Bool.rec (motive := fun _ => Option OR → Option OR → Option OR) (fun f _ => f) (fun _ t => t) b f t
def gdO (b : Bool) (t : Option OR) : Option OR := Bool.rec (motive := fun _ => Option OR → Option OR) (fun _ => none) (fun t => t) b t
def fzNO (n : Nat) (k : Nat → Option OR) : Option OR := Nat.rec (motive := fun _ => (Nat → Option OR) → Option OR) (fun k => k 0) (fun p _ k => k (Nat.succ p)) n k
def fzMO (m : Mem) (k : Mem → Option OR) : Option OR := Mem.rec (motive := fun _ => (Mem → Option OR) → Option OR) (fun t u k => N2.rec (motive := fun _ => T Blk → (Mem → Option OR) → Option OR) (fun l r u k => k ⟨⟨l, r⟩, u⟩) t u k) m k
def fzSO3 (nxt low : Nat) (k : St → Option OR) (m : Mem) : Option OR := k ⟨m, nxt, low⟩
def fzSO2 (nxt : Nat) (m : Mem) (k : St → Option OR) (low : Nat) : Option OR := fzMO m (fzSO3 nxt low k)
def fzSO1 (low : Nat) (m : Mem) (k : St → Option OR) (nxt : Nat) : Option OR := fzNO low (fzSO2 nxt m k)
def fzSO (st : St) (k : St → Option OR) : Option OR := St.rec (motive := fun _ => (St → Option OR) → Option OR) (fun mem nxt low k => fzNO nxt (fzSO1 low mem k)) st k
def koEnd (_ : Env) (N : F3) (st : St) : Option OR := some ⟨N, st⟩
def fzB (b : F0) (k : F0 → Option OR) : Option OR := Bx.rec (motive := fun _ => (F0 → Option OR) → Option OR) (fun v k => k ⟨v⟩) b k
def nx (pt : PutF) (r : Bx KO) (E : Env) (N : F3) (st : St) (v : Value) : Option OR := r.v E (pt N ⟨v⟩) st
def nxB (pt : PutF) (r : Bx KO) (E : Env) (N : F3) (st : St) (b : F0) : Option OR := r.v E (pt N b) st
def nxZ (pt : PutF) (r : Bx KO) (E : Env) (N : F3) (st : St) (v : Value) : Option OR := fzO v (nx pt r E N st)
def kMove (g : F3 → F0) (pt : PutF) (r : Bx KO) (E : Env) (N : F3) (st : St) : Option OR := fzB (g N) (nxB pt r E N st)
def kPure (p : F3 → Option Value) (pt : PutF) (r : Bx KO) (E : Env) (N : F3) (st : St) : Option OR := obV (p N) (nxZ pt r E N st)
def nxS (pt : PutF) (r : Bx KO) (E : Env) (N : F3) (v : Value) (st : St) : Option OR := r.v E (pt N ⟨v⟩) st
def kNew2 (pt : PutF) (r : Bx KO) (E : Env) (N : F3) (st : St) (n : NewV) : Option OR := fzSO (st.push (n.b st.nxt)) (nxS pt r E N (n.v st.nxt))
def kNew (p : F3 → Option NewV) (pt : PutF) (r : Bx KO) (E : Env) (N : F3) (st : St) : Option OR := obN (p N) (kNew2 pt r E N st)
def kRead (p : RdF) (pt : PutF) (r : Bx KO) (E : Env) (N : F3) (st : St) : Option OR := obV (p N st) (nxZ pt r E N st)
def nxSF (pt : PutF) (r : Bx KO) (E : Env) (N : F3) (st : St) (v : Value) : Option OR := fzSO st (nxS pt r E N v)
def nxP (pt : PutF) (r : Bx KO) (E : Env) (N : F3) (p : Value × St) : Option OR := fzO p.1 (nxSF pt r E N p.2)
def kGen (p : GenF) (pt : PutF) (r : Bx KO) (E : Env) (N : F3) (st : St) : Option OR := obP (p E N st) (nxP pt r E N)

/-- numbers -/
abbrev IntK : Type := IntKind → Int → Int → (Value → Option OR) → Option OR
def fzBo (b : Bool) (c : Value → Option OR) : Option OR := Bool.rec (motive := fun _ => (Value → Option OR) → Option OR) (fun c => c (.bool false)) (fun c => c (.bool true)) b c
def ikAdd (k : IntKind) (a b : Int) (c : Value → Option OR) : Option OR := fzI (wrapF k (Int.add a b)) k c
def ikSub (k : IntKind) (a b : Int) (c : Value → Option OR) : Option OR := fzI (wrapF k (Int.sub a b)) k c
def ikMul (k : IntKind) (a b : Int) (c : Value → Option OR) : Option OR := fzI (wrapF k (Int.mul a b)) k c
def ikEql (_ : IntKind) (a b : Int) (c : Value → Option OR) : Option OR := fzBo (eqI a b) c
def ikNeq (_ : IntKind) (a b : Int) (c : Value → Option OR) : Option OR := fzBo (!(eqI a b)) c
def ikLss (_ : IntKind) (a b : Int) (c : Value → Option OR) : Option OR := fzBo (ltI a b) c
def ikLeq (_ : IntKind) (a b : Int) (c : Value → Option OR) : Option OR := fzBo (!(ltI b a)) c
def ikGtr (_ : IntKind) (a b : Int) (c : Value → Option OR) : Option OR := fzBo (ltI b a) c
def ikGeq (_ : IntKind) (a b : Int) (c : Value → Option OR) : Option OR := fzBo (!(ltI a b)) c
def cIK (op : BinOp) : Option (Bx IntK) := match op with
  | .add => some ⟨ikAdd⟩
  | .sub => some ⟨ikSub⟩
  | .mul => some ⟨ikMul⟩
  | .eql => some ⟨ikEql⟩
  | .neq => some ⟨ikNeq⟩
  | .lss => some ⟨ikLss⟩
  | .leq => some ⟨ikLeq⟩
  | .gtr => some ⟨ikGtr⟩
  | .geq => some ⟨ikGeq⟩
  | _ => none
def kn (k : IntKind) : Nat := IntKind.rec (motive := fun _ => Nat) 0 1 2 3 4 5 6 7 k
def onI (v : Value) (no : Option OR) (yes : IntKind → Int → Option OR) : Option OR :=
  Value.rec (motive_1 := fun _ => Option OR → (IntKind → Int → Option OR) → Option OR) (motive_2 := fun _ => Unit) (motive_3 := fun _ => Unit) (fun _ => fun n _ => n) (fun k a => fun _ y => y k a) (fun _ _ => fun n _ => n) (fun _ _ _ => fun n _ => n) (fun _ => fun n _ => n) (fun _ => fun n _ => n) (fun _ _ _ => fun n _ => n) (fun _ => fun n _ => n) (fun _ => fun n _ => n) (fun _ _ _ _ _ => fun n _ => n) (fun n _ => n) (fun _ _ _ => fun n _ => n) (fun n _ => n) (fun _ _ => fun n _ => n) (fun _ _ => fun n _ => n) (fun _ _ => ()) () (fun _ _ _ _ => ()) v no yes
def kInt3 (f : IntK) (p : F3 → Option Value) (pt : PutF) (r : Bx KO) (E : Env) (N : F3) (st : St) (k : IntKind) (a : Int) (k' : IntKind) (b : Int) : Option OR :=
  bselO (Nat.beq (kn k) (kn k')) (kPure p pt r E N st) (f k a b (nx pt r E N st))
def kInt2 (f : IntK) (y : F3 → Value) (p : F3 → Option Value) (pt : PutF) (r : Bx KO) (E : Env) (N : F3) (st : St) (k : IntKind) (a : Int) : Option OR :=
  onI (y N) (kPure p pt r E N st) (kInt3 f p pt r E N st k a)
def kInt (f : IntK) (x y : F3 → Value) (p : F3 → Option Value) (pt : PutF) (r : Bx KO) (E : Env) (N : F3) (st : St) : Option OR :=
  onI (x N) (kPure p pt r E N st) (kInt2 f y p pt r E N st)
def kIntO (f : Option (Bx IntK)) (x y : F3 → Value) (p : F3 → Option Value) (pt : PutF) (r : Bx KO) : Bx KO := match f with
  | some f => ub f fun f => ⟨kInt f x y p pt r⟩
  | none => ⟨kPure p pt r⟩

def cCls (P : Program) (o : Op) (c : Nat) (pt : PutF) (r : Bx KO) : Bx KO := match c with
  | 0 => (match o with
    | .move x => ub (cF0 x) fun g => ⟨kMove g pt r⟩
    | .assign x => ub (cF0 x) fun g => ⟨kMove g pt r⟩
    | .binOp op t x y q => ub (cVal x) fun gx => ub (cVal y) fun gy => ub (cPure P (.binOp op t x y q)) fun p => kIntO (cIK op) gx gy p pt r
    | o => ub (cPure P o) fun p => ⟨kPure p pt r⟩)
  | 1 => ub (cNew P o) fun p => ⟨kNew p pt r⟩
  | 2 => ub (cRead P o) fun p => ⟨kRead p pt r⟩
  | _ => ub (cGen P o) fun p => ⟨kGen p pt r⟩
def guardV (g : F3 → Value) (want : Bool) (N : F3) : Bool := isB (g N) want
def cGuard (ops : Array Oper) (g : Nat × Bool) : Bx (F3 → Bool) := match dstOf ops g.1 with
  | none => ⟨fun _ => false⟩
  | some d => ub (cVal (.tmp d)) fun v => ⟨guardV v g.2⟩
def kGuard (g : F3 → Bool) (k : Bx KO) (pt : PutF) (r : Bx KO) (E : Env) (N : F3) (st : St) : Option OR := bselO (g N) (r.v E (pt N w0) st) (k.v E N st)
def cOper (P : Program) (ops : Array Oper) (o : Oper) (r : Bx KO) : Bx KO := match o.guard with
  | none => ub (cDst o.dst) fun pt => cCls P o.op (cls P o.op) pt r
  | some g => ub (cDst o.dst) fun pt => ub (cGuard ops g) fun gd => ⟨kGuard gd (cCls P o.op (cls P o.op) pt r) pt r⟩
def cOps (P : Program) (ops : Array Oper) : List Oper → Bx KO
  | [] => ⟨koEnd⟩
  | o :: l => cOper P ops o (cOps P ops l)

/-! ## regions that draw their order -/
structure FPend where
  i : Nat
  rd : Option (St → Option Value)
  v : Value
def fAgain (st : St) (anc : Nat) (p : FPend) : Bool :=
  anc.testBit p.i || match p.rd with | some f => (match f st with | some v => veq v p.v | none => false) | none => false
abbrev KD : Type := Env → F3 → St → List FPend → List Nat → Option OR
def kdEnd (_ : Env) (N : F3) (st : St) (_ : List FPend) (_ : List Nat) : Option OR := some ⟨N, st⟩
/-- what an operation does, whatever its kind -/
def gPure (p : F3 → Option Value) (_ : Env) (N : F3) (st : St) : Option (Value × St) := ob (p N) (mkVal st)
def gNew (p : F3 → Option NewV) (_ : Env) (N : F3) (st : St) : Option (Value × St) := ob (p N) (mkNew st)
def gRead (p : RdF) (_ : Env) (N : F3) (st : St) : Option (Value × St) := ob (p N st) (mkVal st)
def cAny (P : Program) (o : Op) (c : Nat) : Bx GenF := match c with
  | 0 => ub (cPure P o) fun p => ⟨gPure p⟩
  | 1 => ub (cNew P o) fun p => ⟨gNew p⟩
  | 2 => ub (cRead P o) fun p => ⟨gRead p⟩
  | _ => cGen P o
def rdOf (c : Nat) (rd : RdF) (N : F3) : Option (St → Option Value) := match c with
  | 2 => some (rd N)
  | _ => none
def dQ2 (i c : Nat) (rd : RdF) (pt : PutF) (r : Bx KD) (E : Env) (N : F3) (pend : List FPend) (louds : List Nat) (v : Value) (st : St) : Option OR :=
  r.v E (pt N ⟨v⟩) st (bsel (Nat.ble c 0) (⟨i, rdOf c rd N, v⟩ :: pend) pend) louds
def dQ1 (i c : Nat) (rd : RdF) (pt : PutF) (r : Bx KD) (E : Env) (N : F3) (pend : List FPend) (louds : List Nat) (st : St) (v : Value) : Option OR := fzSO st (dQ2 i c rd pt r E N pend louds v)
def dL2 (i : Nat) (pt : PutF) (r : Bx KD) (E : Env) (N : F3) (pend : List FPend) (louds : List Nat) (v : Value) (st : St) : Option OR := r.v E (pt N ⟨v⟩) st pend (i :: louds)
def dL1 (i : Nat) (pt : PutF) (r : Bx KD) (E : Env) (N : F3) (pend : List FPend) (louds : List Nat) (st : St) (v : Value) : Option OR := fzSO st (dL2 i pt r E N pend louds v)
def dStep2 (i c anc : Nat) (rd : RdF) (pt : PutF) (r : Bx KD) (E : Env) (N : F3) (st : St) (pend : List FPend) (louds : List Nat) (p : Value × St) : Option OR :=
  gdO (Nat.ble c 0 || louds.all (fun j => anc.testBit j))
    (bselO (Nat.blt p.2.low st.nxt)
      (fzO p.1 (dQ1 i c rd pt r E N pend louds (setLow p.2 (minN p.2.low st.low))))
      (gdO (pend.all (fAgain (setLow p.2 (minN p.2.low st.low)) anc)) (fzO p.1 (dL1 i pt r E N pend louds (setLow p.2 (minN p.2.low st.low))))))
def dStep (f : GenF) (i c anc : Nat) (rd : RdF) (pt : PutF) (r : Bx KD) (E : Env) (N : F3) (st : St) (pend : List FPend) (louds : List Nat) : Option OR :=
  obP (f E N (setLow st st.nxt)) (dStep2 i c anc rd pt r E N st pend louds)
def dGuard (g : F3 → Bool) (k : Bx KD) (pt : PutF) (r : Bx KD) (E : Env) (N : F3) (st : St) (pend : List FPend) (louds : List Nat) : Option OR := bselO (g N) (r.v E (pt N w0) st pend louds) (k.v E N st pend louds)
def cDraw1 (P : Program) (ops : Array Oper) (o : Oper) (i : Nat) (r : Bx KD) : Bx KD := match o.guard with
  | none => ub (cAny P o.op (cls P o.op)) fun f => ub (cRead P o.op) fun rd => ub (cDst o.dst) fun pt => ⟨dStep f i (cls P o.op) (ancAt ops i) rd pt r⟩
  | some g => ub (cAny P o.op (cls P o.op)) fun f => ub (cRead P o.op) fun rd => ub (cDst o.dst) fun pt => ub (cGuard ops g) fun gd => ⟨dGuard gd ⟨dStep f i (cls P o.op) (ancAt ops i) rd pt r⟩ pt r⟩
def cDraws (P : Program) (ops : Array Oper) : List (Oper × Nat) → Bx KD
  | [] => ⟨kdEnd⟩
  | oi :: l => cDraw1 P ops oi.1 oi.2 (cDraws P ops l)
def koDraw (k : Bx KD) (E : Env) (N : F3) (st : St) : Option OR := k.v E N st [] []
def cRegion (P : Program) (ops : Array Oper) (draw : Bool) : Bx KO := bsel draw (cOps P ops ops.toList) ⟨koDraw (cDraws P ops ops.toList.zipIdx)⟩

/-! ## code -/
structure FRes where
  ex : Ex
  A : F3
  dm : List Nat
  st : St
abbrev FC : Type := Env → F3 → List Nat → St → Option FRes
def frReg (dm : List Nat) (r : OR) : Option FRes := OR.rec (motive := fun _ => List Nat → Option FRes) (fun N st dm => some ⟨.normal, N, dm, st⟩) r dm
def fcReg (k : Bx KO) (E : Env) (N : F3) (dm : List Nat) (st : St) : Option FRes := ob (k.v E N st) (frReg dm)
def frSeq (k : Bx FC) (E : Env) (r : FRes) : Option FRes :=
  FRes.rec (motive := fun _ => Bx FC → Env → Option FRes) (fun ex N dm st k E => Ex.rec (motive := fun _ => F3 → List Nat → St → Bx FC → Env → Option FRes) (fun N dm st k E => k.v E N dm st) (fun id N dm st _ _ => some ⟨.exit id, N, dm, st⟩) (fun N dm st _ _ => some ⟨.ret, N, dm, st⟩) ex N dm st k E) r k E
def fcSeq (a b : Bx FC) (E : Env) (N : F3) (dm : List Nat) (st : St) : Option FRes := ob (a.v E N dm st) (frSeq b E)
def frCond (t e : Bx FC) (E : Env) (N : F3) (dm : List Nat) (st : St) (b : Bool) : Option FRes := bsel b (e.v E N dm st) (t.v E N dm st)
def fcCond (c : F3 → Value) (t e : Bx FC) (E : Env) (N : F3) (dm : List Nat) (st : St) : Option FRes := ob (asB (c N)) (frCond t e E N dm st)
def frBlock (id : Nat) (r : FRes) : Option FRes :=
  Ex.rec (motive := fun _ => Nat → FRes → Option FRes) (fun _ r => some r) (fun id' id r => bsel (Nat.beq id' id) (some r) (some ⟨.normal, r.A, r.dm, r.st⟩)) (fun _ r => some r) r.ex id r
def fcBlock (id : Nat) (a : Bx FC) (E : Env) (N : F3) (dm : List Nat) (st : St) : Option FRes := ob (a.v E N dm st) (frBlock id)
def fcLoopN (body : Bx FC) (fuel : Nat) : FC :=
  Nat.rec (motive := fun _ => FC) (fun _ _ _ _ => none) (fun _ ih E N dm st => ob (body.v E N dm st) (frSeq ⟨ih⟩ E)) fuel
def fcSkip (_ : Env) (N : F3) (dm : List Nat) (st : St) : Option FRes := some ⟨.normal, N, dm, st⟩
def fcExit (id : Nat) (_ : Env) (N : F3) (dm : List Nat) (st : St) : Option FRes := some ⟨.exit id, N, dm, st⟩
def fcRet (_ : Env) (N : F3) (dm : List Nat) (st : St) : Option FRes := some ⟨.ret, N, dm, st⟩
def fcNone (_ : Env) (_ : F3) (_ : List Nat) (_ : St) : Option FRes := none
/-- no loop over a function -/
def noRange : Code → Bool
  | .seq a b => noRange a && noRange b
  | .cond _ a b => noRange a && noRange b
  | .block _ b => noRange b
  | .loop b => noRange b
  | .scope b => noRange b
  | .rangeFunc _ _ _ _ => false
  | _ => true
def cCode (P : Program) : Code → Bx FC
  | .skip => ⟨fcSkip⟩
  | .region _ ops draw => ⟨fcReg (cRegion P ops draw)⟩
  | .seq a b => ⟨fcSeq (cCode P a) (cCode P b)⟩
  | .cond c a b => ub (cVal c) fun g => ⟨fcCond g (cCode P a) (cCode P b)⟩
  | .block id b => ⟨fcBlock id (cCode P b)⟩
  | .loop b => ⟨fcLoopN (cCode P b) 1000000⟩
  | .exit id => ⟨fcExit id⟩
  | .scope b => cCode P b
  | .label _ => ⟨fcSkip⟩
  | .ret => ⟨fcRet⟩
  | _ => ⟨fcNone⟩

/-! ## calls -/
def rvTmp (g : F3 → Value) (N : F3) (_ : St) : Option Value := some (g N)
def rvCell (P : Program) (t : TypeId) (g : F3 → Value) (N : F3) (st : St) : Option Value := ob (asP (g N)) fun a => loadV P st t a
def cRV (P : Program) (r : ResultVar) : Bx RdF := match r with
  | .tmp t => ub (cVal (.tmp t)) fun g => ⟨rvTmp g⟩
  | .cell a t => ub (cVal (.tmp a)) fun g => ⟨rvCell P t g⟩
def rvs2 (v : Value) (l : List Value) : Option (List Value) := some (v :: l)
def rvs1 (r : Bx (F3 → St → Option (List Value))) (N : F3) (st : St) (v : Value) : Option (List Value) := ob (r.v N st) (rvs2 v)
def rvs (x : Bx RdF) (r : Bx (F3 → St → Option (List Value))) (N : F3) (st : St) : Option (List Value) := ob (x.v N st) (rvs1 r N st)
def cRVs (P : Program) : List ResultVar → Bx (F3 → St → Option (List Value))
  | [] => ⟨fun _ _ => some []⟩
  | r :: l => ⟨rvs (cRV P r) (cRVs P l)⟩
def fRet2 (st : St) (l : List Value) : Option (Value × St) := some (oneOrTuple l, st)
def fRet1 (rs : Bx (F3 → St → Option (List Value))) (N : F3) (st : St) : Option (Value × St) := ob (rs.v N st) (fRet2 st)
def fRet (rs : Bx (F3 → St → Option (List Value))) (r : FRes) : Option (Value × St) :=
  match r.ex with
  | .exit _ => none
  | _ => ob (dropMarks r.dm r.st) (fRet1 rs r.A)
def bindA : List Value → Nat → F3 → F3
  | [], _, N => N
  | v :: l, i, N => bindA l (Nat.succ i) ((cPut i).v N ⟨v⟩)
abbrev FN : Type := CallF → List Value → St → Option (Value × St)
def fnRun (c : Bx FC) (rs : Bx (F3 → St → Option (List Value))) (f n : Nat) (call : CallF) (args : List Value) (st : St) : Option (Value × St) :=
  gd (Nat.ble args.length n) (ob (c.v ⟨call, f, n, none⟩ (bindA args 0 w3) [] st) (fRet rs))
/-- the functions as a trie -/
def fillG {α : Type} (l : List α) : Nat → T α → T α :=
  List.rec (motive := fun _ => Nat → T α → T α) (fun _ t => t) (fun v _ ih i t => ih (Nat.succ i) (t.put (some v) i)) l
def fnTab (P : Program) : T Func := fillG P.funcs.toList 0 .lf
/-- 'good': the functions whose text has been looked at, as the bits of a number -/
def cFn1 (P : Program) (good : Nat) (f : FuncId) (fn : Func) (c : Code) : Bx FN :=
  bsel (good.testBit f && (Nat.ble fn.ntmps 512 && noRange c)) ⟨fun call args st => callFn P call f args st⟩ ⟨fnRun (cCode P c) (cRVs P fn.results.toList) f fn.ntmps⟩
def cFn2 (P : Program) (good : Nat) (f : FuncId) (fn : Func) : Bx FN := match fn.body with
  | some c => cFn1 P good f fn c
  | none => ⟨fun _ _ _ => none⟩
def cFn (P : Program) (good : Nat) (f : FuncId) : Bx FN := match (fnTab P).get f with
  | some fn => cFn2 P good f fn
  | none => ⟨fun _ _ _ => none⟩
def callOF (P : Program) (good : Nat) (call : CallF) (f : FuncId) (args : List Value) (st : St) : Option (Value × St) :=
  match known P f args st with
  | some z => some (z, st)
  | none => match OTab.nat f args st with
    | some r => pushes r st
    | none => (cFn P good f).v call args st
def methVF (P : Program) (good : Nat) (call : CallF) (name : String) (args : List Value) (st : St) : Option (Value × St) :=
  match args with
  | .iface t v :: rest => ob (methF P t name) fun f => callOF P good call f (v :: rest) st
  | _ => none
def callVF (P : Program) (good : Nat) (call : CallF) (f : Value) (args : List Value) (st : St) : Option (Value × St) :=
  match f with
  | .func (.func f) first cap => callOF P good call f (first.toList ++ args ++ cap.toList) st
  | .func (.yield l) first _ => yieldFn P call l (first.toList ++ args) st
  | .func (.method n) first _ => methVF P good call n (first.toList ++ args) st
  | _ => none
def callNF (P : Program) (good : Nat) (depth : Nat) : CallF :=
  Nat.rec (motive := fun _ => CallF) (fun _ _ _ => none) (fun _ ih => callVF P good ih) depth
def runF (P : Program) (good : Nat) (f : FuncId) (args : List Value) (st : St) : Option (Value × St) := (cFn P good f).v (callNF P good 999) args st
/-- the text of a function is as it must be -/
def okText (P : Program) (fn : Func) : Bool := match fn.body with
  | some c => fnOk P fn c
  | none => true
/-- those of the list that are asked for -/
def okTexts (P : Program) (good : Nat) (l : List Func) : Nat → Bool :=
  List.rec (motive := fun _ => Nat → Bool) (fun _ => true) (fun fn _ ih i => bsel (good.testBit i) (ih (Nat.succ i)) (bsel (okText P fn) false (ih (Nat.succ i)))) l
end
end Go.Ev
