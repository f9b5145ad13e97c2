/-
  A part of the proof that the evaluator answers what the model answers, for every program that follows mixed orders; no other condition.
-/
import Derived.Test.YtnfmgkkhejminaaGreatDoorEvStep
namespace Go.Ev
set_option linter.unusedSectionVars false
variable [OTab] [OVal]
variable {P : Program}

/-- what an evaluation does to the abstract memory -/
structure AF (st st' : St) : Prop where
  nxt : st.nxt ≤ st'.nxt
  low : st'.low ≤ st.low
  keep : ∀ b, b < st.nxt → b < st'.low → st'.mem.get b = st.mem.get b
  wf : (∀ b, st.nxt ≤ b → st.mem.get b = none) → ∀ b, st'.nxt ≤ b → st'.mem.get b = none

theorem AF.refl (st : St) : AF st st := ⟨Nat.le_refl _, Nat.le_refl _, fun _ _ _ => rfl, fun h => h⟩
theorem AF.trans {a b c : St} (h : AF a b) (k : AF b c) : AF a c :=
  ⟨Nat.le_trans h.nxt k.nxt, Nat.le_trans k.low h.low, fun x h1 h2 => (k.keep x (Nat.lt_of_lt_of_le h1 h.nxt) h2).trans (h.keep x h1 (Nat.lt_of_lt_of_le h2 k.low)), fun hw => k.wf (h.wf hw)⟩
theorem AF.push (st : St) (k : Blk) : AF st (st.push k) where
  nxt := Nat.le_succ _
  low := Nat.le_refl _
  keep := fun b h1 _ => by show (st.mem.put _ _).get b = _; rw [get_memput, if_neg (by omega)]
  wf := fun hw b hb => by
    have hb' : st.nxt + 1 ≤ b := hb
    show (st.mem.put _ _).get b = _
    rw [get_memput, if_neg (by omega)]
    exact hw b (by omega)
theorem AF.put {st : St} {b : Nat} {k0 : Blk} (hk : st.mem.get b = some k0) (vo : Option Blk) : AF st ⟨st.mem.put vo b, st.nxt, minN b st.low⟩ where
  nxt := Nat.le_refl _
  low := by show minN b st.low ≤ _; rw [minN_eq]; omega
  keep := fun c _ h2 => by
    have h2' : c < minN b st.low := h2
    rw [minN_eq] at h2'
    show (st.mem.put _ _).get c = _
    rw [get_memput, if_neg (by omega)]
  wf := fun hw c hc => by
    have hc' : st.nxt ≤ c := hc
    show (st.mem.put _ _).get c = _
    have : c ≠ b := fun e => by rw [e] at hc'; rw [hw b hc'] at hk; cases hk
    rw [get_memput, if_neg this]
    exact hw c hc'
theorem AF.set {st : St} {b : Nat} {k0 : Blk} (hk : st.mem.get b = some k0) (k : Blk) : AF st (st.setB b k) := AF.put hk (some k)
theorem AF.kill {st : St} {b : Nat} {k0 : Blk} (hk : st.mem.get b = some k0) : AF st (st.kill b) := AF.put hk none

theorem storeN_af {st st' : St} {a : Addr} {l : List Value} (h : storeN st a l = some st') : AF st st' := by
  unfold storeN at h
  obtain ⟨_, h1⟩ := gd_some h
  obtain ⟨n, c, hk, h2⟩ := cellsAt_some h1
  obtain ⟨_, h3⟩ := gd_some h2
  cases h3
  exact AF.set hk _
theorem updV_af {st st' : St} {t : TypeId} {x k v : Value} (h : updV P st t x k v = some st') : AF st st' := by
  unfold updV at h
  obtain ⟨kv, _, h1⟩ := ob_some h
  obtain ⟨_, h2⟩ := gd_some h1
  split at h2
  · obtain ⟨es, clock, hk, h3⟩ := mapAt_some h2
    obtain ⟨f, _, h4⟩ := ob_some h3
    split at h4 <;> cases h4 <;> exact AF.set hk _
  · cases h2
theorem delV_af {st st' : St} {ts : List TypeId} {args : List Value} {v : Value} (h : delV P st ts args = some (v, st')) : AF st st' := by
  unfold delV at h
  split at h
  · obtain ⟨kv, _, h1⟩ := ob_some h
    obtain ⟨_, h2⟩ := gd_some h1
    split at h2
    · cases h2; exact AF.refl _
    · obtain ⟨es, clock, hk, h3⟩ := mapAt_some h2
      obtain ⟨f, _, h4⟩ := ob_some h3
      split at h4 <;> cases h4 <;> exact AF.set hk _
    · cases h2
  · cases h
theorem rangeV_af {st st' : St} {t : TypeId} {x v : Value} (h : rangeV P st t x = some (v, st')) : AF st st' := by
  unfold rangeV at h
  split at h
  · cases h; exact AF.push _ _
  · obtain ⟨es, clock, hk, h3⟩ := mapAt_some h
    cases h3; exact AF.push _ _
  · cases h
theorem nextV_af {st st' : St} {x v : Value} {s : Bool} (h : nextV st x s = some (v, st')) : AF st st' := by
  unfold nextV at h
  split at h
  · cases h
  · split at h
    · obtain ⟨b, hb, h1⟩ := ob_some h
      split at h1
      · cases h1; exact AF.refl _
      · obtain ⟨es, clock, hk, h3⟩ := mapAt_some h1
        unfold nextM at h3
        split at h3
        · cases h3
        · split at h3
          · cases h3; exact AF.refl _
          · split at h3
            · cases h3; exact AF.set hb _
            · cases h3
          · cases h3
      · cases h1
    · cases h
theorem appendV_af {st st' : St} {ts : List TypeId} {args : List Value} {v : Value} (h : appendV P st ts args = some (v, st')) : AF st st' := by
  unfold appendV at h
  split at h
  · obtain ⟨e, _, h1⟩ := ob_some h
    obtain ⟨size, _, h2⟩ := ob_some h1
    obtain ⟨bytes, _, h3⟩ := ob_some h2
    obtain ⟨_, h4⟩ := gd_some h3
    obtain ⟨n, _, h5⟩ := ob_some h4
    obtain ⟨new, _, h6⟩ := ob_some h5
    obtain ⟨_, h7⟩ := gd_some h6
    clear h h1 h2 h3 h4 h5 h6
    split at h7
    · split at h7
      · cases h7; exact AF.refl _
      · obtain ⟨_, h8⟩ := gd_some h7
        cases h8; exact AF.push _ _
    · obtain ⟨_, h8⟩ := gd_some h7
      obtain ⟨cap, _, h9⟩ := ob_some h8
      split at h9
      · split at h9
        · cases h9; exact AF.refl _
        · obtain ⟨_, h10⟩ := gd_some h9
          obtain ⟨st1, hs, h11⟩ := ob_some h10
          cases h11
          exact storeN_af hs
      · obtain ⟨_, h10⟩ := gd_some h9
        unfold appendGrow at h10
        split at h10
        · obtain ⟨old, _, h11⟩ := ob_some h10
          cases h11; exact AF.push _ _
        · obtain ⟨k, c, hk, h11⟩ := cellsAt_some h10
          obtain ⟨_, h12⟩ := gd_some h11
          split at h12
          · obtain ⟨_, h13⟩ := gd_some h12
            cases h13; exact (AF.kill hk).trans (AF.push _ _)
          · obtain ⟨old, _, h13⟩ := ob_some h12
            cases h13; exact (AF.kill hk).trans (AF.push _ _)
    · cases h7
  · cases h
theorem copyV_af {st st' : St} {ts : List TypeId} {args : List Value} {v : Value} (h : copyV P st ts args = some (v, st')) : AF st st' := by
  unfold copyV at h
  split at h
  · obtain ⟨e, _, h1⟩ := ob_some h
    obtain ⟨size, _, h2⟩ := ob_some h1
    obtain ⟨ls, _, h3⟩ := ob_some h2
    split at h3
    · split at h3
      · cases h3; exact AF.refl _
      · obtain ⟨cells, _, h4⟩ := ob_some h3
        obtain ⟨_, h5⟩ := gd_some h4
        obtain ⟨a, _, h6⟩ := ob_some h5
        obtain ⟨st1, hs, h7⟩ := ob_some h6
        cases h7
        exact storeN_af hs
    · cases h3
  · cases h
theorem toBytes_af {st st' : St} {s d : TypeId} {x v : Value} (h : toBytes P st s d x = some (v, st')) : AF st st' := by
  unfold toBytes at h
  split at h
  · split at h
    · cases h; exact AF.push _ _
    · cases h
  · cases h

def CallAF (call : CallF) : Prop := ∀ f args st v st', call f args st = some (v, st') → AF st st'

theorem retU_some {r : Option St} {v : Value} {st' : St} (h : retU r = some (v, st')) : r = some st' := by
  obtain ⟨st1, h1, h2⟩ := ob_some h
  cases h2
  exact h1

theorem evGen_af {E : Env} {A : T Value} {st st' : St} {v : Value} (hc : CallAF E.call) (op : Op) (h : evGen op P E A st = some (v, st')) : AF st st' := by
  cases op with
  | store t a x =>
    obtain ⟨ad, _, h2⟩ := ob_some (show ob (asP (ev A a)) (storeAtV P t st (ev A x)) = some (v, st') from h)
    have h3 := retU_some h2
    unfold storeV at h3
    obtain ⟨n, _, h4⟩ := ob_some h3
    obtain ⟨_, h5⟩ := gd_some h4
    obtain ⟨_, h6⟩ := gd_some h5
    exact storeN_af h6
  | mapUpdate t mo k x => exact updV_af (retU_some h)
  | insert t mo k x => exact updV_af (retU_some h)
  | range t x => exact rangeV_af h
  | next it s => exact nextV_af h
  | convert s d x => exact toBytes_af h
  | call c =>
    have h' : callGen P c E A st = some (v, st') := h
    unfold callGen at h'
    split at h'
    · exact hc _ _ _ _ _ h'
    · exact hc _ _ _ _ _ h'
    · exact appendV_af h'
    · exact copyV_af h'
    · exact delV_af h'
    · cases h'
  | _ => cases h

theorem evOp_af {E : Env} {A : T Value} {st st' : St} {v : Value} (hc : CallAF E.call) {o : Op} (h : evOp P o E A st = some (v, st')) : AF st st' := by
  unfold evOp at h
  match hcl : cls P o with
  | 0 => rw [hcl, byCls_0] at h; obtain ⟨u, _, h2⟩ := ob_some h; cases h2; exact AF.refl _
  | 1 => rw [hcl, byCls_1] at h; obtain ⟨u, _, h2⟩ := ob_some h; cases h2; exact AF.push _ _
  | 2 => rw [hcl, byCls_2] at h; obtain ⟨u, _, h2⟩ := ob_some h; cases h2; exact AF.refl _
  | n + 3 => rw [hcl, byCls_3] at h; exact evGen_af hc o h

theorem fz_eq {β : Type} (v : Value) (k : Value → Option β) : fz v k = k v := by
  cases v with
  | bool b => cases b <;> rfl
  | int kd n =>
    cases n with
    | ofNat x => show bsel (Nat.ble x x) none (k (.int kd (.ofNat x))) = _; rw [Nat.ble_self_eq_true]; rfl
    | negSucc x => show bsel (Nat.ble x x) none (k (.int kd (.negSucc x))) = _; rw [Nat.ble_self_eq_true]; rfl
  | _ => rfl
theorem fzM_eq {β : Type} (m : Mem) (k : Mem → Option β) : fzM m k = k m := by
  obtain ⟨⟨l, r⟩, u⟩ := m
  rfl
theorem fzS_eq {β : Type} (st : St) (k : St → Option β) : fzS st k = k st := by
  obtain ⟨mem, nxt, low⟩ := st
  show fzN nxt (fzN low (fzM mem (fzS1 (Nat.add nxt 0) low k))) = _
  unfold fzN
  rw [Nat.ble_self_eq_true, Nat.ble_self_eq_true, bsel_true, bsel_true, fzM_eq]
  rfl

theorem evOps_nil {E : Env} {ops : Array Oper} {A : T Value} {st : St} : evOps P E ops [] A st = some ⟨A, st⟩ := rfl
theorem evOps_cons {E : Env} {ops : Array Oper} {o : Oper} {l : List Oper} {A : T Value} {st : St} : evOps P E ops (o :: l) A st =
    if wantedA ops A o.guard = true then (ob (evOp P o.op E A st) fun p => evOps P E ops l (putA A o.dst p.1) p.2) else evOps P E ops l (putA A o.dst undef) st := by
  show bsel (wantedA ops A o.guard) (idd (evOps P E ops l (putA A o.dst undef) st)) (ob (evOp P o.op E A st) (opsK (evOps P E ops l) A o.dst)) = _
  cases wantedA ops A o.guard with
  | false => rfl
  | true =>
    rw [bsel_true, if_pos rfl]
    cases evOp P o.op E A st with
    | none => rfl
    | some p =>
      show opsK (evOps P E ops l) A o.dst p = evOps P E ops l (putA A o.dst p.1) p.2
      unfold opsK
      rw [fz_eq]
      unfold opsK2
      rw [fzS_eq]
      rfl
theorem evOps_af {E : Env} {ops : Array Oper} (hc : CallAF E.call) : ∀ (l : List Oper) (A : T Value) (st : St) (r : OpsRes), evOps P E ops l A st = some r → AF st r.st
  | [], A, st, r, h => by rw [evOps_nil] at h; cases h; exact AF.refl _
  | o :: l, A, st, r, h => by
    rw [evOps_cons] at h
    split at h
    · obtain ⟨p, hp, h2⟩ := ob_some h
      exact (evOp_af hc hp).trans (evOps_af hc l _ _ _ h2)
    · exact evOps_af hc l _ _ _ h

/-! ## regions that draw -/
theorem AF.lower {st st' : St} {n : Nat} (h : AF (setLow st n) st') : AF st (setLow st' (minN st'.low st.low)) where
  nxt := h.nxt
  low := by show minN _ _ ≤ _; rw [minN_eq]; omega
  keep := fun b h1 h2 => by
    have h2' : b < minN st'.low st.low := h2
    rw [minN_eq] at h2'
    exact h.keep b h1 (by omega)
  wf := h.wf

/-- one operation of a region that draws, and what is asked of it -/
theorem evDraws_cons {E : Env} {ops : Array Oper} {oi : Oper × Nat} {l : List (Oper × Nat)} {A : T Value} {st : St} {pend : List Pend} {louds : List Nat} {r : OpsRes} (h : evDraws P E ops (oi :: l) A st pend louds = some r) :
    (wantedA ops A oi.1.guard = false ∧ evDraws P E ops l (putA A oi.1.dst undef) st pend louds = some r) ∨
    (wantedA ops A oi.1.guard = true ∧ ∃ v st1, evOp P oi.1.op E A (setLow st st.nxt) = some (v, st1) ∧ (cls P oi.1.op = 0 ∨ louds.all (fun j => (ancAt ops oi.2).testBit j) = true) ∧
      ((st.nxt ≤ st1.low ∧ evDraws P E ops l (putA A oi.1.dst v) (setLow st1 (minN st1.low st.low)) (if cls P oi.1.op = 0 then pend else ⟨oi.2, oi.1.op, A, v⟩ :: pend) louds = some r) ∨
       (st1.low < st.nxt ∧ pend.all (again P (setLow st1 (minN st1.low st.low)) (ancAt ops oi.2)) = true ∧ evDraws P E ops l (putA A oi.1.dst v) (setLow st1 (minN st1.low st.low)) pend (oi.2 :: louds) = some r))) := by
  have h' : drawStep P E ops oi (evDraws P E ops l) A st pend louds = some r := h
  unfold drawStep at h'
  cases hw : wantedA ops A oi.1.guard with
  | false => rw [hw] at h'; exact .inl ⟨rfl, h'⟩
  | true =>
    rw [hw, bsel_true] at h'
    obtain ⟨p, hp, h2⟩ := ob_some h'
    obtain ⟨v, st1⟩ := p
    unfold drawK at h2
    obtain ⟨h3, h4⟩ := gd_some h2
    rw [Bool.or_eq_true] at h3
    refine .inr ⟨rfl, v, st1, hp, h3.imp (fun h => Nat.le_zero.1 (Nat.le_of_ble_eq_true h)) id, ?_⟩
    cases hb : Nat.blt st1.low st.nxt with
    | false =>
      have hge : st.nxt ≤ st1.low := by rcases Nat.lt_or_ge st1.low st.nxt with hh | hh
                                        · have hh2 : Nat.ble (st1.low + 1) st.nxt = true := Nat.ble_eq_true_of_le hh
                                          rw [show Nat.blt st1.low st.nxt = Nat.ble (st1.low + 1) st.nxt from rfl, hh2] at hb; cases hb
                                        · exact hh
      simp only [hb, bsel_false] at h4
      unfold drawQuiet at h4
      rw [fz_eq, fzS_eq] at h4
      refine .inl ⟨hge, ?_⟩
      have e : (bsel (Nat.ble (cls P oi.1.op) 0) ((⟨oi.2, oi.1.op, A, v⟩ : Pend) :: pend) pend) = (if cls P oi.1.op = 0 then pend else ⟨oi.2, oi.1.op, A, v⟩ :: pend) := by
        cases hc : cls P oi.1.op with
        | zero => rfl
        | succ n => rfl
      rw [← e]
      exact h4
    | true =>
      have hlt : st1.low < st.nxt := by simp [Nat.blt] at hb; omega
      simp only [hb, bsel_true] at h4
      unfold drawLoud at h4
      obtain ⟨h5, h6⟩ := gd_some h4
      rw [fz_eq, fzS_eq] at h6
      exact .inr ⟨hlt, h5, h6⟩

theorem evDraws_af {E : Env} {ops : Array Oper} (hc : CallAF E.call) : ∀ (l : List (Oper × Nat)) (A : T Value) (st : St) (pend : List Pend) (louds : List Nat) (r : OpsRes), evDraws P E ops l A st pend louds = some r → AF st r.st
  | [], A, st, pend, louds, r, h => by have h' : some (⟨A, st⟩ : OpsRes) = some r := h; cases h'; exact AF.refl _
  | oi :: l, A, st, pend, louds, r, h => by
    rcases evDraws_cons h with ⟨_, h1⟩ | ⟨_, v, st1, h1, _, ⟨_, h2⟩ | ⟨_, _, h2⟩⟩
    · exact evDraws_af hc l _ _ _ _ _ h1
    · exact (AF.lower (evOp_af hc h1)).trans (evDraws_af hc l _ _ _ _ _ h2)
    · exact (AF.lower (evOp_af hc h1)).trans (evDraws_af hc l _ _ _ _ _ h2)

/-! ## code -/
def CodeAF (k : CodeF) : Prop := ∀ E A dm st r, CallAF E.call → k E A dm st = some r → AF st r.st

theorem seqK_af {k : CodeF} (hk : CodeAF k) {E : Env} (hc : CallAF E.call) {r r' : Res} (h : seqK k E r = some r') : AF r.st r'.st := by
  unfold seqK at h
  cases hx : r.ex with
  | normal => rw [hx] at h; exact hk _ _ _ _ _ hc h
  | exit id => rw [hx] at h; have h' : some r = some r' := h; cases h'; exact AF.refl _
  | ret => rw [hx] at h; have h' : some r = some r' := h; cases h'; exact AF.refl _
theorem loopN_af {body : CodeF} (hb : CodeAF body) : ∀ n, CodeAF (loopN body n)
  | 0 => fun E A dm st r _ h => by cases h
  | n + 1 => fun E A dm st r hc h => by
    have h' : ob (body E A dm st) (seqK (loopN body n) E) = some r := h
    obtain ⟨r1, h1, h2⟩ := ob_some h'
    exact (hb _ _ _ _ _ hc h1).trans (seqK_af (loopN_af hb n) hc h2)
theorem endLoopK_af {l : Nat} {A : T Value} {dm : List Nat} {v : Value} {st : St} {r : Res} (h : endLoopK l A dm (v, st) = some r) : AF st r.st := by
  unfold endLoopK at h
  obtain ⟨b, hb, h1⟩ := ob_some h
  split at h1
  · split at h1
    · cases h1
    · split at h1 <;> first | (cases h1; exact AF.set hb _) | cases h1
  · cases h1
theorem rangeFn_af (f : Operand) (params : Array Tmp) (assign body : Code) : CodeAF (rangeFn f params assign body) := fun E A dm st r hc h => by
  unfold rangeFn at h
  split at h
  · obtain ⟨p, h1, h2⟩ := ob_some h
    exact (((AF.push _ _).trans (AF.push _ _)).trans (hc _ _ _ _ _ h1)).trans (endLoopK_af h2)
  · obtain ⟨b, hb, h1⟩ := ob_some h
    split at h1
    · obtain ⟨p, h2, h3⟩ := ob_some h1
      exact ((AF.push _ _).trans (hc _ _ _ _ _ h2)).trans (endLoopK_af h3)
    · cases h1

theorem evRegion_af {ops : Array Oper} {draw : Bool} : CodeAF (evRegion P ops draw) := fun E A dm st r hc h => by
  unfold evRegion at h
  obtain ⟨q, h1, h2⟩ := ob_some h
  cases h2
  cases draw with
  | false => exact evOps_af hc _ _ _ _ h1
  | true => exact evDraws_af hc _ _ _ _ _ _ h1

theorem evCode_af : ∀ c : Code, CodeAF (evCode P c)
  | .skip => fun E A dm st r _ h => by have h' : some (⟨.normal, A, dm, st⟩ : Res) = some r := h; cases h'; exact AF.refl _
  | .region _ ops draw => fun E A dm st r hc h => evRegion_af _ _ _ _ _ hc h
  | .seq a b => fun E A dm st r hc h => by
    obtain ⟨r1, h1, h2⟩ := ob_some (show ob (evCode P a E A dm st) (seqK (evCode P b) E) = some r from h)
    exact (evCode_af a _ _ _ _ _ hc h1).trans (seqK_af (evCode_af b) hc h2)
  | .cond c a b => fun E A dm st r hc h => by
    obtain ⟨t, _, h2⟩ := ob_some (show ob (asB (ev A c)) (condK (evCode P a) (evCode P b) E A dm st) = some r from h)
    unfold condK at h2
    cases t with
    | false => exact evCode_af b _ _ _ _ _ hc h2
    | true => exact evCode_af a _ _ _ _ _ hc h2
  | .block id b => fun E A dm st r hc h => by
    obtain ⟨r1, h1, h2⟩ := ob_some (show ob (evCode P b E A dm st) (blockK id) = some r from h)
    have := evCode_af b _ _ _ _ _ hc h1
    unfold blockK at h2
    cases hx : r1.ex with
    | normal => rw [hx] at h2; have h' : some r1 = some r := h2; cases h'; exact this
    | ret => rw [hx] at h2; have h' : some r1 = some r := h2; cases h'; exact this
    | exit id' =>
      rw [hx] at h2
      have h' : bsel (Nat.beq id' id) (some r1) (some ⟨.normal, r1.A, r1.dm, r1.st⟩) = some r := h2
      cases hb : Nat.beq id' id with
      | false => rw [hb] at h'; cases h'; exact this
      | true => rw [hb] at h'; cases h'; exact this
  | .loop b => loopN_af (evCode_af b) 1000000
  | .rangeFunc f params assign body => rangeFn_af f params assign body
  | .exit id => fun E A dm st r _ h => by have h' : some (⟨.exit id, A, dm, st⟩ : Res) = some r := h; cases h'; exact AF.refl _
  | .scope b => evCode_af b
  | .label _ => fun E A dm st r _ h => by have h' : some (⟨.normal, A, dm, st⟩ : Res) = some r := h; cases h'; exact AF.refl _
  | .goto _ => fun E A dm st r _ h => by cases h
  | .ret => fun E A dm st r _ h => by have h' : some (⟨.ret, A, dm, st⟩ : Res) = some r := h; cases h'; exact AF.refl _
  | .refuse _ => fun E A dm st r _ h => by cases h

theorem dropMarks_af : ∀ (l : List Nat) (st st' : St), dropMarks l st = some st' → AF st st'
  | [], st, st', h => by cases h; exact AF.refl _
  | r :: rs, st, st', h => by
    unfold dropMarks at h
    obtain ⟨b, hb, h1⟩ := ob_some h
    split at h1
    · exact (AF.kill hb).trans (dropMarks_af rs _ _ h1)
    · cases h1
theorem callFn_af {call : CallF} (hc : CallAF call) {f : FuncId} {args : List Value} {st st' : St} {v : Value} (h : callFn P call f args st = some (v, st')) : AF st st' := by
  unfold callFn at h
  obtain ⟨fn, _, h1⟩ := ob_some h
  obtain ⟨c, _, h2⟩ := ob_some h1
  obtain ⟨_, h3⟩ := gd_some h2
  obtain ⟨_, h4⟩ := gd_some h3
  obtain ⟨r, h5, h6⟩ := ob_some h4
  have h7 := evCode_af c _ _ _ _ _ hc h5
  unfold retK at h6
  split at h6
  · cases h6
  · obtain ⟨st1, h8, h9⟩ := ob_some h6
    obtain ⟨l, _, h10⟩ := ob_some h9
    cases h10
    exact h7.trans (dropMarks_af _ _ _ h8)
theorem yieldFn_af {call : CallF} (hc : CallAF call) {l : Nat} {args : List Value} {st st' : St} {v : Value} (h : yieldFn P call l args st = some (v, st')) : AF st st' := by
  unfold yieldFn at h
  obtain ⟨b, _, h1⟩ := ob_some h
  split at h1
  · obtain ⟨_, h2⟩ := gd_some h1
    obtain ⟨_, h3⟩ := gd_some h2
    obtain ⟨r, h4, h5⟩ := ob_some h3
    have h6 := evCode_af _ _ _ _ _ _ hc h4
    unfold roundBody at h5
    split at h5
    · obtain ⟨b2, hb2, h7⟩ := ob_some h5
      split at h7
      · split at h7
        · obtain ⟨r2, h8, h9⟩ := ob_some h7
          have h10 := evCode_af _ _ _ _ _ _ hc h8
          unfold roundK at h9
          split at h9
          · cases h9
          · obtain ⟨b3, hb3, h11⟩ := ob_some h9
            split at h11
            · split at h11 <;> cases h11 <;> exact ((h6.trans (AF.set hb2 _)).trans h10).trans (AF.set hb3 _)
            · cases h11
        · cases h7
      · cases h7
    · cases h5
  · cases h1
theorem AF.nsteps : ∀ (l : List NStep) (st st' : St), nsteps l st = some st' → AF st st'
  | [], st, st', h => by cases h; exact AF.refl st
  | .push b :: l, st, st', h => (AF.push st b).trans (AF.nsteps l (st.push b) st' h)
  | .store a c :: l, st, st', h => by
    have h' : ob (storeN st a c) (Go.Ev.nsteps l) = some st' := h
    obtain ⟨st1, h1, h2⟩ := ob_some h'
    exact (storeN_af h1).trans (AF.nsteps l st1 st' h2)
  | .drop b :: l, st, st', h => by
    have h' : ob (cellsAt st b fun _ _ => some (st.kill b)) (Go.Ev.nsteps l) = some st' := h
    obtain ⟨st1, h1, h2⟩ := ob_some h'
    obtain ⟨n, c, hk, h3⟩ := cellsAt_some h1
    cases h3
    exact (AF.kill hk).trans (AF.nsteps l _ st' h2)
theorem AF.pushes {r : Value × List NStep} {st st' : St} {v : Value} (h : Go.Ev.pushes r st = some (v, st')) : AF st st' := by
  obtain ⟨st1, h1, h2⟩ := ob_some (show ob (Go.Ev.nsteps r.2 st) (fun st => some (r.1, st)) = some (v, st') from h)
  cases h2
  exact AF.nsteps _ _ _ h1
theorem callN_af : ∀ n, CallAF (callN P n)
  | 0 => fun f args st v st' h => by cases h
  | n + 1 => fun f args st v st' h => by
    have h' : callV P (callN P n) f args st = some (v, st') := h
    have hO : ∀ f args, callO P (callN P n) f args st = some (v, st') → AF st st' := fun f args h' => by
      unfold callO at h'
      split at h'
      · cases h'; exact AF.refl _
      · split at h'
        · exact AF.pushes h'
        · exact callFn_af (callN_af n) h'
    unfold callV at h'
    split at h'
    · exact hO _ _ h'
    · exact yieldFn_af (callN_af n) h'
    · unfold methV at h'
      split at h'
      · obtain ⟨g, _, h2⟩ := ob_some h'
        exact hO _ _ h2
      · cases h'
    · cases h'
end Go.Ev
