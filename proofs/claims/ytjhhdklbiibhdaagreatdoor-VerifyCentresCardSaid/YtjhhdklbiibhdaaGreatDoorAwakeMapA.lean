/-
  A map from the numbers 1 to n to pointers, made by the call: what a look-up, a store of the next number and len do: no program in sight.
-/
import Derived.MapKept
import Derived.WalkKit
import Derived.Lib.Hide
namespace Go.Proofs.YtjhhdklbiibhdaaGreatDoor
open Go Go.RowKit

/-- the entries: number i + 1 leads to block ps[i] -/
def mkPs : List Nat → Nat → List (Value × Value)
  | [], _ => []
  | p :: ps, i => (.int .i64 ((i : Int) + 1), .pointer (some ⟨p, 0, none⟩)) :: mkPs ps (i + 1)
theorem mkPs_append : ∀ (ps qs : List Nat) (i : Nat), mkPs (ps ++ qs) i = mkPs ps i ++ mkPs qs (i + ps.length)
  | [], qs, i => by simp [mkPs]
  | p :: ps, qs, i => by
    have := mkPs_append ps qs (i + 1)
    simp only [List.cons_append, mkPs, List.length_cons]
    rw [this, show i + 1 + ps.length = i + (ps.length + 1) by omega]
def MapIs (W : World) (mb : Nat) (ps : List Nat) : Prop := ∃ es clock, W.heap[mb]? = some (.map es clock) ∧ es.toList.map (fun e => (e.key, e.val)) = mkPs ps 0

theorem find_in : ∀ (l : List MapEntry) (ps : List Nat) (i : Nat) (z : Int) (p : Nat) (j : Nat), l.map (fun e => (e.key, e.val)) = mkPs ps i → ps[j]? = some p → z = (i : Int) + j + 1 →
    Instr.findNow (.int .i64) (.int .i64 z) l i = some (some (i + j, .pointer (some ⟨p, 0, none⟩)))
  | [], ps, i, z, p, j, h, hj, hz => by
    cases ps with
    | nil => simp at hj
    | cons q ps => simp [mkPs] at h
  | e :: l, [], i, z, p, j, h, hj, hz => by simp at hj
  | e :: l, q :: ps, i, z, p, j, h, hj, hz => by
    simp only [List.map_cons, mkPs, List.cons.injEq, Prod.mk.injEq] at h
    obtain ⟨⟨h1, h2⟩, h3⟩ := h
    unfold Instr.findNow
    rw [h1]
    cases j with
    | zero =>
      simp at hj
      subst hj
      have hz' : z = (i : Int) + 1 := by omega
      simp [Instr.sameNow, hz', h2]
    | succ j =>
      have hne : (z == (i : Int) + 1) = false := by simp; omega
      simp only [Instr.sameNow, if_true, hne]
      have := find_in l ps (i + 1) z p j h3 (by simpa using hj) (by push_cast; omega)
      rw [show i + 1 + j = i + (j + 1) by omega] at this
      exact this
theorem find_out : ∀ (l : List MapEntry) (ps : List Nat) (i : Nat) (z : Int), l.map (fun e => (e.key, e.val)) = mkPs ps i → (z < (i : Int) + 1 ∨ (i : Int) + ps.length < z) → Instr.findNow (.int .i64) (.int .i64 z) l i = some none
  | [], ps, i, z, h, hz => rfl
  | e :: l, [], i, z, h, hz => by simp [mkPs] at h
  | e :: l, q :: ps, i, z, h, hz => by
    simp only [List.map_cons, mkPs, List.cons.injEq, Prod.mk.injEq] at h
    obtain ⟨⟨h1, h2⟩, h3⟩ := h
    unfold Instr.findNow
    rw [h1]
    simp only [List.length_cons] at hz
    push_cast at hz
    have hne : (z == (i : Int) + 1) = false := by simp; omega
    simp only [Instr.sameNow, if_true, hne]
    exact find_out l ps (i + 1) z h3 (by push_cast; omega)

section
variable {P : Program} {W : World} {mb : Nat} {ps : List Nat} {mt kt et : TypeId}
theorem run_lookup_in (hm : P.underlying mt = some (.map kt et)) (hk : P.underlying kt = some (.int .i64)) (h : MapIs W mb ps) {z : Int} {j p : Nat} (hj : ps[j]? = some p) (hz : z = (j : Int) + 1) :
    (Instr.lookup mt (.map (some mb)) (.int .i64 z) false).run P W = .ok (.pointer (some ⟨p, 0, none⟩)) W := by
  obtain ⟨es, clock, hb, he⟩ := h
  have hf := find_in es.toList ps 0 z p j he hj (by push_cast; omega)
  unfold Instr.lookup
  simp [Sem.run_bind, run_underlying hm, Go.MapKept.run_getObj_map hb, Go.MapKept.run_checkKey (e := es.isEmpty) (n := 9999) hk (show Go.MapKept.IsKey (.int .i64) (.int .i64 z) by simp [Go.MapKept.IsKey]), Go.MapKept.run_findKey hk hf]
theorem run_lookup_out (hm : P.underlying mt = some (.map kt et)) (hk : P.underlying kt = some (.int .i64)) {v : Value} (hv : ∀ w, (zeroValue et).run P w = .ok v w) (h : MapIs W mb ps) {z : Int} (hz : z < 1 ∨ (ps.length : Int) < z) :
    (Instr.lookup mt (.map (some mb)) (.int .i64 z) false).run P W = .ok v W := by
  obtain ⟨es, clock, hb, he⟩ := h
  have hf := find_out es.toList ps 0 z he (by push_cast; omega)
  unfold Instr.lookup
  simp [Sem.run_bind, run_underlying hm, Go.MapKept.run_getObj_map hb, Go.MapKept.run_checkKey (e := es.isEmpty) (n := 9999) hk (show Go.MapKept.IsKey (.int .i64) (.int .i64 z) by simp [Go.MapKept.IsKey]), Go.MapKept.run_findKey hk hf, hv]
theorem run_update_next (hm : P.underlying mt = some (.map kt et)) (hk : P.underlying kt = some (.int .i64)) (h : MapIs W mb ps) {z : Int} (p : Nat) (hz : z = (ps.length : Int) + 1) :
    ∃ W', (Instr.mapUpdate mt (.map (some mb)) (.int .i64 z) (.pointer (some ⟨p, 0, none⟩))).run P W = .ok () W' ∧ MapIs W' mb (ps ++ [p]) ∧ W.grownBy W' (some mb) ∧ W'.heap.size = W.heap.size := by
  obtain ⟨es, clock, hb, he⟩ := h
  have hf := find_out es.toList ps 0 z he (by push_cast; omega)
  refine ⟨{ W with heap := W.heap.setIfInBounds mb (.map (es.push { key := .int .i64 z, val := .pointer (some ⟨p, 0, none⟩), born := clock }) (clock + 1)) }, ?_, ⟨_, _, (MapKept.heap_set hb).1, ?_⟩, ⟨rfl, rfl, rfl, by simp, fun k _ hne => ?_⟩, by simp⟩
  · unfold Instr.mapUpdate
    simp [Sem.run_bind, run_underlying hm, MapKept.run_getObj_map hb, MapKept.run_checkKey (e := false) (n := 9999) hk (show MapKept.IsKey (.int .i64) (.int .i64 z) by simp [MapKept.IsKey]), MapKept.run_findKey hk hf, MapKept.run_setObj_map _ hb]
  · rw [mkPs_append, ← he]
    simp [mkPs, hz]
  · exact (MapKept.heap_set hb).2 k fun e => hne (by rw [e])
theorem MapIs.keep {W' : World} (h : MapIs W mb ps) (e : W'.heap[mb]? = W.heap[mb]?) : MapIs W' mb ps := by
  obtain ⟨es, clock, hb, he⟩ := h
  exact ⟨es, clock, e.trans hb, he⟩
theorem mkPs_len : ∀ (ps : List Nat) (i : Nat), (mkPs ps i).length = ps.length
  | [], _ => rfl
  | _ :: ps, i => by simp [mkPs, mkPs_len ps (i + 1)]
theorem run_len_ps {ty : TypeId} (hm : P.underlying mt = some (.map kt et)) (h : MapIs W mb ps) : (Builtin.len_ #[mt] ty #[.map (some mb)]).run P W = .ok (.int .i64 ps.length) W := by
  obtain ⟨es, clock, hb, he⟩ := h
  have hl : es.size = ps.length := by
    have := congrArg List.length he
    simpa [mkPs_len] using this
  simp [Builtin.len_, run_underlying hm, MapKept.run_getObj_map hb, hl, goInt]

variable {ops : Array Oper} {rest : List Oper} {o : Oper} {a : Act} {Q : Exit → Act → World → Prop}
/-- the look-up at the operation -/
theorem wpList_lookup_run (hg : o.guard = none) (t : TypeId) (m k : Operand) (ho : o.op = .lookup t m k false) {mv kv v : Value} (hmv : a.eval m = mv) (hkv : a.eval k = kv) (hr : (Instr.lookup t mv kv false).run P W = .ok v W)
    (h : wpList P ops Q rest (a.put o.dst v) W) : wpList P ops Q (o :: rest) a W := by
  refine wpList_plain hg fun K hK => ?_
  unfold Oper.wp
  simp [execOp, ho, hmv, hkv, hr, Result.andThen]
  exact hK _ _ h
/-- the store at the operation -/
theorem wpList_update_run (hg : o.guard = none) (t : TypeId) (m k x : Operand) (ho : o.op = .mapUpdate t m k x) {mv kv xv : Value} {W' : World} (hmv : a.eval m = mv) (hkv : a.eval k = kv) (hxv : a.eval x = xv) (hr : (Instr.mapUpdate t mv kv xv).run P W = .ok () W')
    (h : wpList P ops Q rest (a.put o.dst undef) W') : wpList P ops Q (o :: rest) a W := by
  refine wpList_plain hg fun K hK => ?_
  unfold Oper.wp
  simp [execOp, ho, hmv, hkv, hxv, hr, Result.andThen]
  exact hK _ _ h
/-- len at the operation -/
theorem wpList_len_run (hg : o.guard = none) (t : TypeId) (m : Operand) (ho : o.op = .call { callee := .builtin .len, args := #[m], argTypes := #[t] }) {mv v : Value} (hmv : a.eval m = mv) (hr : ∀ ty, (Builtin.len_ #[t] ty #[mv]).run P W = .ok v W)
    (h : wpList P ops Q rest (a.put o.dst v) W) : wpList P ops Q (o :: rest) a W := by
  refine wpList_plain hg fun K hK => ?_
  unfold Oper.wp
  simp [execOp, ho, resolve, invoke, builtin, hmv, hr, Result.andThen]
  exact hK _ _ h
end
end Go.Proofs.YtjhhdklbiibhdaaGreatDoor
