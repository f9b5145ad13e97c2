/-
  A map with int64 keys, made by the call, as a list of pairs in the order of their first stores: what a look-up, a store and len do: no program in sight.
-/
import Derived.MapKept
import Derived.WalkKit
import Derived.Lib.Hide
namespace Go.Proofs.YtjhhdklbiibhdaaGreatDoor
open Go Go.RowKit

def mkKv (l : List (Int × Value)) : List (Value × Value) := l.map fun p => (.int .i64 p.1, p.2)
def MapKv (W : World) (mb : Nat) (l : List (Int × Value)) : Prop := ∃ es clock, W.heap[mb]? = some (.map es clock) ∧ es.toList.map (fun e => (e.key, e.val)) = mkKv l
def getK : List (Int × Value) → Int → Option Value
  | [], _ => none
  | p :: l, z => if p.1 = z then some p.2 else getK l z
def putK : List (Int × Value) → Int → Value → List (Int × Value)
  | [], z, u => [(z, u)]
  | p :: l, z, u => if p.1 = z then (z, u) :: l else p :: putK l z u
theorem putK_none : ∀ (l : List (Int × Value)) (z : Int) (u : Value), getK l z = none → putK l z u = l ++ [(z, u)]
  | [], _, _, _ => rfl
  | p :: l, z, u, h => by
    unfold getK at h
    split at h
    · cases h
    · rename_i hne
      rw [putK, if_neg hne, putK_none l z u h]
      rfl
theorem find_none : ∀ (es : List MapEntry) (l : List (Int × Value)) (i : Nat) (z : Int), es.map (fun e => (e.key, e.val)) = mkKv l → getK l z = none → Instr.findNow (.int .i64) (.int .i64 z) es i = some none
  | [], l, i, z, h, hz => rfl
  | e :: es, [], i, z, h, hz => by simp [mkKv] at h
  | e :: es, p :: l, i, z, h, hz => by
    simp only [mkKv, List.map_cons, List.cons.injEq, Prod.mk.injEq] at h
    obtain ⟨⟨h1, h2⟩, h3⟩ := h
    unfold getK at hz
    split at hz
    · cases hz
    · rename_i hne
      unfold Instr.findNow
      rw [h1]
      have hb : (z == p.1) = false := by simp; omega
      simp only [Instr.sameNow, if_true, hb]
      exact find_none es l (i + 1) z h3 hz
theorem find_some : ∀ (es : List MapEntry) (l : List (Int × Value)) (i : Nat) (z : Int) (v : Value), es.map (fun e => (e.key, e.val)) = mkKv l → getK l z = some v →
    ∃ j, Instr.findNow (.int .i64) (.int .i64 z) es i = some (some (i + j, v)) ∧ l[j]? = some (z, v) ∧ ∀ u, putK l z u = l.set j (z, u)
  | [], [], i, z, v, h, hz => by cases hz
  | [], p :: l, i, z, v, h, hz => by simp [mkKv] at h
  | e :: es, [], i, z, v, h, hz => by simp [mkKv] at h
  | e :: es, p :: l, i, z, v, h, hz => by
    simp only [mkKv, List.map_cons, List.cons.injEq, Prod.mk.injEq] at h
    obtain ⟨⟨h1, h2⟩, h3⟩ := h
    unfold getK at hz
    split at hz
    · rename_i he
      cases hz
      refine ⟨0, ?_, ?_, fun u => ?_⟩
      · unfold Instr.findNow
        rw [h1]
        simp [Instr.sameNow, he, h2]
      · simp [← he]
      · rw [putK, if_pos he]
        rfl
    · rename_i hne
      obtain ⟨j, f1, f2, f3⟩ := find_some es l (i + 1) z v h3 hz
      refine ⟨j + 1, ?_, by simpa using f2, fun u => ?_⟩
      · unfold Instr.findNow
        rw [h1]
        have hb : (z == p.1) = false := by simp; omega
        simp only [Instr.sameNow, if_true, hb]
        rw [show i + (j + 1) = i + 1 + j by omega]
        exact f1
      · rw [putK, if_neg hne, f3 u]
        rfl

section
variable {P : Program} {W : World} {mb : Nat} {l : List (Int × Value)} {mt kt et : TypeId}
theorem run_lookup_kv (hm : P.underlying mt = some (.map kt et)) (hk : P.underlying kt = some (.int .i64)) {zv : Value} (hv : ∀ w, (zeroValue et).run P w = .ok zv w) (h : MapKv W mb l) (z : Int) :
    (Instr.lookup mt (.map (some mb)) (.int .i64 z) true).run P W = .ok (.tuple #[(getK l z).getD zv, .bool (getK l z).isSome]) W ∧ (Instr.lookup mt (.map (some mb)) (.int .i64 z) false).run P W = .ok ((getK l z).getD zv) W := by
  obtain ⟨es, clock, hb, he⟩ := h
  cases hg : getK l z with
  | none =>
    have hf := find_none es.toList l 0 z he hg
    unfold Instr.lookup
    simp [Sem.run_bind, run_underlying hm, Go.MapKept.run_getObj_map hb, Go.MapKept.run_checkKey (e := es.isEmpty) (n := 9999) hk (show Go.MapKept.IsKey (.int .i64) (.int .i64 z) by simp [Go.MapKept.IsKey]), Go.MapKept.run_findKey hk hf, hv]
  | some v =>
    obtain ⟨j, hf, _, _⟩ := find_some es.toList l 0 z v he hg
    unfold Instr.lookup
    simp [Sem.run_bind, run_underlying hm, Go.MapKept.run_getObj_map hb, Go.MapKept.run_checkKey (e := es.isEmpty) (n := 9999) hk (show Go.MapKept.IsKey (.int .i64) (.int .i64 z) by simp [Go.MapKept.IsKey]), Go.MapKept.run_findKey hk hf]
theorem run_update_kv (hm : P.underlying mt = some (.map kt et)) (hk : P.underlying kt = some (.int .i64)) (h : MapKv W mb l) (z : Int) (u : Value) :
    ∃ W', (Instr.mapUpdate mt (.map (some mb)) (.int .i64 z) u).run P W = .ok () W' ∧ MapKv W' mb (putK l z u) ∧ W.grownBy W' (some mb) ∧ W'.heap.size = W.heap.size := by
  obtain ⟨es, clock, hb, he⟩ := h
  have hK : Go.MapKept.IsKey (.int .i64) (.int .i64 z) := by simp [Go.MapKept.IsKey]
  cases hg : getK l z with
  | none =>
    have hf := find_none es.toList l 0 z he hg
    refine ⟨{ W with heap := W.heap.setIfInBounds mb (.map (es.push { key := .int .i64 z, val := u, born := clock }) (clock + 1)) }, ?_, ⟨_, _, (MapKept.heap_set hb).1, ?_⟩, ⟨rfl, rfl, rfl, by simp, fun k _ hne => ?_⟩, by simp⟩
    · unfold Instr.mapUpdate
      simp [Sem.run_bind, run_underlying hm, MapKept.run_getObj_map hb, MapKept.run_checkKey (e := false) (n := 9999) hk hK, MapKept.run_findKey hk hf, MapKept.run_setObj_map _ hb]
    · rw [putK_none l z u hg, mkKv, List.map_append, ← mkKv, ← he]
      simp
    · exact (MapKept.heap_set hb).2 k fun e => hne (by rw [e])
  | some v =>
    obtain ⟨j, hf, hj, hp⟩ := find_some es.toList l 0 z v he hg
    rw [Nat.zero_add] at hf
    have hkey : es[j]?.map (·.key) = some (.int .i64 z) := by
      have := congrArg (fun q => q[j]?) he
      simp only [mkKv, List.getElem?_map, hj, Option.map_some, Array.getElem?_toList] at this
      cases hq : es[j]? with
      | none => simp [hq] at this
      | some e =>
        simp only [hq, Option.map_some, Option.some.injEq, Prod.mk.injEq] at this
        simp [this.1]
    refine ⟨{ W with heap := W.heap.setIfInBounds mb (.map (es.modify j fun e => { e with key := .int .i64 z, val := u }) clock) }, ?_, ⟨_, _, (MapKept.heap_set hb).1, ?_⟩, ⟨rfl, rfl, rfl, by simp, fun k _ hne => ?_⟩, by simp⟩
    · unfold Instr.mapUpdate
      simp [Sem.run_bind, run_underlying hm, MapKept.run_getObj_map hb, MapKept.run_checkKey (e := false) (n := 9999) hk hK, MapKept.run_findKey hk hf, MapKept.run_setObj_map _ hb, hkey, MapKept.run_keyThatStays hK]
    · rw [hp u]
      apply List.ext_getElem?
      intro i
      have hi := congrArg (fun q => q[i]?) he
      simp only [mkKv, List.getElem?_map, Array.getElem?_toList, Array.getElem?_modify, List.getElem?_set] at hi ⊢
      have hjl : j < l.length := (List.getElem?_eq_some_iff.1 hj).1
      by_cases hij : j = i
      · subst hij
        cases hq : es[j]? with
        | none => simp [hq] at hkey
        | some e => simp [hjl]
      · simp only [hij, if_false]
        exact hi
    · exact (MapKept.heap_set hb).2 k fun e => hne (by rw [e])
theorem MapKv.keep {W' : World} (h : MapKv W mb l) (e : W'.heap[mb]? = W.heap[mb]?) : MapKv W' mb l := by
  obtain ⟨es, clock, hb, he⟩ := h
  exact ⟨es, clock, e.trans hb, he⟩
theorem run_len_kv {ty : TypeId} (hm : P.underlying mt = some (.map kt et)) (h : MapKv W mb l) : (Builtin.len_ #[mt] ty #[.map (some mb)]).run P W = .ok (.int .i64 l.length) W := by
  obtain ⟨es, clock, hb, he⟩ := h
  have hl : es.size = l.length := by
    have := congrArg List.length he
    simpa [mkKv] using this
  simp [Builtin.len_, run_underlying hm, MapKept.run_getObj_map hb, hl, goInt]

variable {ops : Array Oper} {rest : List Oper} {o : Oper} {a : Act} {Q : Exit → Act → World → Prop}
/-- the look-up with 'ok' at the operation -/
theorem wpList_lookup_ok (hg : o.guard = none) (t : TypeId) (m k : Operand) (ho : o.op = .lookup t m k true) {mv kv v : Value} (hmv : a.eval m = mv) (hkv : a.eval k = kv) (hr : (Instr.lookup t mv kv true).run P W = .ok v W)
    (h : wpList P ops Q rest (a.put o.dst v) W) : wpList P ops Q (o :: rest) a W := by
  refine wpList_plain hg fun K hK => ?_
  unfold Oper.wp
  simp [execOp, ho, hmv, hkv, hr, Result.andThen]
  exact hK _ _ h
end
end Go.Proofs.YtjhhdklbiibhdaaGreatDoor
