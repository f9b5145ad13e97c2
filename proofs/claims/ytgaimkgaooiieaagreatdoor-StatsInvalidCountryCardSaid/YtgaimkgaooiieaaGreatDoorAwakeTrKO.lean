/-
  A map with int64 keys, made by the call, as a list of pairs in the order of their first stores: what a look-up, a store and len do: no program in sight.
  A whole record into the variable that was made last; rows of records that the call itself owns; the keys of a map, and counts over a trace, as plain lists: no program in sight but for the sizes.
  What stats.appliedOf answers: a map whose keys are the numbers of the applied entries.
  What stats.callsOf answers: the calls of a trace in the order of their first events.
-/
import Derived.MapKept
import Derived.WalkKit
import Derived.Lib.Hide
import Derived.Test.YtgaimkgaooiieaaGreatDoorAwakeTrAC
import Derived.Deep.WholeRow
import Derived.Deep.MidRow
import Derived.OwnWalk
import Derived.Deep.Cut
import Derived.Carry
namespace Go.Proofs.YtgaimkgaooiieaaGreatDoor
open Go Go.RowKit

def mkKv (l : List (Int × Value)) : List (Value × Value) := l.map fun p => (.int .i64 p.1, p.2)
def MapKv (W : World) (mb : Nat) (l : List (Int × Value)) : Prop := ∃ es clock, W.heap[mb]? = some (.map es clock) ∧ es.toList.map (fun e => (e.key, e.val)) = mkKv l
def getK : List (Int × Value) → Int → Option Value
  | [], _ => none
  | p :: l, z => if p.1 = z then some p.2 else getK l z
def putK : List (Int × Value) → Int → Value → List (Int × Value)
  | [], z, u => [(z, u)]
  | p :: l, z, u => if p.1 = z then (z, u) :: l else p :: putK l z u
theorem putK_none : ∀ (l : List (Int × Value)) (z : Int) (u : Value), getK l z = none → putK l z u = l ++ [(z, u)]
  | [], _, _, _ => rfl
  | p :: l, z, u, h => by
    unfold getK at h
    split at h
    · cases h
    · rename_i hne
      rw [putK, if_neg hne, putK_none l z u h]
      rfl
theorem find_none : ∀ (es : List MapEntry) (l : List (Int × Value)) (i : Nat) (z : Int), es.map (fun e => (e.key, e.val)) = mkKv l → getK l z = none → Instr.findNow (.int .i64) (.int .i64 z) es i = some none
  | [], l, i, z, h, hz => rfl
  | e :: es, [], i, z, h, hz => by simp [mkKv] at h
  | e :: es, p :: l, i, z, h, hz => by
    simp only [mkKv, List.map_cons, List.cons.injEq, Prod.mk.injEq] at h
    obtain ⟨⟨h1, h2⟩, h3⟩ := h
    unfold getK at hz
    split at hz
    · cases hz
    · rename_i hne
      unfold Instr.findNow
      rw [h1]
      have hb : (z == p.1) = false := by simp; omega
      simp only [Instr.sameNow, if_true, hb]
      exact find_none es l (i + 1) z h3 hz
theorem find_some : ∀ (es : List MapEntry) (l : List (Int × Value)) (i : Nat) (z : Int) (v : Value), es.map (fun e => (e.key, e.val)) = mkKv l → getK l z = some v →
    ∃ j, Instr.findNow (.int .i64) (.int .i64 z) es i = some (some (i + j, v)) ∧ l[j]? = some (z, v) ∧ ∀ u, putK l z u = l.set j (z, u)
  | [], [], i, z, v, h, hz => by cases hz
  | [], p :: l, i, z, v, h, hz => by simp [mkKv] at h
  | e :: es, [], i, z, v, h, hz => by simp [mkKv] at h
  | e :: es, p :: l, i, z, v, h, hz => by
    simp only [mkKv, List.map_cons, List.cons.injEq, Prod.mk.injEq] at h
    obtain ⟨⟨h1, h2⟩, h3⟩ := h
    unfold getK at hz
    split at hz
    · rename_i he
      cases hz
      refine ⟨0, ?_, ?_, fun u => ?_⟩
      · unfold Instr.findNow
        rw [h1]
        simp [Instr.sameNow, he, h2]
      · simp [← he]
      · rw [putK, if_pos he]
        rfl
    · rename_i hne
      obtain ⟨j, f1, f2, f3⟩ := find_some es l (i + 1) z v h3 hz
      refine ⟨j + 1, ?_, by simpa using f2, fun u => ?_⟩
      · unfold Instr.findNow
        rw [h1]
        have hb : (z == p.1) = false := by simp; omega
        simp only [Instr.sameNow, if_true, hb]
        rw [show i + (j + 1) = i + 1 + j by omega]
        exact f1
      · rw [putK, if_neg hne, f3 u]
        rfl

section
variable {P : Program} {W : World} {mb : Nat} {l : List (Int × Value)} {mt kt et : TypeId}
theorem run_lookup_kv (hm : P.underlying mt = some (.map kt et)) (hk : P.underlying kt = some (.int .i64)) {zv : Value} (hv : ∀ w, (zeroValue et).run P w = .ok zv w) (h : MapKv W mb l) (z : Int) :
    (Instr.lookup mt (.map (some mb)) (.int .i64 z) true).run P W = .ok (.tuple #[(getK l z).getD zv, .bool (getK l z).isSome]) W ∧ (Instr.lookup mt (.map (some mb)) (.int .i64 z) false).run P W = .ok ((getK l z).getD zv) W := by
  obtain ⟨es, clock, hb, he⟩ := h
  cases hg : getK l z with
  | none =>
    have hf := find_none es.toList l 0 z he hg
    unfold Instr.lookup
    simp [Sem.run_bind, run_underlying hm, Go.MapKept.run_getObj_map hb, Go.MapKept.run_checkKey (e := es.isEmpty) (n := 9999) hk (show Go.MapKept.IsKey (.int .i64) (.int .i64 z) by simp [Go.MapKept.IsKey]), Go.MapKept.run_findKey hk hf, hv]
  | some v =>
    obtain ⟨j, hf, _, _⟩ := find_some es.toList l 0 z v he hg
    unfold Instr.lookup
    simp [Sem.run_bind, run_underlying hm, Go.MapKept.run_getObj_map hb, Go.MapKept.run_checkKey (e := es.isEmpty) (n := 9999) hk (show Go.MapKept.IsKey (.int .i64) (.int .i64 z) by simp [Go.MapKept.IsKey]), Go.MapKept.run_findKey hk hf]
theorem run_update_kv (hm : P.underlying mt = some (.map kt et)) (hk : P.underlying kt = some (.int .i64)) (h : MapKv W mb l) (z : Int) (u : Value) :
    ∃ W', (Instr.mapUpdate mt (.map (some mb)) (.int .i64 z) u).run P W = .ok () W' ∧ MapKv W' mb (putK l z u) ∧ W.grownBy W' (some mb) ∧ W'.heap.size = W.heap.size := by
  obtain ⟨es, clock, hb, he⟩ := h
  have hK : Go.MapKept.IsKey (.int .i64) (.int .i64 z) := by simp [Go.MapKept.IsKey]
  cases hg : getK l z with
  | none =>
    have hf := find_none es.toList l 0 z he hg
    refine ⟨{ W with heap := W.heap.setIfInBounds mb (.map (es.push { key := .int .i64 z, val := u, born := clock }) (clock + 1)) }, ?_, ⟨_, _, (MapKept.heap_set hb).1, ?_⟩, ⟨rfl, rfl, rfl, by simp, fun k _ hne => ?_⟩, by simp⟩
    · unfold Instr.mapUpdate
      simp [Sem.run_bind, run_underlying hm, MapKept.run_getObj_map hb, MapKept.run_checkKey (e := false) (n := 9999) hk hK, MapKept.run_findKey hk hf, MapKept.run_setObj_map _ hb]
    · rw [putK_none l z u hg, mkKv, List.map_append, ← mkKv, ← he]
      simp
    · exact (MapKept.heap_set hb).2 k fun e => hne (by rw [e])
  | some v =>
    obtain ⟨j, hf, hj, hp⟩ := find_some es.toList l 0 z v he hg
    rw [Nat.zero_add] at hf
    have hkey : es[j]?.map (·.key) = some (.int .i64 z) := by
      have := congrArg (fun q => q[j]?) he
      simp only [mkKv, List.getElem?_map, hj, Option.map_some, Array.getElem?_toList] at this
      cases hq : es[j]? with
      | none => simp [hq] at this
      | some e =>
        simp only [hq, Option.map_some, Option.some.injEq, Prod.mk.injEq] at this
        simp [this.1]
    refine ⟨{ W with heap := W.heap.setIfInBounds mb (.map (es.modify j fun e => { e with key := .int .i64 z, val := u }) clock) }, ?_, ⟨_, _, (MapKept.heap_set hb).1, ?_⟩, ⟨rfl, rfl, rfl, by simp, fun k _ hne => ?_⟩, by simp⟩
    · unfold Instr.mapUpdate
      simp [Sem.run_bind, run_underlying hm, MapKept.run_getObj_map hb, MapKept.run_checkKey (e := false) (n := 9999) hk hK, MapKept.run_findKey hk hf, MapKept.run_setObj_map _ hb, hkey, MapKept.run_keyThatStays hK]
    · rw [hp u]
      apply List.ext_getElem?
      intro i
      have hi := congrArg (fun q => q[i]?) he
      simp only [mkKv, List.getElem?_map, Array.getElem?_toList, Array.getElem?_modify, List.getElem?_set] at hi ⊢
      have hjl : j < l.length := (List.getElem?_eq_some_iff.1 hj).1
      by_cases hij : j = i
      · subst hij
        cases hq : es[j]? with
        | none => simp [hq] at hkey
        | some e => simp [hjl]
      · simp only [hij, if_false]
        exact hi
    · exact (MapKept.heap_set hb).2 k fun e => hne (by rw [e])
theorem MapKv.keep {W' : World} (h : MapKv W mb l) (e : W'.heap[mb]? = W.heap[mb]?) : MapKv W' mb l := by
  obtain ⟨es, clock, hb, he⟩ := h
  exact ⟨es, clock, e.trans hb, he⟩
theorem run_len_kv {ty : TypeId} (hm : P.underlying mt = some (.map kt et)) (h : MapKv W mb l) : (Builtin.len_ #[mt] ty #[.map (some mb)]).run P W = .ok (.int .i64 l.length) W := by
  obtain ⟨es, clock, hb, he⟩ := h
  have hl : es.size = l.length := by
    have := congrArg List.length he
    simpa [mkKv] using this
  simp [Builtin.len_, run_underlying hm, MapKept.run_getObj_map hb, hl, goInt]

variable {ops : Array Oper} {rest : List Oper} {o : Oper} {a : Act} {Q : Exit → Act → World → Prop}
/-- the look-up with 'ok' at the operation -/
theorem wpList_lookup_ok (hg : o.guard = none) (t : TypeId) (m k : Operand) (ho : o.op = .lookup t m k true) {mv kv v : Value} (hmv : a.eval m = mv) (hkv : a.eval k = kv) (hr : (Instr.lookup t mv kv true).run P W = .ok v W)
    (h : wpList P ops Q rest (a.put o.dst v) W) : wpList P ops Q (o :: rest) a W := by
  refine wpList_plain hg fun K hK => ?_
  unfold Oper.wp
  simp [execOp, ho, hmv, hkv, hr, Result.andThen]
  exact hK _ _ h
end
end Go.Proofs.YtgaimkgaooiieaaGreatDoor

namespace Go.Proofs.YtgaimkgaooiieaaGreatDoor
open Go Go.RowKit

theorem shape_of {W : World} {B T S n : Nat} {v : Value} {xs : List Value} (h : W.ownsRow B T S v n xs) : ∃ A cap, v = .slice A n cap := by
  rcases h.2 with ⟨rfl, rfl⟩ | ⟨g, cap, cur, rfl, _⟩
  · exact ⟨none, 0, rfl⟩
  · exact ⟨_, cap, rfl⟩
theorem own_lt {W : World} {B T S n : Nat} {v : Value} {xs : List Value} (h : W.ownsRow B T S v n xs) : ∀ g, v.ownBlock = some g → B ≤ g := fun g hg => (h.lt g hg).1
theorem cells_new (w : World) (cs : List Value) (t : TypeId) (j : Nat) (u : Value) (h : cs[j]? = some u) : (w.alloc (.cells cs.toArray t)).cell? ((⟨w.heap.size, 0, none⟩ : Addr).add j) = some u := by
  rw [Addr.add_mid]
  show World.cell? (w.alloc (.cells cs.toArray t)) ⟨w.heap.size, 0 + j, none⟩ = some u
  have e : (w.alloc (.cells cs.toArray t)).heap[w.heap.size]? = some (.cells cs.toArray t) := by
    show (w.heap.push _)[w.heap.size]? = _
    simp
  unfold World.cell?
  simp only [e]
  simpa using h
theorem rangeAt_new {W : World} {g : Nat} {C : Array Value} {fz : Nat × Nat} {t : TypeId} (h : W.heap[g]? = some (.cells C t fz)) : W.rangeAt g 0 C.toList := fun j v hv => by
  unfold World.cell?
  simp only [h]
  simpa using hv
theorem info_parts {t : TypeId} {z : Value} {n b : Nat} (h : (Tryz.prog.info? t).map (fun i => (i.zero, i.size, i.bytes)) = some (some z, n, b)) : ∃ i, Tryz.prog.info? t = some i ∧ i.zero = some z ∧ i.size = n ∧ i.bytes = b := by
  cases hi : Tryz.prog.info? t with
  | none => simp [hi] at h
  | some i =>
    simp [hi] at h
    exact ⟨i, rfl, h.1, h.2.1, h.2.2⟩
theorem take_snoc {α : Type} {L : List α} {k : Nat} {x : α} (hx : L[k]? = some x) : L.take (k + 1) = L.take k ++ [x] := by
  obtain ⟨hk, rfl⟩ := List.getElem?_eq_some_iff.1 hx
  rw [List.take_succ_eq_append_getElem hk]
/-- a whole record into the variable that was made last -/
theorem wpList_store_new {P : Program} {ops : Array Oper} {rest : List Oper} {op : Oper} {a : Act} {w : World} {Q : Exit → Act → World → Prop} (hgd : op.guard = none) (ty : TypeId) (x y : Operand) (ho : op.op = .store ty x y)
    (c cells : Array Value) (hx : a.eval x = .pointer (some ⟨w.heap.size, 0, none⟩)) (hy : a.eval y = .agg cells)
    (hi : (P.info? ty).map (·.size) = some cells.size) (hs : c.size = cells.size) (h1 : cells.all (·.oneCell') = true)
    (h : wpList P ops Q rest (a.put op.dst undef) (w.alloc (.cells cells ty))) : wpList P ops Q (op :: rest) a (w.alloc (.cells c ty)) :=
  wpList_plain hgd fun K hK => by
    unfold Oper.wp execOp
    simp only [ho, hx, hy, Sem.run_bind, run_storeAt_new w ty c cells hi hs h1, Sem.run_pure, Result.andThen_ok]
    exact hK _ _ h
theorem wpList_store_last {P : Program} {ops : Array Oper} {rest : List Oper} {op : Oper} {a : Act} {w : World} {Q : Exit → Act → World → Prop} (g : Nat) (hg : g = w.heap.size) (hgd : op.guard = none) (ty : TypeId) (x y : Operand) (ho : op.op = .store ty x y)
    (c cells : Array Value) (hx : a.eval x = .pointer (some ⟨g, 0, none⟩)) (hy : a.eval y = .agg cells)
    (hi : (P.info? ty).map (·.size) = some cells.size) (hs : c.size = cells.size) (h1 : cells.all (·.oneCell') = true)
    (h : wpList P ops Q rest (a.put op.dst undef) (w.alloc (.cells cells ty))) : wpList P ops Q (op :: rest) a (w.alloc (.cells c ty)) := by
  subst hg
  exact wpList_store_new hgd ty x y ho c cells hx hy hi hs h1 h
/-- the store into a map at the operation -/
theorem wpList_update_run {P : Program} {W : World} {ops : Array Oper} {rest : List Oper} {o : Oper} {a : Act} {Q : Exit → Act → World → Prop} (hg : o.guard = none) (t : TypeId) (m k x : Operand) (ho : o.op = .mapUpdate t m k x) {mv kv xv : Value} {W' : World} (hmv : a.eval m = mv) (hkv : a.eval k = kv) (hxv : a.eval x = xv) (hr : (Instr.mapUpdate t mv kv xv).run P W = .ok () W')
    (h : wpList P ops Q rest (a.put o.dst undef) W') : wpList P ops Q (o :: rest) a W := by
  refine wpList_plain hg fun K hK => ?_
  unfold Oper.wp
  simp [execOp, ho, hmv, hkv, hxv, hr, Result.andThen]
  exact hK _ _ h
/-- len of a map at the operation -/
theorem wpList_len_run {P : Program} {W : World} {ops : Array Oper} {rest : List Oper} {o : Oper} {a : Act} {Q : Exit → Act → World → Prop} (hg : o.guard = none) (t : TypeId) (m : Operand) (ho : o.op = .call { callee := .builtin .len, args := #[m], argTypes := #[t] }) {mv v : Value} (hmv : a.eval m = mv) (hr : ∀ ty, (Builtin.len_ #[t] ty #[mv]).run P W = .ok v W)
    (h : wpList P ops Q rest (a.put o.dst v) W) : wpList P ops Q (o :: rest) a W := by
  refine wpList_plain hg fun K hK => ?_
  unfold Oper.wp
  simp [execOp, ho, resolve, invoke, builtin, hmv, hr, Result.andThen]
  exact hK _ _ h

theorem size105 : (Tryz.prog.info? 105).map (·.size) = some 28 := by kernel_rfl
theorem evCells_one (e : EvD) (P : EvP) : ∀ v ∈ evCells e P, v.oneCell' = true := by
  intro v hv
  simp only [evCells, List.mem_cons, List.not_mem_nil, or_false] at hv
  rcases hv with rfl | rfl | rfl | rfl | rfl | rfl | rfl | rfl | rfl | rfl | rfl | rfl | rfl | rfl | rfl | rfl | rfl | rfl | rfl | rfl | rfl | rfl | rfl | rfl | rfl | rfl | rfl | rfl <;> rfl
theorem evSize (e : EvD) (P : EvP) : (Tryz.prog.info? 105).map (·.size) = some (evCells e P).length := size105
theorem evSizeA (e : EvD) (P : EvP) : (Tryz.prog.info? 105).map (·.size) = some (evCells e P).toArray.size := size105
theorem evSize28 (e : EvD) (P : EvP) : (28 : Nat) = (evCells e P).toArray.size := rfl
theorem evOneA (e : EvD) (P : EvP) : (evCells e P).toArray.all (·.oneCell') = true := all_oneCell_toArray (evCells_one e P)

/-! ## the keys of a map, as a list -/
def keysOf (l : List (Int × Value)) : List Int := l.map (·.1)
theorem getK_none : ∀ {l : List (Int × Value)} {z : Int}, getK l z = none ↔ z ∉ keysOf l
  | [], z => by simp [getK, keysOf]
  | p :: l, z => by
    have ih := getK_none (l := l) (z := z)
    unfold getK
    by_cases h : p.1 = z
    · simp [h, keysOf]
    · rw [if_neg h, ih]
      simp [keysOf, Ne.symm h]
theorem getK_mem : ∀ {l : List (Int × Value)} {z : Int} {v : Value}, getK l z = some v → (z, v) ∈ l
  | [], z, v, h => by cases h
  | p :: l, z, v, h => by
    unfold getK at h
    split at h
    · rename_i he
      cases h
      subst he
      exact List.mem_cons_self
    · exact List.mem_cons_of_mem _ (getK_mem h)
theorem keysOf_put {l : List (Int × Value)} {z : Int} {u : Value} (h : getK l z = none) : keysOf (putK l z u) = keysOf l ++ [z] := by
  rw [putK_none l z u h]
  simp [keysOf]

/-! ## the numbers of the entries, and the calls, in the order of their first events -/
def applK (L : List EvD) : Nat → List Int
  | 0 => []
  | k + 1 => match L[k]? with
    | some x => if x.kind = 7 ∧ x.n ∉ applK L k then applK L k ++ [x.n] else applK L k
    | none => applK L k
theorem applK_add {L : List EvD} {k : Nat} {x : EvD} (hx : L[k]? = some x) (h7 : x.kind = 7) (hn : x.n ∉ applK L k) : applK L (k + 1) = applK L k ++ [x.n] := by
  simp only [applK, hx]
  rw [if_pos ⟨h7, hn⟩]
theorem applK_same {L : List EvD} {k : Nat} {x : EvD} (hx : L[k]? = some x) (h : x.kind ≠ 7 ∨ x.n ∈ applK L k) : applK L (k + 1) = applK L k := by
  simp only [applK, hx]
  rw [if_neg (by rintro ⟨h1, h2⟩; rcases h with h | h; exact h h1; exact h2 h)]
theorem applK_len (L : List EvD) : ∀ k, (applK L k).length ≤ k
  | 0 => Nat.le_refl _
  | k + 1 => by
    have ih := applK_len L k
    unfold applK
    split
    · split
      · rw [List.length_append]
        simp
        exact ih
      · omega
    · omega
structure CallD where
  call : Int
  tick : Int
  who : Int
def callK (L : List EvD) : Nat → List CallD
  | 0 => []
  | k + 1 => match L[k]? with
    | some x => if x.kind = 2 ∧ x.call ∉ (callK L k).map (·.call) then callK L k ++ [⟨x.call, x.tick, x.who⟩] else callK L k
    | none => callK L k
theorem callK_add {L : List EvD} {k : Nat} {x : EvD} (hx : L[k]? = some x) (h2 : x.kind = 2) (hn : x.call ∉ (callK L k).map (·.call)) : callK L (k + 1) = callK L k ++ [⟨x.call, x.tick, x.who⟩] := by
  simp only [callK, hx]
  rw [if_pos ⟨h2, hn⟩]
theorem callK_same {L : List EvD} {k : Nat} {x : EvD} (hx : L[k]? = some x) (h : x.kind ≠ 2 ∨ x.call ∈ (callK L k).map (·.call)) : callK L (k + 1) = callK L k := by
  simp only [callK, hx]
  rw [if_neg (by rintro ⟨h1, h2⟩; rcases h with h | h; exact h h1; exact h2 h)]
theorem callK_len (L : List EvD) : ∀ k, (callK L k).length ≤ k
  | 0 => Nat.le_refl _
  | k + 1 => by
    have ih := callK_len L k
    unfold callK
    split
    · split
      · rw [List.length_append]
        simp
        exact ih
      · omega
    · omega
/-- how many events of a kind -/
def cntK (L : List EvD) (q : Int) : Nat → Int
  | 0 => 0
  | k + 1 => match L[k]? with
    | some x => if x.kind = q then cntK L q k + 1 else cntK L q k
    | none => cntK L q k
theorem cntK_yes {L : List EvD} {q : Int} {k : Nat} {x : EvD} (hx : L[k]? = some x) (h : x.kind = q) : cntK L q (k + 1) = cntK L q k + 1 := by
  simp only [cntK, hx]
  rw [if_pos h]
theorem cntK_no {L : List EvD} {q : Int} {k : Nat} {x : EvD} (hx : L[k]? = some x) (h : x.kind ≠ q) : cntK L q (k + 1) = cntK L q k := by
  simp only [cntK, hx]
  rw [if_neg h]
theorem cntK_len (L : List EvD) (q : Int) : ∀ k, 0 ≤ cntK L q k ∧ cntK L q k ≤ k
  | 0 => ⟨Int.le_refl _, Int.le_refl _⟩
  | k + 1 => by
    have ih := cntK_len L q k
    unfold cntK
    split
    · split <;> push_cast <;> omega
    · push_cast; omega
end Go.Proofs.YtgaimkgaooiieaaGreatDoor

namespace Go.Proofs.YtgaimkgaooiieaaGreatDoor
open Go Go.RowKit

def zeroE : EvD := ⟨0, 0, 0, 0, 0, 0, 0, 0, [], 0, 0, 0, 0, 0, 0, 0, 0, 0, 0, ⟨0, 0, 0, 0, 0, 0, [], []⟩, []⟩
def zeroP : EvP := ⟨none, 0, ⟨none, 0, none, 0⟩, none, 0⟩
def zero105L : List Value := evCells zeroE zeroP
theorem zero105 : ∀ w, (zeroValue 105).run Tryz.prog w = .ok (.agg zero105L.toArray) w := by
  have h : (Tryz.prog.info? 105).map (fun i => i.zero) = some (some (.agg zero105L.toArray)) := by kernel_rfl
  intro w
  cases hq : Tryz.prog.info? 105 with
  | none => simp [hq] at h
  | some i =>
    have : i.zero = some (.agg zero105L.toArray) := by simpa [hq] using h
    simp [zeroValue, typeInfo, hq, this]
/-- a value that is a whole event -/
def IsRec (v : Value) : Prop := ∃ cs : Array Value, v = .agg cs ∧ cs.size = 28 ∧ cs.all (·.oneCell') = true
def ApplIs (W : World) (mb : Nat) (ks : List Int) : Prop := ∃ l, MapKv W mb l ∧ keysOf l = ks ∧ ∀ p ∈ l, IsRec p.2
theorem ApplIs.keep {W W' : World} {mb : Nat} {ks : List Int} (h : ApplIs W mb ks) (e : W'.heap[mb]? = W.heap[mb]?) : ApplIs W' mb ks := by
  obtain ⟨l, h1, h2⟩ := h
  exact ⟨l, h1.keep e, h2⟩
theorem below_set {w W W' : World} {B mb : Nat} (h : Below B w W) (hg : W.grownBy W' (some mb)) (hB : B ≤ W.heap.size) (hm : B ≤ mb) : Below B w W' := h.grown hg hB (fun g hg' => by cases hg'; exact hm)

/-- what the round asks of the map: absent -/
theorem look_none {W : World} {mb : Nat} {ks : List Int} {z : Int} (h : ApplIs W mb ks) (hz : z ∉ ks) : (Instr.lookup 176 (.map (some mb)) (.int .i64 z) true).run Tryz.prog W = .ok (.tuple #[.agg zero105L.toArray, .bool false]) W := by
  obtain ⟨l, h1, h2, _⟩ := h
  have := (run_lookup_kv (P := Tryz.prog) (mt := 176) Tryz.underlying176 Tryz.underlying2 zero105 h1 z).1
  rw [(getK_none (l := l)).2 (by rw [h2]; exact hz)] at this
  exact this
theorem look_some {W : World} {mb : Nat} {ks : List Int} {z : Int} (h : ApplIs W mb ks) (hz : z ∈ ks) : ∃ cs : Array Value, cs.size = 28 ∧ cs.all (·.oneCell') = true ∧ (Instr.lookup 176 (.map (some mb)) (.int .i64 z) true).run Tryz.prog W = .ok (.tuple #[.agg cs, .bool true]) W := by
  obtain ⟨l, h1, h2, h3⟩ := h
  have := (run_lookup_kv (P := Tryz.prog) (mt := 176) Tryz.underlying176 Tryz.underlying2 zero105 h1 z).1
  cases hg : getK l z with
  | none => exact absurd (by rw [← h2] at hz; exact hz) (getK_none.1 hg)
  | some v =>
    obtain ⟨cs, rfl, h4, h5⟩ := h3 _ (getK_mem hg)
    rw [hg] at this
    exact ⟨cs, h4, h5, this⟩
theorem put_new {W : World} {mb : Nat} {ks : List Int} {z : Int} {cs : Array Value} (h : ApplIs W mb ks) (hz : z ∉ ks) (h28 : cs.size = 28) (h1 : cs.all (·.oneCell') = true) :
    ∃ W', (Instr.mapUpdate 176 (.map (some mb)) (.int .i64 z) (.agg cs)).run Tryz.prog W = .ok () W' ∧ ApplIs W' mb (ks ++ [z]) ∧ W.grownBy W' (some mb) := by
  obtain ⟨l, h2, h3, h4⟩ := h
  have hn := (getK_none (l := l) (z := z)).2 (by rw [h3]; exact hz)
  obtain ⟨W', q1, q2, q3, _⟩ := run_update_kv (P := Tryz.prog) (mt := 176) Tryz.underlying176 Tryz.underlying2 h2 z (.agg cs)
  refine ⟨W', q1, ⟨_, q2, by rw [keysOf_put hn, h3], fun p hp => ?_⟩, q3⟩
  rw [putK_none l z _ hn] at hp
  rcases List.mem_append.1 hp with hp | hp
  · exact h4 p hp
  · obtain rfl := List.mem_singleton.1 hp
    exact ⟨cs, rfl, h28, h1⟩

set_option maxHeartbeats 4000000 in
set_option maxRecDepth 100000 in
theorem applied_any (A : Option Addr) (c : Nat) (L : List EvD) (w : World) (hL : TrAt w w.heap.size A L) (hlen : L.length ≤ 60) :
    Calls Tryz.prog 81 #[.slice A L.length c] w fun e w' => ∃ mb, e = .returned (.map (some mb)) ∧ ApplIs w' mb (applK L L.length) ∧ Below w.heap.size w w' := by
  have HL := Lib.hid hL
  clear hL
  have hmm := @run_makeMap Tryz.prog
  go_enter Tryz.func81, Tryz.ntmps81
  go_wp2
  clear hmm
  go_loopw [11] (fun i wr => ∃ k : Nat, k ≤ L.length ∧ i = .int .i64 k ∧ ApplIs wr w.heap.size (applK L k) ∧ Below w.heap.size w wr ∧ w.heap.size < wr.heap.size) (fun i _ => L.length - (intOf i).toNat)
  case atStart => exact ⟨0, Nat.zero_le _, rfl, ⟨[], ⟨#[], 0, heap_alloc_last w (.map #[] 0), rfl⟩, rfl, fun _ h => by simp at h⟩, (Below.refl _ w).alloc (Nat.le_refl _) _, by simp⟩
  case round =>
    obtain ⟨k, hk, rfl, hm, hb, hlt0⟩ := hrel
    by_cases hlt : k < L.length
    · obtain ⟨x, hx⟩ : ∃ x, L[k]? = some x := ⟨_, List.getElem?_eq_getElem hlt⟩
      obtain ⟨b, o, P, rfl, hbl, hr, hE⟩ := HL.out k x hx
      have HRR := Lib.hid (show wr.rangeAt b (o + k * 28) (evCells x P) from fun j v hv => (hb.cell (p := ⟨b, o + k * 28 + j, none⟩) hbl).trans (hr j v hv))
      have H28 := Lib.hid (evSize x P)
      have H28' := Lib.hid (evSizeA x P)
      have HSZ := Lib.hid (evSize28 x P)
      have HONE := Lib.hid (evOneA x P)
      have q0 : (evCells x P).toArray[0]? = some (.int .i64 x.kind) := rfl
      have q5 : (evCells x P).toArray[5]? = some (.int .i64 x.n) := rfl
      have hbA : Below wr.heap.size wr (wr.alloc (.cells (evCells x P).toArray 105)) := (Below.refl _ wr).alloc (Nat.le_refl _) _
      have HMA := Lib.hid (hm.keep (hbA.block w.heap.size hlt0))
      have HLR := Lib.hid (show (wr.alloc (.cells (evCells x P).toArray 105)).rangeAt wr.heap.size 0 (evCells x P) from rangeAt_new (heap_alloc_last wr (.cells (evCells x P).toArray 105)))
      have HX := Lib.hid hx
      have HBA := Lib.hid (hb.trans (hbA.mono hb.size))
      have HN0 := Lib.hid hlt0
      obtain ⟨cs, hcs⟩ : ∃ cs, cs = evCells x P := ⟨_, rfl⟩
      rw [← hcs] at HRR H28 H28' HSZ HONE q0 q5 HMA HLR HBA
      obtain ⟨ca, hca⟩ : ∃ ca, ca = cs.toArray := ⟨_, rfl⟩
      rw [← hca] at H28' HSZ HONE q0 q5 HMA HLR HBA
      have HCA := Lib.hid hca
      clear hm hr hE hx hbA hcs hca hb hlt0
      by_cases h7 : x.kind = 7
      · rw [h7] at q0
        by_cases hz : x.n ∈ applK L k
        · have HS := Lib.hid (applK_same HX.out (.inr hz))
          obtain ⟨zs, hz28, hz1, hlk⟩ := look_some HMA.out hz
          have HLK := Lib.hid hlk
          have HZ28 := Lib.hid (show (Tryz.prog.info? 105).map (·.size) = some zs.size by rw [hz28]; exact size105)
          have HZS := Lib.hid (show (28 : Nat) = zs.size from hz28.symm)
          have HZ1 := Lib.hid hz1
          clear hz hlk hz28 hz1 h7
          go_wp2_with (first | (with_reducible refine wpList_load_mid rfl 105 (.tmp 13) rfl b (o + k * 28) rfl cs _ HRR.out Tryz.underlying105 rfl H28.out ?_; rw [← HCA.out]) | (refine wpList_store_new rfl 105 (.tmp 5) (.tmp 14) rfl _ ca rfl rfl H28'.out HSZ.out HONE.out ?_) | (refine wpList_lookup_ok (P := Tryz.prog) (W := wr.alloc (.cells ca 105)) (mv := .map (some w.heap.size)) (kv := .int .i64 x.n) rfl 176 (.tmp 19) (.tmp 21) rfl rfl rfl HLK.out ?_) | (refine wpList_store_last (wr.heap.size + 1) (by simp) rfl 105 (.tmp 6) (.tmp 23) rfl _ zs rfl rfl HZ28.out HZS.out HZ1.out ?_))
          go_roundw
          case rel => exact ⟨k + 1, by omega, by go_num, by rw [HS.out]; exact HMA.out.keep ((Below.refl (wr.alloc (.cells ca 105)).heap.size _ |>.alloc (Nat.le_refl _) _).block w.heap.size (by simp; have := HN0.out; omega)), HBA.out.alloc (by simp; have := HN0.out; omega) _, by simp; have := HN0.out; omega⟩
          case measure => simp [intOf]; omega
        · have HS := Lib.hid (applK_add HX.out h7 hz)
          have hlk := look_none HMA.out hz
          have HLK := Lib.hid hlk
          obtain ⟨zs, hzs⟩ : ∃ zs, zs = zero105L.toArray := ⟨_, rfl⟩
          have HZ28 := Lib.hid (show (Tryz.prog.info? 105).map (·.size) = some zs.size by rw [hzs]; exact size105)
          have HZS := Lib.hid (show (28 : Nat) = zs.size by rw [hzs]; rfl)
          have HZ1 := Lib.hid (show zs.all (·.oneCell') = true by rw [hzs]; exact evOneA zeroE zeroP)
          rw [← hzs] at HLK
          have hMB := HMA.out.keep ((Below.refl (wr.alloc (.cells ca 105)).heap.size _ |>.alloc (Nat.le_refl _) (.cells zs 105)).block w.heap.size (by simp; have := HN0.out; omega))
          obtain ⟨W', hu, hM', hg'⟩ := put_new (cs := ca) hMB hz HSZ.out.symm HONE.out
          have HU := Lib.hid hu
          have HM' := Lib.hid hM'
          have HG' := Lib.hid hg'
          have HLR2 := Lib.hid (show ((wr.alloc (.cells ca 105)).alloc (.cells zs 105)).rangeAt wr.heap.size 0 cs from fun j v hv => ((Below.refl (wr.alloc (.cells ca 105)).heap.size _ |>.alloc (Nat.le_refl _) (.cells zs 105)).cell (p := ⟨wr.heap.size, 0 + j, none⟩) (by simp)).trans (HLR.out j v hv))
          clear hz hlk hzs h7 hMB hu hM' hg'
          go_wp2_with (first | (with_reducible refine wpList_load_mid rfl 105 (.tmp 13) rfl b (o + k * 28) rfl cs _ HRR.out Tryz.underlying105 rfl H28.out ?_; rw [← HCA.out]) | (refine wpList_store_new rfl 105 (.tmp 5) (.tmp 14) rfl _ ca rfl rfl H28'.out HSZ.out HONE.out ?_) | (refine wpList_lookup_ok (P := Tryz.prog) (W := wr.alloc (.cells ca 105)) (mv := .map (some w.heap.size)) (kv := .int .i64 x.n) rfl 176 (.tmp 19) (.tmp 21) rfl rfl rfl HLK.out ?_) | (refine wpList_store_last (wr.heap.size + 1) (by simp) rfl 105 (.tmp 6) (.tmp 23) rfl _ zs rfl rfl HZ28.out HZS.out HZ1.out ?_) | (with_reducible refine wpList_load_mid rfl 105 (.tmp 5) rfl wr.heap.size 0 rfl cs _ HLR2.out Tryz.underlying105 rfl H28.out ?_; rw [← HCA.out]) | (refine wpList_update_run rfl 176 (.tmp 27) (.tmp 29) (.tmp 30) rfl rfl rfl rfl HU.out ?_))
          go_roundw
          case rel => exact ⟨k + 1, by omega, by go_num, by rw [HS.out]; exact HM'.out, below_set (HBA.out.alloc (by simp; have := HN0.out; omega) _) HG'.out (by simp; have := HN0.out; omega) (Nat.le_refl _), by have := HG'.out.size; simp at this; have := HN0.out; omega⟩
          case measure => simp [intOf]; omega
      · have HS := Lib.hid (applK_same HX.out (.inl h7))
        have h7' : ¬ (x.kind = 7) := h7
        go_wp2_with (first | (with_reducible refine wpList_load_mid rfl 105 (.tmp 13) rfl b (o + k * 28) rfl cs _ HRR.out Tryz.underlying105 rfl H28.out ?_; rw [← HCA.out]) | (refine wpList_store_new rfl 105 (.tmp 5) (.tmp 14) rfl _ ca rfl rfl H28'.out HSZ.out HONE.out ?_))
        go_roundw
        case rel => exact ⟨k + 1, by omega, by go_num, by rw [HS.out]; exact HMA.out, HBA.out, by simp; have := HN0.out; omega⟩
        case measure => simp [intOf]; omega
    · obtain rfl : k = L.length := by omega
      go_wp2
      go_ret
      exact ⟨_, rfl, hm, hb⟩
end Go.Proofs.YtgaimkgaooiieaaGreatDoor

namespace Go.Proofs.YtgaimkgaooiieaaGreatDoor
open Go Go.RowKit

/-- a guarded look-up that is wanted -/
theorem wpList_lookup_g {P : Program} {W : World} {ops : Array Oper} {rest : List Oper} {o : Oper} {a : Act} {Q : Exit → Act → World → Prop} (hg : Region.wanted o (yielded ops a.tmps) = true) (t : TypeId) (m k : Operand) (ho : o.op = .lookup t m k false) {mv kv v : Value} (hmv : a.eval m = mv) (hkv : a.eval k = kv) (hr : (Instr.lookup t mv kv false).run P W = .ok v W)
    (h : wpList P ops Q rest (a.put o.dst v) W) : wpList P ops Q (o :: rest) a W := by
  refine wpList_step fun K hK => ?_
  rw [if_pos hg]
  unfold Oper.wp
  simp [execOp, ho, hmv, hkv, hr, Result.andThen]
  exact hK _ _ h
def callCells (C : List CallD) : List Value := C.flatMap fun c => [.int .i64 c.call, .int .i64 c.tick, .int .i64 c.who, .bool false, .int .i64 0]
theorem callCells_snoc (C : List CallD) (c : CallD) : callCells (C ++ [c]) = callCells C ++ [.int .i64 c.call, .int .i64 c.tick, .int .i64 c.who, .bool false, .int .i64 0] := by
  simp [callCells]
theorem callCells_at : ∀ (C : List CallD) (k : Nat) (c : CallD), C[k]? = some c → (callCells C)[k * 5]? = some (.int .i64 c.call) ∧ (callCells C)[k * 5 + 1]? = some (.int .i64 c.tick) ∧ (callCells C)[k * 5 + 2]? = some (.int .i64 c.who) ∧ (callCells C)[k * 5 + 3]? = some (.bool false) ∧ (callCells C)[k * 5 + 4]? = some (.int .i64 0)
  | [], _, _, h => by simp at h
  | y :: C, 0, c, h => by
    simp at h
    subst h
    exact ⟨rfl, rfl, rfl, rfl, rfl⟩
  | y :: C, k + 1, c, h => by
    have := callCells_at C k c (by simpa using h)
    have e (j : Nat) : (k + 1) * 5 + j = (k * 5 + j) + 5 := by omega
    have e0 : (k + 1) * 5 = k * 5 + 5 := by omega
    have s (j : Nat) : (callCells (y :: C))[j + 5]? = (callCells C)[j]? := by
      show (([_, _, _, _, _] : List Value) ++ callCells C)[j + 5]? = _
      rw [List.getElem?_append_right (by simp)]
      simp
    rw [e 1, e 2, e 3, e 4, e0, s, s, s, s, s]
    exact this
/-- a row of calls that can be read -/
def CallsIn (W : World) (A : Option Addr) (C : List CallD) : Prop :=
  ∀ (k : Nat) c, C[k]? = some c → ∃ b off, A = some ⟨b, off, none⟩ ∧ b < W.heap.size ∧ W.cell? ⟨b, off + k * 5, none⟩ = some (.int .i64 c.call) ∧ W.cell? ⟨b, off + k * 5 + 1, none⟩ = some (.int .i64 c.tick) ∧ W.cell? ⟨b, off + k * 5 + 2, none⟩ = some (.int .i64 c.who) ∧ W.cell? ⟨b, off + k * 5 + 3, none⟩ = some (.bool false) ∧ W.cell? ⟨b, off + k * 5 + 4, none⟩ = some (.int .i64 0)
theorem CallsIn.below {W W' : World} {A : Option Addr} {C : List CallD} (h : CallsIn W A C) (hb : Below W.heap.size W W') : CallsIn W' A C := fun k c hc => by
  obtain ⟨b, off, e, hl, h0, h1, h2, h3, h4⟩ := h k c hc
  exact ⟨b, off, e, Nat.lt_of_lt_of_le hl hb.size, (hb.cell (p := ⟨b, off + k * 5, none⟩) hl).trans h0, (hb.cell (p := ⟨b, off + k * 5 + 1, none⟩) hl).trans h1, (hb.cell (p := ⟨b, off + k * 5 + 2, none⟩) hl).trans h2, (hb.cell (p := ⟨b, off + k * 5 + 3, none⟩) hl).trans h3, (hb.cell (p := ⟨b, off + k * 5 + 4, none⟩) hl).trans h4⟩
theorem callsIn_of {W : World} {B : Nat} {v : Value} {C : List CallD} (h : W.ownsRow B 114 5 v C.length (callCells C)) : ∃ A c, v = .slice A C.length c ∧ CallsIn W A C := by
  rcases h.2 with ⟨rfl, h0⟩ | ⟨g, cap, cur, rfl, hg, hh, _⟩
  · exact ⟨none, 0, by rw [h0], fun k f hf => by have := (List.getElem?_eq_some_iff.1 hf).1; omega⟩
  · refine ⟨_, cap, rfl, fun k f hf => ?_⟩
    obtain ⟨h0, h1, h2, h3, h4⟩ := callCells_at C k f hf
    have a0 := h.cells (g := g) rfl _ _ h0
    have a1 := h.cells (g := g) rfl _ _ h1
    have a2 := h.cells (g := g) rfl _ _ h2
    have a3 := h.cells (g := g) rfl _ _ h3
    have a4 := h.cells (g := g) rfl _ _ h4
    rw [Addr.add_mid] at a0 a1 a2 a3 a4
    exact ⟨g, 0, rfl, (Array.getElem?_eq_some_iff.1 hh).1, a0, by rw [Nat.add_assoc]; exact a1, by rw [Nat.add_assoc]; exact a2, by rw [Nat.add_assoc]; exact a3, by rw [Nat.add_assoc]; exact a4⟩

/-- the map of the calls that were seen -/
def SeenIs (W : World) (mb : Nat) (ks : List Int) : Prop := ∃ l, MapKv W mb l ∧ keysOf l = ks ∧ ∀ p ∈ l, p.2 = .bool true
theorem SeenIs.keep {W W' : World} {mb : Nat} {ks : List Int} (h : SeenIs W mb ks) (e : W'.heap[mb]? = W.heap[mb]?) : SeenIs W' mb ks := by
  obtain ⟨l, h1, h2⟩ := h
  exact ⟨l, h1.keep e, h2⟩
theorem zero4 : ∀ w, (zeroValue 4).run Tryz.prog w = .ok (.bool false) w := by
  have h : (Tryz.prog.info? 4).map (fun i => i.zero) = some (some (.bool false)) := by kernel_rfl
  intro w
  cases hq : Tryz.prog.info? 4 with
  | none => simp [hq] at h
  | some i =>
    have : i.zero = some (.bool false) := by simpa [hq] using h
    simp [zeroValue, typeInfo, hq, this]
theorem seen_no {W : World} {mb : Nat} {ks : List Int} {z : Int} (h : SeenIs W mb ks) (hz : z ∉ ks) : (Instr.lookup 280 (.map (some mb)) (.int .i64 z) false).run Tryz.prog W = .ok (.bool false) W := by
  obtain ⟨l, h1, h2, _⟩ := h
  have := (run_lookup_kv (P := Tryz.prog) (mt := 280) Tryz.underlying280 Tryz.underlying2 zero4 h1 z).2
  rw [(getK_none (l := l)).2 (by rw [h2]; exact hz)] at this
  exact this
theorem seen_yes {W : World} {mb : Nat} {ks : List Int} {z : Int} (h : SeenIs W mb ks) (hz : z ∈ ks) : (Instr.lookup 280 (.map (some mb)) (.int .i64 z) false).run Tryz.prog W = .ok (.bool true) W := by
  obtain ⟨l, h1, h2, h3⟩ := h
  have := (run_lookup_kv (P := Tryz.prog) (mt := 280) Tryz.underlying280 Tryz.underlying2 zero4 h1 z).2
  cases hg : getK l z with
  | none => exact absurd (by rw [← h2] at hz; exact hz) (getK_none.1 hg)
  | some v =>
    have e := h3 _ (getK_mem hg)
    simp only at e
    subst e
    rw [hg] at this
    exact this
theorem seen_put {W : World} {mb : Nat} {ks : List Int} {z : Int} (h : SeenIs W mb ks) (hz : z ∉ ks) :
    ∃ W', (Instr.mapUpdate 280 (.map (some mb)) (.int .i64 z) (.bool true)).run Tryz.prog W = .ok () W' ∧ SeenIs W' mb (ks ++ [z]) ∧ W.grownBy W' (some mb) ∧ W'.heap.size = W.heap.size := by
  obtain ⟨l, h2, h3, h4⟩ := h
  have hn := (getK_none (l := l) (z := z)).2 (by rw [h3]; exact hz)
  obtain ⟨W', q1, q2, q3, q4⟩ := run_update_kv (P := Tryz.prog) (mt := 280) Tryz.underlying280 Tryz.underlying2 h2 z (.bool true)
  refine ⟨W', q1, ⟨_, q2, by rw [keysOf_put hn, h3], fun p hp => ?_⟩, q3, q4⟩
  rw [putK_none l z _ hn] at hp
  rcases List.mem_append.1 hp with hp | hp
  · exact h4 p hp
  · obtain rfl := List.mem_singleton.1 hp
    rfl
/-- a row that the call owns lies elsewhere than a map -/
theorem own_setmap {W W' : World} {B T S n mb : Nat} {v : Value} {xs : List Value} (h : W.ownsRow B T S v n xs) (hg : W.grownBy W' (some mb)) (hmap : ∃ es c, W.heap[mb]? = some (.map es c)) : W'.ownsRow B T S v n xs := by
  refine ⟨h.1, ?_⟩
  rcases h.2 with h0 | ⟨g, cap, cur, hv, hgB, hh, rest⟩
  · exact .inl h0
  · refine .inr ⟨g, cap, cur, hv, hgB, ?_, rest⟩
    rw [hg.block g (Array.getElem?_eq_some_iff.1 hh).1 (fun e => ?_)]
    · exact hh
    · obtain ⟨es, c, hm'⟩ := hmap
      cases e
      rw [hm'] at hh
      cases hh
theorem SeenIs.isMap {W : World} {mb : Nat} {ks : List Int} (h : SeenIs W mb ks) : ∃ es c, W.heap[mb]? = some (.map es c) := by
  obtain ⟨l, ⟨es, c, h1, _⟩, _⟩ := h
  exact ⟨es, c, h1⟩
theorem SeenIs.grown {W W' : World} {B T S n mb : Nat} {v : Value} {xs : List Value} {ks : List Int} (h : SeenIs W mb ks) (ho : W.ownsRow B T S v n xs) (hg : W.grownBy W' v.ownBlock) : SeenIs W' mb ks := by
  obtain ⟨es, c, hm⟩ := h.isMap
  refine h.keep (hg.block mb (Array.getElem?_eq_some_iff.1 hm).1 fun e => ?_)
  rcases ho.2 with ⟨rfl, _⟩ | ⟨g, cap, cur, rfl, _, hh, _⟩
  · cases e
  · have e : mb = g := by simpa [Value.ownBlock] using e
    subst e
    rw [hm] at hh
    cases hh
theorem info114 : (Tryz.prog.info? 114).map (fun i => (i.zero, i.size, i.bytes)) = some (some (.agg #[.int .i64 0, .int .i64 0, .int .i64 0, .bool false, .int .i64 0]), 5, 40) := by kernel_rfl

set_option maxHeartbeats 4000000 in
set_option maxRecDepth 100000 in
theorem callsOf_any (A : Option Addr) (c : Nat) (L : List EvD) (w : World) (hL : TrAt w w.heap.size A L) (hlen : L.length ≤ 60) :
    Calls Tryz.prog 82 #[.slice A L.length c] w fun e w' => ∃ A' c', e = .returned (.slice A' (callK L L.length).length c') ∧ CallsIn w' A' (callK L L.length) ∧ Below w.heap.size w w' := by
  obtain ⟨i0, hi, hz0, hz1, hz2⟩ := info_parts info114
  have HL := Lib.hid hL
  clear hL
  have hmm := @run_makeMap Tryz.prog
  go_enter Tryz.func82, Tryz.ntmps82
  go_wp2
  clear hmm
  go_loopw [3, 10] (fun v i wr => ∃ k : Nat, k ≤ L.length ∧ i = .int .i64 k ∧ SeenIs wr w.heap.size ((callK L k).map (·.call)) ∧ wr.ownsRow w.heap.size 114 5 v (callK L k).length (callCells (callK L k)) ∧ Below w.heap.size w wr ∧ w.heap.size < wr.heap.size) (fun _ i _ => L.length - (intOf i).toNat)
  case atStart => exact ⟨0, Nat.zero_le _, rfl, ⟨[], ⟨#[], 0, heap_alloc_last w (.map #[] 0), rfl⟩, rfl, fun _ h => by simp at h⟩, ⟨rfl, .inl ⟨rfl, rfl⟩⟩, (Below.refl _ w).alloc (Nat.le_refl _) _, by simp⟩
  case round =>
    obtain ⟨k, hk, rfl, hm, hown, hb, hlt0⟩ := hrel
    obtain ⟨A', c', rfl⟩ := shape_of hown
    by_cases hlt : k < L.length
    · obtain ⟨x, hx⟩ : ∃ x, L[k]? = some x := ⟨_, List.getElem?_eq_getElem hlt⟩
      obtain ⟨b, o, P, rfl, hbl, hr, hE⟩ := HL.out k x hx
      have HRR := Lib.hid (show wr.rangeAt b (o + k * 28) (evCells x P) from fun j v hv => (hb.cell (p := ⟨b, o + k * 28 + j, none⟩) hbl).trans (hr j v hv))
      have H28 := Lib.hid (evSize x P)
      have H28' := Lib.hid (evSizeA x P)
      have HSZ := Lib.hid (evSize28 x P)
      have HONE := Lib.hid (evOneA x P)
      have q0 : (evCells x P).toArray[0]? = some (.int .i64 x.kind) := rfl
      have q1 : (evCells x P).toArray[1]? = some (.int .i64 x.tick) := rfl
      have q2 : (evCells x P).toArray[2]? = some (.int .i64 x.who) := rfl
      have q3 : (evCells x P).toArray[3]? = some (.int .i64 x.call) := rfl
      have hbA : Below wr.heap.size wr (wr.alloc (.cells (evCells x P).toArray 105)) := (Below.refl _ wr).alloc (Nat.le_refl _) _
      have HMA := Lib.hid (hm.keep (hbA.block w.heap.size hlt0))
      have HOA := Lib.hid (hown.alloc (.cells (evCells x P).toArray 105))
      have HX := Lib.hid hx
      have HBA := Lib.hid (hb.trans (hbA.mono hb.size))
      have HN0 := Lib.hid hlt0
      have HKL := Lib.hid (callK_len L k)
      obtain ⟨cs, hcs⟩ : ∃ cs, cs = evCells x P := ⟨_, rfl⟩
      rw [← hcs] at HRR H28 H28' HSZ HONE q0 q1 q2 q3 HMA HOA HBA
      obtain ⟨ca, hca⟩ : ∃ ca, ca = cs.toArray := ⟨_, rfl⟩
      rw [← hca] at H28' HSZ HONE q0 q1 q2 q3 HMA HOA HBA
      have HCA := Lib.hid hca
      clear hm hr hE hx hbA hcs hca hb hlt0 hown
      by_cases h2 : x.kind = 2
      · rw [h2] at q0
        by_cases hz : x.call ∈ (callK L k).map (·.call)
        · have HS := Lib.hid (callK_same HX.out (.inr hz))
          have HLK := Lib.hid (seen_yes HMA.out hz)
          clear hz h2
          go_wp2_with (first | (with_reducible refine wpList_load_mid rfl 105 (.tmp 12) rfl b (o + k * 28) rfl cs _ HRR.out Tryz.underlying105 rfl H28.out ?_; rw [← HCA.out]) | (refine wpList_store_new rfl 105 (.tmp 6) (.tmp 13) rfl _ ca rfl rfl H28'.out HSZ.out HONE.out ?_) | (refine wpList_lookup_g (P := Tryz.prog) (W := wr.alloc (.cells ca 105)) (mv := .map (some w.heap.size)) (kv := .int .i64 x.call) rfl 280 (.tmp 18) (.tmp 20) rfl rfl rfl HLK.out ?_))
          go_roundw
          case rel => exact ⟨k + 1, by omega, by go_num, by rw [HS.out]; exact HMA.out, by rw [HS.out]; exact HOA.out, HBA.out, by simp; have := HN0.out; omega⟩
          case measure => simp [intOf]; omega
        · have HS := Lib.hid (callK_add HX.out h2 hz)
          have HLK := Lib.hid (seen_no HMA.out hz)
          obtain ⟨W', hu, hM', hg', hs'⟩ := seen_put HMA.out hz
          have hs1 : W'.heap.size = wr.heap.size + 1 := by rw [hs']; simp
          have r1 : W'.cell? ⟨wr.heap.size, 1, none⟩ = some (.int .i64 x.tick) := by
            rw [World.cell?_of_block (w := wr.alloc (.cells ca 105)) (hg'.block wr.heap.size (by simp) (fun e => by have := HN0.out; have := Option.some.inj e; omega))]
            unfold World.cell?; simp only [heap_alloc_last]; exact q1
          have r2 : W'.cell? ⟨wr.heap.size, 2, none⟩ = some (.int .i64 x.who) := by
            rw [World.cell?_of_block (w := wr.alloc (.cells ca 105)) (hg'.block wr.heap.size (by simp) (fun e => by have := HN0.out; have := Option.some.inj e; omega))]
            unfold World.cell?; simp only [heap_alloc_last]; exact q2
          have r3 : W'.cell? ⟨wr.heap.size, 3, none⟩ = some (.int .i64 x.call) := by
            rw [World.cell?_of_block (w := wr.alloc (.cells ca 105)) (hg'.block wr.heap.size (by simp) (fun e => by have := HN0.out; have := Option.some.inj e; omega))]
            unfold World.cell?; simp only [heap_alloc_last]; exact q3
          have hown1 := (own_setmap HOA.out hg' HMA.out.isMap).alloc (.cells #[.int .i64 x.call, .int .i64 x.tick, .int .i64 x.who, .bool false, .int .i64 0] 114)
          have HU := Lib.hid hu
          have HG' := Lib.hid hg'
          have HBW := Lib.hid (below_set HBA.out hg' (by simp; have := HN0.out; omega) (Nat.le_refl _))
          have HMW := Lib.hid (hM'.keep (((Below.refl W'.heap.size W').alloc (Nat.le_refl _) (.cells #[.int .i64 x.call, .int .i64 x.tick, .int .i64 x.who, .bool false, .int .i64 0] 114)).block w.heap.size (by rw [hs1]; have := HN0.out; omega)))
          have hcn := cells_new W' [.int .i64 x.call, .int .i64 x.tick, .int .i64 x.who, .bool false, .int .i64 0] 114
          rw [hs1] at hcn
          have HCN := Lib.hid hcn
          clear hcn
          have hkl := HKL.out
          have hw0 : w.heap.size < W'.heap.size := by rw [hs1]; have := HN0.out; omega
          clear hz h2 hu hM' hg' hs'
          obtain ⟨n, hn⟩ : ∃ n, n = (callK L k).length := ⟨_, rfl⟩
          have HN := Lib.hid hn
          rw [← hn] at hown1 hkl ⊢
          clear hn
          go_wp2_with (first | (with_reducible refine wpList_load_mid rfl 105 (.tmp 12) rfl b (o + k * 28) rfl cs _ HRR.out Tryz.underlying105 rfl H28.out ?_; rw [← HCA.out]) | (refine wpList_store_new rfl 105 (.tmp 6) (.tmp 13) rfl _ ca rfl rfl H28'.out HSZ.out HONE.out ?_) | (refine wpList_lookup_g (P := Tryz.prog) (W := wr.alloc (.cells ca 105)) (mv := .map (some w.heap.size)) (kv := .int .i64 x.call) rfl 280 (.tmp 18) (.tmp 20) rfl rfl rfl HLK.out ?_) | (refine wpList_update_run rfl 280 (.tmp 24) (.tmp 26) (.const (.bool true)) rfl rfl rfl rfl HU.out ?_) | (at_builtin; go_loud (refine wpList_append_own _ rfl (.tmp 27) (.tmp 35) 109 rfl w.heap.size 114 i0 _ 5 40 Tryz.underlying109 hi hz0 hz1 hz2 rfl (by decide) _ _ _ rfl hown1 ⟨wr.heap.size + 1, 0, none⟩ 1 1 [.int .i64 x.call, .int .i64 x.tick, .int .i64 x.who, .bool false, .int .i64 0] rfl rfl HCN.out (by intro u hu; simp at hu; rcases hu with rfl | rfl | rfl | rfl | rfl <;> rfl) (by unfold maxLen; omega) (by omega) (by simp; omega) ?_); intro v' w2 hown' hgrow _))
          have hb2 := (HBW.out.alloc (by rw [hs1]; have := HN0.out; omega) (.cells #[.int .i64 x.call, .int .i64 x.tick, .int .i64 x.who, .bool false, .int .i64 0] 114)).grown hgrow (by simp; rw [hs1]; have := HN0.out; omega) (own_lt hown1)
          have HM2 := Lib.hid (HMW.out.grown hown1 hgrow)
          have HZ2 := Lib.hid hgrow.size
          obtain ⟨A2, cap2, rfl⟩ := shape_of hown'
          have HO2 := Lib.hid hown'
          clear hown1 hgrow hown'
          go_wp2
          go_roundw
          case rel =>
            refine ⟨k + 1, by omega, by go_num, ?_, ?_, hb2, by have := HZ2.out; simp at this; have := HN0.out; omega⟩
            · rw [HS.out, List.map_append]; exact HM2.out
            · rw [HS.out, callCells_snoc, List.length_append, ← HN.out]; exact HO2.out
          case measure => simp [intOf]; omega
      · have HS := Lib.hid (callK_same HX.out (.inl h2))
        have h2' : ¬ (x.kind = 2) := h2
        go_wp2_with (first | (with_reducible refine wpList_load_mid rfl 105 (.tmp 12) rfl b (o + k * 28) rfl cs _ HRR.out Tryz.underlying105 rfl H28.out ?_; rw [← HCA.out]) | (refine wpList_store_new rfl 105 (.tmp 6) (.tmp 13) rfl _ ca rfl rfl H28'.out HSZ.out HONE.out ?_))
        go_roundw
        case rel => exact ⟨k + 1, by omega, by go_num, by rw [HS.out]; exact HMA.out, by rw [HS.out]; exact HOA.out, HBA.out, by simp; have := HN0.out; omega⟩
        case measure => simp [intOf]; omega
    · obtain rfl : k = L.length := by omega
      obtain ⟨A2, c2, hv, hF⟩ := callsIn_of hown
      cases hv
      have H := Lib.hid hF
      clear hown hF hm
      go_wp2
      go_ret
      exact ⟨_, _, rfl, H.out, hb⟩
end Go.Proofs.YtgaimkgaooiieaaGreatDoor
