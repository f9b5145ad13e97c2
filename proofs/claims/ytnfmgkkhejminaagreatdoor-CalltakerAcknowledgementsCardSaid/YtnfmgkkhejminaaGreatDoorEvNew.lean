/-
  A part of the proof that the evaluator answers what the model answers, for every program that follows mixed orders; no other condition.
-/
import Derived.Test.YtnfmgkkhejminaaGreatDoorEvPure4
namespace Go.Ev
set_option linter.unusedSectionVars false
variable [OTab] [OVal]
variable {P : Program} {m : Map} {ρ : Operand → Value} {o : Oper} {v : Value}

theorem fillT_get : ∀ (l : List Value) (i : Nat) (t : T Value) (j : Nat), (fillT l i t).get j = if i ≤ j ∧ j < i + l.length then l[j - i]? else t.get j
  | [], i, t, j => by
    have e : fillT [] i t = t := rfl
    rw [e, if_neg (by simp)]
  | v :: l, i, t, j => by
    have e : fillT (v :: l) i t = fillT l (i + 1) (t.put (some v) i) := rfl
    rw [e, fillT_get l (i + 1) _ j, get_put]
    by_cases h1 : i + 1 ≤ j ∧ j < i + 1 + l.length
    · rw [if_pos h1, if_pos (by simp; omega)]
      obtain ⟨k, rfl⟩ : ∃ k, j = i + 1 + k := ⟨j - (i + 1), by omega⟩
      rw [show i + 1 + k - (i + 1) = k from by omega, show i + 1 + k - i = k + 1 from by omega]
      simp
    · rw [if_neg h1]
      by_cases h2 : j = i
      · subst h2
        rw [if_pos rfl, if_pos (by simp)]
        simp
      · rw [if_neg h2, if_neg (by simp; omega)]

/-- a tree of cells that reads as a list -/
def Reads (c : T Value) (l : List Value) : Prop := (∀ i, i < l.length → c.get i = l[i]?) ∧ (l.length ≤ tagI → c.get tagI = none ∧ c.get (tagI + 1) = none)
theorem reads_fill (l : List Value) : Reads (fillT l 0 .lf) l := ⟨fun i hi => by
  rw [fillT_get, if_pos (by omega)]; simp, fun h => ⟨by
  rw [fillT_get, if_neg (by omega)]; exact get_lf _, by
  rw [fillT_get, if_neg (by omega)]; exact get_lf _⟩⟩
theorem reads_set {c : T Value} {l vs : List Value} {off : Nat} (h : Reads c l) (hl : off + vs.length ≤ l.length) : Reads (fillT vs off c) (setL l off vs) ∧ (setL l off vs).length = l.length := by
  have hlen : (setL l off vs).length = l.length := by simp [setL]; omega
  refine ⟨⟨fun i hi => ?_, fun ht => ⟨by rw [fillT_get, if_neg (by omega)]; exact (h.2 (by omega)).1, by rw [fillT_get, if_neg (by omega)]; exact (h.2 (by omega)).2⟩⟩, hlen⟩
  rw [fillT_get]
  unfold setL
  by_cases h1 : off ≤ i ∧ i < off + vs.length
  · rw [if_pos h1, List.getElem?_append_left (by simp; omega), List.getElem?_append_right (by simp; omega)]
    simp
    congr 1
    omega
  · rw [if_neg h1]
    by_cases h2 : i < off
    · rw [List.getElem?_append_left (by simp; omega), List.getElem?_append_left (by simp; omega), List.getElem?_take_of_lt h2]
      exact h.1 i (by omega)
    · rw [List.getElem?_append_right (by simp; omega)]
      simp only [List.length_append, List.length_take, List.getElem?_drop]
      rw [h.1 i (by omega)]
      congr 1
      omega

theorem cells_rel {l l' : List Value} {c : T Value} {e : TypeId} {B : Nat} {w : World} (hr : Reads c l) (hl : concL m l = some l') (hw : w.heap[B]? = some (.cells ⟨l'⟩ e (0, 0))) : BlkRel m (.cells l.length c) ⟨B, 0, l.length⟩ w := by
  refine ⟨⟨l'⟩, e, 0, 0, hw, ?_, Nat.le_refl _, fun i _ => by omega, fun i hi => ?_, fun ht => ⟨fun k t e' => by (rw [(hr.2 ht).1] at e'; cases e'), fun k t e' => by (rw [(hr.2 ht).2] at e'; cases e')⟩⟩
  · have := concL_len hl
    show 0 + l.length ≤ l'.length
    omega
  · have hg := hr.1 i hi
    rw [List.getElem?_eq_getElem hi] at hg
    obtain ⟨cv, h1, h2⟩ := concL_get hl i l[i] (List.getElem?_eq_getElem hi)
    exact ⟨l[i], cv, hg, h1, by simpa using h2⟩

/-- an operation that makes one block and looks at none -/
def NewDoes (P : Program) (m : Map) (ρ : Operand → Value) (o : Oper) (nv : NewV) : Prop :=
  ∃ (obj : Obj) (lim : Nat) (f : Nat → Value), (∀ w : World, (execOp ρ o).run P w = .ok (.value (f w.heap.size)) (w.alloc obj)) ∧
    ∀ (id : Nat) (m' : Map) (B : Nat), Sub m m' → m' id = some ⟨B, 0, lim⟩ → conc m' (nv.v id) = some (f B) ∧ ∀ w' : World, w'.heap[B]? = some obj → BlkRel m' (nv.b id) ⟨B, 0, lim⟩ w'

theorem new_cells {l l' : List Value} {e : TypeId} (hl : concL m l = some l') (hrun : ∀ w : World, (execOp ρ o).run P w = .ok (.value (.pointer (some ⟨w.heap.size, 0, none⟩))) (w.alloc (.cells ⟨l'⟩ e))) :
    NewDoes P m ρ o ⟨newCells l, ptrTo⟩ := by
  refine ⟨.cells ⟨l'⟩ e, l.length, fun B => .pointer (some ⟨B, 0, none⟩), hrun, fun id m' B hs hb => ⟨?_, fun w' hw => ?_⟩⟩
  · have := conc_pointer' (m := m') (off := 0) hb
    simpa [ptrTo] using this
  · exact cells_rel (reads_fill l) (concL_mono hs _ _ hl) hw

theorem new_tag {l l' : List Value} {e : TypeId} (hl : concL m l = some l') (hn : l.length ≤ tagI) (hrun : ∀ w : World, (execOp ρ o).run P w = .ok (.value (.pointer (some ⟨w.heap.size, 0, none⟩))) (w.alloc (.cells ⟨l'⟩ e))) :
    NewDoes P m ρ o ⟨tagCells e l, ptrTo⟩ := by
  refine ⟨.cells ⟨l'⟩ e, l.length, fun B => .pointer (some ⟨B, 0, none⟩), hrun, fun id m' B hs hb => ⟨?_, fun w' hw => ?_⟩⟩
  · have := conc_pointer' (m := m') (off := 0) hb
    simpa [ptrTo] using this
  · have hlen := concL_len hl
    refine ⟨⟨l'⟩, e, 0, 0, hw, ?_, Nat.le_refl _, fun i _ => by omega, fun i hi => ?_, fun _ => ⟨fun k t e' => ?_, fun k t e' => ?_⟩⟩
    · show 0 + l.length ≤ l'.length
      omega
    · have hg := (reads_fill l).1 i hi
      rw [List.getElem?_eq_getElem hi] at hg
      obtain ⟨cv, h1, h2⟩ := concL_get (concL_mono hs _ _ hl) i l[i] (List.getElem?_eq_getElem hi)
      exact ⟨l[i], cv, by rw [get_put, if_neg (by omega)]; exact hg, h1, by simpa using h2⟩
    · rw [get_put, if_pos rfl] at e'
      cases e'
      exact ⟨rfl, rfl, hlen.symm ▸ rfl⟩
    · rw [get_put, if_neg (by omega), ((reads_fill l).2 hn).2] at e'
      cases e'
theorem sound_alloc {e : TypeId} {nv : NewV} (ho : o.op = .alloc e) (h : allocV P e = some nv) : NewDoes P m ρ o nv := by
  unfold allocV at h
  obtain ⟨z, hz, h⟩ := ob_some h
  have hrun : ∀ w : World, (execOp ρ o).run P w = .ok (.value (.pointer (some ⟨w.heap.size, 0, none⟩))) (w.alloc (.cells ⟨z.cells.toList⟩ e)) := fun w => by
    simp [execOp, ho, Instr.alloc, run_zeroP hz, newVar, newRow]
  have hl := conc_cells ((zeroP_some hz).2 m)
  cases hb : (OTab.tags.any (Nat.beq e) && Nat.ble (cellsL z).length tagI) with
  | false =>
    rw [hb, bsel_false] at h
    cases h
    exact new_cells (e := e) (l' := z.cells.toList) hl hrun
  | true =>
    rw [hb, bsel_true] at h
    cases h
    rw [Bool.and_eq_true] at hb
    exact new_tag (e := e) (l' := z.cells.toList) hl (Nat.le_of_ble_eq_true hb.2) hrun

theorem sound_box {e : TypeId} {x : Operand} {u : Value} {nv : NewV} (ho : o.op = .box e x) (hx : conc m u = some (ρ x)) (h : boxV u = some nv) : NewDoes P m ρ o nv := by
  unfold boxV at h
  obtain ⟨_, h⟩ := gd_some h
  cases h
  refine new_cells (e := e) (l' := (ρ x).cells.toList) (conc_cells hx) (fun w => ?_)
  simp [execOp, ho, Instr.box, newVar, newRow]

theorem new_map {nv : NewV} (hn : nv = newMap) (hrun : ∀ w : World, (execOp ρ o).run P w = .ok (.value (.map (some w.heap.size))) (w.alloc (.map #[] 0))) : NewDoes P m ρ o nv := by
  subst hn
  refine ⟨.map #[] 0, 0, fun B => .map (some B), hrun, fun id m' B hs hb => ⟨?_, fun w' hw => ?_⟩⟩
  · simp [newMap, conc, hb]
  · exact ⟨rfl, [], hw, rfl⟩

theorem mapKV_some {t : TypeId} {kv : TypeId × TypeId} (h : mapKV P t = some kv) : P.underlying t = some (.map kv.1 kv.2) := by
  unfold mapKV at h
  split at h
  · rename_i k e hu; cases h; exact hu
  · cases h
theorem sliceElem_some {t e : TypeId} (h : sliceElem P t = some e) : P.underlying t = some (.slice e) := by
  unfold sliceElem at h
  split at h
  · rename_i e' hu; cases h; exact hu
  · cases h

theorem sound_makeMap {t : TypeId} {r : Option Operand} {A : T Value} {nv : NewV} (ho : o.op = .makeMap t r) (hr : ∀ x, r = some x → conc m (ev A x) = some (ρ x)) (h : makeMapV P A t r = some nv) : NewDoes P m ρ o nv := by
  unfold makeMapV at h
  split at h
  · cases h
    exact new_map rfl (fun w => by simp [execOp, ho, Instr.makeMap])
  · rename_i x
    obtain ⟨kv, hk, h⟩ := ob_some h
    obtain ⟨n, hn, h⟩ := ob_some h
    cases h
    obtain ⟨k, hk'⟩ := asI_some hn
    have := hr x rfl
    rw [hk', conc_int] at this
    have e := (Option.some.inj this).symm
    exact new_map rfl (fun w => by simp [execOp, ho, Instr.makeMap, run_underlying (mapKV_some hk), e, asInt, asIntOf])

theorem repL_len (l : List Value) : ∀ n, (repL l n).length = n * l.length
  | 0 => by simp [repL]
  | n + 1 => by simp [repL, repL_len l n, Nat.succ_mul]; omega
theorem repL_get (l : List Value) (hl : l ≠ []) : ∀ n i, i < n * l.length → (repL l n)[i]? = l[i % l.length]?
  | 0, i, h => by simp at h
  | n + 1, i, h => by
    have hp : 0 < l.length := List.length_pos_iff.2 hl
    simp only [repL]
    by_cases h1 : i < l.length
    · rw [List.getElem?_append_left h1, Nat.mod_eq_of_lt h1]
    · rw [List.getElem?_append_right (by omega), repL_get l hl n (i - l.length) (by rw [Nat.succ_mul] at h; omega)]
      congr 1
      rw [Nat.mod_eq_sub_mod (by omega : i ≥ l.length)]
theorem range_rep (z : Array Value) (n size : Nat) (hz : z.size = size) (hpos : n * size ≠ 0) : (Array.range (n * size)).map (fun i => z[i % z.size]!) = ⟨repL z.toList n⟩ := by
  have hs : 0 < size := by rcases Nat.eq_zero_or_pos size with h | h; · subst h; simp at hpos
                           · exact h
  apply Array.ext'
  apply List.ext_getElem?
  intro i
  have hlen : z.toList.length = size := by simpa using hz
  have hne : z.toList ≠ [] := by intro e; rw [e] at hlen; simp at hlen; omega
  by_cases hi : i < n * size
  · rw [repL_get z.toList hne n i (by rw [hlen]; exact hi)]
    have hm : i % size < z.size := by rw [hz]; exact Nat.mod_lt _ hs
    have h1 : z[i % size]? = some z[i % size]! := by rw [getElem!_pos z _ hm]; exact Array.getElem?_eq_getElem hm
    simp [hi, hz, h1]
  · rw [List.getElem?_eq_none (by simp; omega), List.getElem?_eq_none (by rw [repL_len, hlen]; omega)]

theorem zeros_some {e : TypeId} {size n : Nat} {zs : List Value} (h : zeros P e size n = some zs) : concL m zs = some zs ∧ zs.length = n * size ∧
    (n * size = 0 ∨ (n * size ≠ 0 ∧ ∃ z, zeroP P e = some z ∧ z.cells.size = size ∧ zs = repL z.cells.toList n)) := by
  unfold zeros at h
  split at h
  · rename_i h0
    cases h
    exact ⟨by simp, by simp [h0], .inl h0⟩
  · rename_i h0
    obtain ⟨z, hz, h⟩ := ob_some h
    obtain ⟨hs, h⟩ := gd_some h
    cases h
    have hs' : (cellsL z).length = size := Nat.eq_of_beq_eq_true hs
    rw [cellsL_eq] at hs' ⊢
    refine ⟨?_, by rw [repL_len, hs'], .inr ⟨h0, z, hz, by simpa using hs', rfl⟩⟩
    have hc := conc_cells ((zeroP_some hz).2 m)
    rw [cellsL_eq] at hc
    have : ∀ k, concL m (repL z.cells.toList k) = some (repL z.cells.toList k) := fun k => by
      induction k with
      | zero => simp [repL]
      | succ k ih => simp only [repL]; exact concL_append hc ih
    exact this n

theorem fillParts_build {size len : Nat} : ∀ (ps : List (Nat × Value)) (c c' : T Value) (l : List Value), fillParts size ps c = some c' → ps.all (fun p => Nat.blt p.1 len) = true → Reads c l → l.length = len * size →
    ∃ l2, buildL (fun i => some (i * size, size)) l ps = some l2 ∧ Reads c' l2 ∧ l2.length = len * size
  | [], c, c', l, h, _, hr, hl => by simp [fillParts] at h; subst h; exact ⟨l, rfl, hr, hl⟩
  | (i, v) :: ps, c, c', l, h, ha, hr, hl => by
    simp only [fillParts] at h
    obtain ⟨hs, h⟩ := gd_some h
    have hs' : (cellsL v).length = size := Nat.eq_of_beq_eq_true hs
    simp only [List.all_cons, Bool.and_eq_true] at ha
    have hi : i < len := by have := ha.1; simp [Nat.blt] at this; omega
    have hb : i * size + (cellsL v).length ≤ l.length := by
      rw [hs', hl]
      have : (i + 1) * size ≤ len * size := Nat.mul_le_mul_right _ hi
      rw [Nat.succ_mul] at this
      omega
    obtain ⟨h1, h2⟩ := reads_set hr hb
    obtain ⟨l2, h3, h4, h5⟩ := fillParts_build ps _ c' _ h ha.2 h1 (h2.trans hl)
    refine ⟨l2, ?_, h4, h5⟩
    simp only [buildL]
    show (if ((cellsL v).length ≠ size || i * size + (cellsL v).length > l.length) = true then none else _) = _
    rw [if_neg (by simp [hs']; omega)]
    exact h3

theorem new_slice {l l' : List Value} {c : T Value} {e : TypeId} {n k : Nat} (hr : Reads c l) (hl : concL m l = some l')
    (hrun : ∀ w : World, (execOp ρ o).run P w = .ok (.value (.slice (some ⟨w.heap.size, 0, none⟩) n k)) (w.alloc (.cells ⟨l'⟩ e))) :
    NewDoes P m ρ o ⟨fun _ => Blk.cells l.length c, fun id => .slice (some ⟨id, 0, none⟩) n (2 * k + 1)⟩ := by
  refine ⟨.cells ⟨l'⟩ e, l.length, fun B => .slice (some ⟨B, 0, none⟩) n k, hrun, fun id m' B hs hb => ⟨?_, fun w' hw => ?_⟩⟩
  · have h1 : (2 * k + 1) % 2 = 1 := by omega
    have h2 : (2 * k + 1) / 2 = k := by omega
    simp [conc, hb, h1, h2]
  · exact cells_rel hr (concL_mono hs _ _ hl) hw

theorem sound_buildSlice {t : TypeId} {len : Nat} {ps : Array (Nat × Operand)} {A : T Value} {nv : NewV} (ho : o.op = .buildSlice t len ps) (hps : ∀ p ∈ ps.toList, conc m (ev A p.2) = some (ρ p.2))
    (h : buildSliceV P t len (evParts A ps) = some nv) : NewDoes P m ρ o nv := by
  unfold buildSliceV at h
  obtain ⟨e, he, h1⟩ := ob_some h
  obtain ⟨size, hsz, h2⟩ := ob_some h1
  obtain ⟨hb, h3⟩ := gd_some h2
  obtain ⟨_, h4⟩ := gd_some h3
  obtain ⟨zs, hzs, h5⟩ := ob_some h4
  obtain ⟨c, hc, h6⟩ := ob_some h5
  clear h h1 h2 h3 h4 h5
  cases h6
  rw [Bool.and_eq_true] at hb
  have hu := sliceElem_some he
  obtain ⟨hz1, hz2, hz3⟩ := zeros_some (m := m) hzs
  obtain ⟨l2, hb1, hb2, hb3⟩ := fillParts_build (evParts A ps) _ c zs hc hb.2 (reads_fill zs) hz2
  obtain ⟨l', hl1, hl2⟩ := fill_sound (place' := fun i => some (i * size, size)) (fun i p hp => hp) _ _ _ _ l2 (parts_rel (ρ := ρ) ps.toList hps) hz1 hb1
  have hsmall : ¬ len * size > 2 ^ 24 := by have := Nat.le_of_ble_eq_true hb.1; omega
  cases hi : P.info? e with
  | none => simp [sz, hi] at hsz
  | some ie =>
    have hie : ie.size = size := by simpa [sz, hi] using hsz
    rw [← hb3]
    refine new_slice (e := e) hb2 hl1 (fun w => ?_)
    rcases hz3 with h0 | ⟨h0, z, hz, hzs', hzl⟩
    · have hzn : zs = [] := List.eq_nil_of_length_eq_zero (by omega)
      subst hzn
      have hl2' : Instr.fill (fun i => some (i * size, size)) ((Array.range (len * size)).map fun i => (#[] : Array Value)[i % (#[] : Array Value).size]!) (ps.map fun (i, x) => (i, ρ x)).toList = some ⟨l'⟩ := by
        rw [h0]
        have e0 : (Array.range 0).map (fun i => (#[] : Array Value)[i % (#[] : Array Value).size]!) = ⟨[]⟩ := by simp
        rw [e0]
        simpa using hl2
      simp [execOp, ho, Instr.buildSlice, run_underlying hu, run_sz hsz, h0] at hl2' ⊢
      simp [hl2', newRow]
    · obtain ⟨⟨ie', hie', hz0⟩, _⟩ := zeroP_some hz
      rw [hi] at hie'
      cases hie'
      have hfill : Instr.fill (fun i => some (i * ie.size, ie.size)) ((Array.range (len * ie.size)).map (z.cells[· % z.cells.size]!)) (ps.map fun (i, x) => (i, ρ x)).toList = some ⟨l'⟩ := by
        rw [hie, range_rep z.cells len size hzs' h0, ← hzl]
        simpa using hl2
      have := run_buildSlice (P := P) w t e len (ps.map fun (i, x) => (i, ρ x)) ⟨l'⟩ ie z hu hi hz0 (by rw [hie]; exact hsmall) (by rw [hie]; exact h0) hfill
      simp [execOp, ho, this]

theorem sound_makeSlice {t : TypeId} {lx cx : Operand} {ul uc : Value} {nv : NewV} (ho : o.op = .makeSlice t lx cx) (hl : conc m ul = some (ρ lx)) (hc : conc m uc = some (ρ cx))
    (h : makeSliceV P t ul uc = some nv) : NewDoes P m ρ o nv := by
  unfold makeSliceV at h
  obtain ⟨e, he, h1⟩ := ob_some h
  obtain ⟨size, hsz, h2⟩ := ob_some h1
  obtain ⟨bytes, hby, h3⟩ := ob_some h2
  obtain ⟨l, hli, h4⟩ := ob_some h3
  obtain ⟨c, hci, h5⟩ := ob_some h4
  obtain ⟨hb, h6⟩ := gd_some h5
  obtain ⟨zs, hzs, h7⟩ := ob_some h6
  clear h h1 h2 h3 h4 h5 h6
  cases h7
  have hu := sliceElem_some he
  obtain ⟨k1, rfl⟩ := asI_some hli
  obtain ⟨k2, rfl⟩ := asI_some hci
  rw [conc_int] at hl hc
  have el := (Option.some.inj hl).symm
  have ec := (Option.some.inj hc).symm
  simp only [Bool.and_eq_true, Bool.not_eq_true'] at hb
  obtain ⟨⟨⟨b1, b2⟩, b3⟩, b4⟩ := hb
  rw [ltI_eq] at b1 b2 b3
  have b1' : 0 ≤ l := by simpa using b1
  have b2' : l ≤ c := by simpa using b2
  have b3' : c < 1099511627776 := by simpa using b3
  have b4' : bytes * c.toNat ≤ 1099511627776 := Nat.le_of_ble_eq_true b4
  obtain ⟨hz1, hz2, hz3⟩ := zeros_some (m := m) hzs
  rw [← hz2]
  cases hi : P.info? e with
  | none => simp [sz, hi] at hsz
  | some ie =>
    have hie : ie.size = size := by simpa [sz, hi] using hsz
    have hbe : ie.bytes = bytes := by simpa [bytesOf, hi] using hby
    refine new_slice (e := e) (reads_fill zs) hz1 (fun w => ?_)
    have hwrap : ∀ q : Int, 0 ≤ q → q < 1099511627776 → IntKind.i64.wrap q = q := fun q h1 h2 => by
      simp [IntKind.wrap, IntKind.bits, IntKind.signed]
      omega
    have hwl := hwrap l b1' (by omega)
    have hwc := hwrap c (by omega) b3'
    have hc0 : (c.toNat : Int) = c := by omega
    have g1 : ¬ (c < 0) := by omega
    have g2 : ¬ ((bytes : Int) * c > 281474976710656) := by
      have : (bytes : Int) * c = ((bytes * c.toNat : Nat) : Int) := by rw [← hc0]; simp
      omega
    have g3 : ¬ (l < 0) := by omega
    have g4 : ¬ (l > c) := by omega
    rcases hz3 with h0 | ⟨h0, z, hz, hzs', hzl⟩
    · have hzn : zs = [] := List.eq_nil_of_length_eq_zero (by omega)
      subst hzn
      simp [execOp, ho, Instr.makeSlice, run_underlying hu, el, ec, asInt, asIntOf, typeInfo, hi, hbe, hwl, hwc, g1, g2, g3, g4, askRoom, run_sz hsz, h0, newRow]
      congr 2
      apply Array.ext'
      simp
    · have hr := range_rep z.cells c.toNat size hzs' h0
      simp [execOp, ho, Instr.makeSlice, run_underlying hu, el, ec, asInt, asIntOf, typeInfo, hi, hbe, hwl, hwc, g1, g2, g3, g4, askRoom, run_sz hsz, h0, newRow, run_zeroP hz, hr, hzl]

/-- EVERY OPERATION OF CLASS 1 -/
theorem new_sound {A : T Value} {nv : NewV} (hops : ∀ x ∈ o.op.operands.toList, conc m (ev A x) = some (ρ x)) (h : evNew o.op P A = some nv) : NewDoes P m ρ o nv := by
  have hh : ∀ op, o.op = op → (∀ x ∈ op.operands.toList, conc m (ev A x) = some (ρ x)) → evNew op P A = some nv → NewDoes P m ρ o nv := by
    intro op ho hops h
    cases op with
    | alloc e => exact sound_alloc ho h
    | box e x => exact sound_box ho (hops x (by simp [Op.operands])) h
    | buildSlice t len ps => exact sound_buildSlice ho (fun p hp => hops p.2 (by simp only [Op.operands]; exact List.mem_map_of_mem (f := (·.2)) hp)) h
    | makeMap t r => exact sound_makeMap ho (fun x hx => hops x (by simp [Op.operands, hx])) h
    | makeSlice t l c => exact sound_makeSlice ho (hops l (by simp [Op.operands])) (hops c (by simp [Op.operands])) h
    | _ => cases h
  exact hh o.op rfl hops h
end Go.Ev
