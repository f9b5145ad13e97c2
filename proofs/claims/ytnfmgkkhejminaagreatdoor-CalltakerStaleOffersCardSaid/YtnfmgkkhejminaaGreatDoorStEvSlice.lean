/-
  A part of the proof that the evaluator answers what the model answers, for every program that follows mixed orders; no other condition.
-/
import Derived.Test.YtnfmgkkhejminaaGreatDoorStEvPure
namespace Go.Ev
set_option linter.unusedSectionVars false
variable [OTab] [OVal]
variable {P : Program} {m : Map} {ρ : Operand → Value} {o : Oper} {v : Value}

theorem fillT_get : ∀ (l : List Value) (i : Nat) (t : T Value) (j : Nat), (fillT l i t).get j = if i ≤ j ∧ j < i + l.length then l[j - i]? else t.get j
  | [], i, t, j => by
    have e : fillT [] i t = t := rfl
    rw [e, if_neg (by simp)]
  | v :: l, i, t, j => by
    have e : fillT (v :: l) i t = fillT l (i + 1) (t.put (some v) i) := rfl
    rw [e, fillT_get l (i + 1) _ j, get_put]
    by_cases h1 : i + 1 ≤ j ∧ j < i + 1 + l.length
    · rw [if_pos h1, if_pos (by simp; omega)]
      obtain ⟨k, rfl⟩ : ∃ k, j = i + 1 + k := ⟨j - (i + 1), by omega⟩
      rw [show i + 1 + k - (i + 1) = k from by omega, show i + 1 + k - i = k + 1 from by omega]
      simp
    · rw [if_neg h1]
      by_cases h2 : j = i
      · subst h2
        rw [if_pos rfl, if_pos (by simp)]
        simp
      · rw [if_neg h2, if_neg (by simp; omega)]

/-- a tree of cells that reads as a list -/
def Reads (c : T Value) (l : List Value) : Prop := (∀ i, i < l.length → c.get i = l[i]?) ∧ (l.length ≤ tagI → c.get tagI = none ∧ c.get (tagI + 1) = none)
theorem reads_fill (l : List Value) : Reads (fillT l 0 .lf) l := ⟨fun i hi => by
  rw [fillT_get, if_pos (by omega)]; simp, fun h => ⟨by
  rw [fillT_get, if_neg (by omega)]; exact get_lf _, by
  rw [fillT_get, if_neg (by omega)]; exact get_lf _⟩⟩
theorem reads_set {c : T Value} {l vs : List Value} {off : Nat} (h : Reads c l) (hl : off + vs.length ≤ l.length) : Reads (fillT vs off c) (setL l off vs) ∧ (setL l off vs).length = l.length := by
  have hlen : (setL l off vs).length = l.length := by simp [setL]; omega
  refine ⟨⟨fun i hi => ?_, fun ht => ⟨by rw [fillT_get, if_neg (by omega)]; exact (h.2 (by omega)).1, by rw [fillT_get, if_neg (by omega)]; exact (h.2 (by omega)).2⟩⟩, hlen⟩
  rw [fillT_get]
  unfold setL
  by_cases h1 : off ≤ i ∧ i < off + vs.length
  · rw [if_pos h1, List.getElem?_append_left (by simp; omega), List.getElem?_append_right (by simp; omega)]
    simp
    congr 1
    omega
  · rw [if_neg h1]
    by_cases h2 : i < off
    · rw [List.getElem?_append_left (by simp; omega), List.getElem?_append_left (by simp; omega), List.getElem?_take_of_lt h2]
      exact h.1 i (by omega)
    · rw [List.getElem?_append_right (by simp; omega)]
      simp only [List.length_append, List.length_take, List.getElem?_drop]
      rw [h.1 i (by omega)]
      congr 1
      omega

theorem cells_rel {l l' : List Value} {c : T Value} {e : TypeId} {B : Nat} {w : World} (hr : Reads c l) (hl : concL m l = some l') (hw : w.heap[B]? = some (.cells ⟨l'⟩ e (0, 0))) : BlkRel m (.cells l.length c) ⟨B, 0, l.length⟩ w := by
  refine ⟨⟨l'⟩, e, 0, 0, hw, ?_, Nat.le_refl _, fun i _ => by omega, fun i hi => ?_, fun ht => ⟨fun k t e' => by (rw [(hr.2 ht).1] at e'; cases e'), fun k t e' => by (rw [(hr.2 ht).2] at e'; cases e')⟩⟩
  · have := concL_len hl
    show 0 + l.length ≤ l'.length
    omega
  · have hg := hr.1 i hi
    rw [List.getElem?_eq_getElem hi] at hg
    obtain ⟨cv, h1, h2⟩ := concL_get hl i l[i] (List.getElem?_eq_getElem hi)
    exact ⟨l[i], cv, hg, h1, by simpa using h2⟩

/-- an operation that makes one block and looks at none -/
def NewDoes (P : Program) (m : Map) (ρ : Operand → Value) (o : Oper) (nv : NewV) : Prop :=
  ∃ (obj : Obj) (lim : Nat) (f : Nat → Value), (∀ w : World, (execOp ρ o).run P w = .ok (.value (f w.heap.size)) (w.alloc obj)) ∧
    ∀ (id : Nat) (m' : Map) (B : Nat), Sub m m' → m' id = some ⟨B, 0, lim⟩ → conc m' (nv.v id) = some (f B) ∧ ∀ w' : World, w'.heap[B]? = some obj → BlkRel m' (nv.b id) ⟨B, 0, lim⟩ w'

theorem new_cells {l l' : List Value} {e : TypeId} (hl : concL m l = some l') (hrun : ∀ w : World, (execOp ρ o).run P w = .ok (.value (.pointer (some ⟨w.heap.size, 0, none⟩))) (w.alloc (.cells ⟨l'⟩ e))) :
    NewDoes P m ρ o ⟨newCells l, ptrTo⟩ := by
  refine ⟨.cells ⟨l'⟩ e, l.length, fun B => .pointer (some ⟨B, 0, none⟩), hrun, fun id m' B hs hb => ⟨?_, fun w' hw => ?_⟩⟩
  · have := conc_pointer' (m := m') (off := 0) hb
    simpa [ptrTo] using this
  · exact cells_rel (reads_fill l) (concL_mono hs _ _ hl) hw

theorem new_tag {l l' : List Value} {e : TypeId} (hl : concL m l = some l') (hn : l.length ≤ tagI) (hrun : ∀ w : World, (execOp ρ o).run P w = .ok (.value (.pointer (some ⟨w.heap.size, 0, none⟩))) (w.alloc (.cells ⟨l'⟩ e))) :
    NewDoes P m ρ o ⟨tagCells e l, ptrTo⟩ := by
  refine ⟨.cells ⟨l'⟩ e, l.length, fun B => .pointer (some ⟨B, 0, none⟩), hrun, fun id m' B hs hb => ⟨?_, fun w' hw => ?_⟩⟩
  · have := conc_pointer' (m := m') (off := 0) hb
    simpa [ptrTo] using this
  · have hlen := concL_len hl
    refine ⟨⟨l'⟩, e, 0, 0, hw, ?_, Nat.le_refl _, fun i _ => by omega, fun i hi => ?_, fun _ => ⟨fun k t e' => ?_, fun k t e' => ?_⟩⟩
    · show 0 + l.length ≤ l'.length
      omega
    · have hg := (reads_fill l).1 i hi
      rw [List.getElem?_eq_getElem hi] at hg
      obtain ⟨cv, h1, h2⟩ := concL_get (concL_mono hs _ _ hl) i l[i] (List.getElem?_eq_getElem hi)
      exact ⟨l[i], cv, by rw [get_put, if_neg (by omega)]; exact hg, h1, by simpa using h2⟩
    · rw [get_put, if_pos rfl] at e'
      cases e'
      exact ⟨rfl, rfl, hlen.symm ▸ rfl⟩
    · rw [get_put, if_neg (by omega), ((reads_fill l).2 hn).2] at e'
      cases e'
theorem sound_alloc {e : TypeId} {nv : NewV} (ho : o.op = .alloc e) (h : allocV P e = some nv) : NewDoes P m ρ o nv := by
  unfold allocV at h
  obtain ⟨z, hz, h⟩ := ob_some h
  have hrun : ∀ w : World, (execOp ρ o).run P w = .ok (.value (.pointer (some ⟨w.heap.size, 0, none⟩))) (w.alloc (.cells ⟨z.cells.toList⟩ e)) := fun w => by
    simp [execOp, ho, Instr.alloc, run_zeroP hz, newVar, newRow]
  have hl := conc_cells ((zeroP_some hz).2 m)
  cases hb : (OTab.tags.any (Nat.beq e) && Nat.ble (cellsL z).length tagI) with
  | false =>
    rw [hb, bsel_false] at h
    cases h
    exact new_cells (e := e) (l' := z.cells.toList) hl hrun
  | true =>
    rw [hb, bsel_true] at h
    cases h
    rw [Bool.and_eq_true] at hb
    exact new_tag (e := e) (l' := z.cells.toList) hl (Nat.le_of_ble_eq_true hb.2) hrun

theorem sound_box {e : TypeId} {x : Operand} {u : Value} {nv : NewV} (ho : o.op = .box e x) (hx : conc m u = some (ρ x)) (h : boxV u = some nv) : NewDoes P m ρ o nv := by
  unfold boxV at h
  obtain ⟨_, h⟩ := gd_some h
  cases h
  refine new_cells (e := e) (l' := (ρ x).cells.toList) (conc_cells hx) (fun w => ?_)
  simp [execOp, ho, Instr.box, newVar, newRow]

theorem new_map {nv : NewV} (hn : nv = newMap) (hrun : ∀ w : World, (execOp ρ o).run P w = .ok (.value (.map (some w.heap.size))) (w.alloc (.map #[] 0))) : NewDoes P m ρ o nv := by
  subst hn
  refine ⟨.map #[] 0, 0, fun B => .map (some B), hrun, fun id m' B hs hb => ⟨?_, fun w' hw => ?_⟩⟩
  · simp [newMap, conc, hb]
  · exact ⟨rfl, [], hw, rfl⟩

theorem mapKV_some {t : TypeId} {kv : TypeId × TypeId} (h : mapKV P t = some kv) : P.underlying t = some (.map kv.1 kv.2) := by
  unfold mapKV at h
  split at h
  · rename_i k e hu; cases h; exact hu
  · cases h
theorem sliceElem_some {t e : TypeId} (h : sliceElem P t = some e) : P.underlying t = some (.slice e) := by
  unfold sliceElem at h
  split at h
  · rename_i e' hu; cases h; exact hu
  · cases h

theorem sound_makeMap {t : TypeId} {r : Option Operand} {A : T Value} {nv : NewV} (ho : o.op = .makeMap t r) (hr : ∀ x, r = some x → conc m (ev A x) = some (ρ x)) (h : makeMapV P A t r = some nv) : NewDoes P m ρ o nv := by
  unfold makeMapV at h
  split at h
  · cases h
    exact new_map rfl (fun w => by simp [execOp, ho, Instr.makeMap])
  · rename_i x
    obtain ⟨kv, hk, h⟩ := ob_some h
    obtain ⟨n, hn, h⟩ := ob_some h
    cases h
    obtain ⟨k, hk'⟩ := asI_some hn
    have := hr x rfl
    rw [hk', conc_int] at this
    have e := (Option.some.inj this).symm
    exact new_map rfl (fun w => by simp [execOp, ho, Instr.makeMap, run_underlying (mapKV_some hk), e, asInt, asIntOf])

theorem repL_len (l : List Value) : ∀ n, (repL l n).length = n * l.length
  | 0 => by simp [repL]
  | n + 1 => by simp [repL, repL_len l n, Nat.succ_mul]; omega
theorem repL_get (l : List Value) (hl : l ≠ []) : ∀ n i, i < n * l.length → (repL l n)[i]? = l[i % l.length]?
  | 0, i, h => by simp at h
  | n + 1, i, h => by
    have hp : 0 < l.length := List.length_pos_iff.2 hl
    simp only [repL]
    by_cases h1 : i < l.length
    · rw [List.getElem?_append_left h1, Nat.mod_eq_of_lt h1]
    · rw [List.getElem?_append_right (by omega), repL_get l hl n (i - l.length) (by rw [Nat.succ_mul] at h; omega)]
      congr 1
      rw [Nat.mod_eq_sub_mod (by omega : i ≥ l.length)]
theorem range_rep (z : Array Value) (n size : Nat) (hz : z.size = size) (hpos : n * size ≠ 0) : (Array.range (n * size)).map (fun i => z[i % z.size]!) = ⟨repL z.toList n⟩ := by
  have hs : 0 < size := by rcases Nat.eq_zero_or_pos size with h | h; · subst h; simp at hpos
                           · exact h
  apply Array.ext'
  apply List.ext_getElem?
  intro i
  have hlen : z.toList.length = size := by simpa using hz
  have hne : z.toList ≠ [] := by intro e; rw [e] at hlen; simp at hlen; omega
  by_cases hi : i < n * size
  · rw [repL_get z.toList hne n i (by rw [hlen]; exact hi)]
    have hm : i % size < z.size := by rw [hz]; exact Nat.mod_lt _ hs
    have h1 : z[i % size]? = some z[i % size]! := by rw [getElem!_pos z _ hm]; exact Array.getElem?_eq_getElem hm
    simp [hi, hz, h1]
  · rw [List.getElem?_eq_none (by simp; omega), List.getElem?_eq_none (by rw [repL_len, hlen]; omega)]

theorem zeros_some {e : TypeId} {size n : Nat} {zs : List Value} (h : zeros P e size n = some zs) : concL m zs = some zs ∧ zs.length = n * size ∧
    (n * size = 0 ∨ (n * size ≠ 0 ∧ ∃ z, zeroP P e = some z ∧ z.cells.size = size ∧ zs = repL z.cells.toList n)) := by
  unfold zeros at h
  split at h
  · rename_i h0
    cases h
    exact ⟨by simp, by simp [h0], .inl h0⟩
  · rename_i h0
    obtain ⟨z, hz, h⟩ := ob_some h
    obtain ⟨hs, h⟩ := gd_some h
    cases h
    have hs' : (cellsL z).length = size := Nat.eq_of_beq_eq_true hs
    rw [cellsL_eq] at hs' ⊢
    refine ⟨?_, by rw [repL_len, hs'], .inr ⟨h0, z, hz, by simpa using hs', rfl⟩⟩
    have hc := conc_cells ((zeroP_some hz).2 m)
    rw [cellsL_eq] at hc
    have : ∀ k, concL m (repL z.cells.toList k) = some (repL z.cells.toList k) := fun k => by
      induction k with
      | zero => simp [repL]
      | succ k ih => simp only [repL]; exact concL_append hc ih
    exact this n

theorem fillParts_build {size len : Nat} : ∀ (ps : List (Nat × Value)) (c c' : T Value) (l : List Value), fillParts size ps c = some c' → ps.all (fun p => Nat.blt p.1 len) = true → Reads c l → l.length = len * size →
    ∃ l2, buildL (fun i => some (i * size, size)) l ps = some l2 ∧ Reads c' l2 ∧ l2.length = len * size
  | [], c, c', l, h, _, hr, hl => by simp [fillParts] at h; subst h; exact ⟨l, rfl, hr, hl⟩
  | (i, v) :: ps, c, c', l, h, ha, hr, hl => by
    simp only [fillParts] at h
    obtain ⟨hs, h⟩ := gd_some h
    have hs' : (cellsL v).length = size := Nat.eq_of_beq_eq_true hs
    simp only [List.all_cons, Bool.and_eq_true] at ha
    have hi : i < len := by have := ha.1; simp [Nat.blt] at this; omega
    have hb : i * size + (cellsL v).length ≤ l.length := by
      rw [hs', hl]
      have : (i + 1) * size ≤ len * size := Nat.mul_le_mul_right _ hi
      rw [Nat.succ_mul] at this
      omega
    obtain ⟨h1, h2⟩ := reads_set hr hb
    obtain ⟨l2, h3, h4, h5⟩ := fillParts_build ps _ c' _ h ha.2 h1 (h2.trans hl)
    refine ⟨l2, ?_, h4, h5⟩
    simp only [buildL]
    show (if ((cellsL v).length ≠ size || i * size + (cellsL v).length > l.length) = true then none else _) = _
    rw [if_neg (by simp [hs']; omega)]
    exact h3

theorem new_slice {l l' : List Value} {c : T Value} {e : TypeId} {n k : Nat} (hr : Reads c l) (hl : concL m l = some l')
    (hrun : ∀ w : World, (execOp ρ o).run P w = .ok (.value (.slice (some ⟨w.heap.size, 0, none⟩) n k)) (w.alloc (.cells ⟨l'⟩ e))) :
    NewDoes P m ρ o ⟨fun _ => Blk.cells l.length c, fun id => .slice (some ⟨id, 0, none⟩) n (2 * k + 1)⟩ := by
  refine ⟨.cells ⟨l'⟩ e, l.length, fun B => .slice (some ⟨B, 0, none⟩) n k, hrun, fun id m' B hs hb => ⟨?_, fun w' hw => ?_⟩⟩
  · have h1 : (2 * k + 1) % 2 = 1 := by omega
    have h2 : (2 * k + 1) / 2 = k := by omega
    simp [conc, hb, h1, h2]
  · exact cells_rel hr (concL_mono hs _ _ hl) hw

theorem sound_buildSlice {t : TypeId} {len : Nat} {ps : Array (Nat × Operand)} {A : T Value} {nv : NewV} (ho : o.op = .buildSlice t len ps) (hps : ∀ p ∈ ps.toList, conc m (ev A p.2) = some (ρ p.2))
    (h : buildSliceV P t len (evParts A ps) = some nv) : NewDoes P m ρ o nv := by
  unfold buildSliceV at h
  obtain ⟨e, he, h1⟩ := ob_some h
  obtain ⟨size, hsz, h2⟩ := ob_some h1
  obtain ⟨hb, h3⟩ := gd_some h2
  obtain ⟨_, h4⟩ := gd_some h3
  obtain ⟨zs, hzs, h5⟩ := ob_some h4
  obtain ⟨c, hc, h6⟩ := ob_some h5
  clear h h1 h2 h3 h4 h5
  cases h6
  rw [Bool.and_eq_true] at hb
  have hu := sliceElem_some he
  obtain ⟨hz1, hz2, hz3⟩ := zeros_some (m := m) hzs
  obtain ⟨l2, hb1, hb2, hb3⟩ := fillParts_build (evParts A ps) _ c zs hc hb.2 (reads_fill zs) hz2
  obtain ⟨l', hl1, hl2⟩ := fill_sound (place' := fun i => some (i * size, size)) (fun i p hp => hp) _ _ _ _ l2 (parts_rel (ρ := ρ) ps.toList hps) hz1 hb1
  have hsmall : ¬ len * size > 2 ^ 24 := by have := Nat.le_of_ble_eq_true hb.1; omega
  cases hi : P.info? e with
  | none => simp [sz, hi] at hsz
  | some ie =>
    have hie : ie.size = size := by simpa [sz, hi] using hsz
    rw [← hb3]
    refine new_slice (e := e) hb2 hl1 (fun w => ?_)
    rcases hz3 with h0 | ⟨h0, z, hz, hzs', hzl⟩
    · have hzn : zs = [] := List.eq_nil_of_length_eq_zero (by omega)
      subst hzn
      have hl2' : Instr.fill (fun i => some (i * size, size)) ((Array.range (len * size)).map fun i => (#[] : Array Value)[i % (#[] : Array Value).size]!) (ps.map fun (i, x) => (i, ρ x)).toList = some ⟨l'⟩ := by
        rw [h0]
        have e0 : (Array.range 0).map (fun i => (#[] : Array Value)[i % (#[] : Array Value).size]!) = ⟨[]⟩ := by simp
        rw [e0]
        simpa using hl2
      simp [execOp, ho, Instr.buildSlice, run_underlying hu, run_sz hsz, h0] at hl2' ⊢
      simp [hl2', newRow]
    · obtain ⟨⟨ie', hie', hz0⟩, _⟩ := zeroP_some hz
      rw [hi] at hie'
      cases hie'
      have hfill : Instr.fill (fun i => some (i * ie.size, ie.size)) ((Array.range (len * ie.size)).map (z.cells[· % z.cells.size]!)) (ps.map fun (i, x) => (i, ρ x)).toList = some ⟨l'⟩ := by
        rw [hie, range_rep z.cells len size hzs' h0, ← hzl]
        simpa using hl2
      have := run_buildSlice (P := P) w t e len (ps.map fun (i, x) => (i, ρ x)) ⟨l'⟩ ie z hu hi hz0 (by rw [hie]; exact hsmall) (by rw [hie]; exact h0) hfill
      simp [execOp, ho, this]

theorem sound_makeSlice {t : TypeId} {lx cx : Operand} {ul uc : Value} {nv : NewV} (ho : o.op = .makeSlice t lx cx) (hl : conc m ul = some (ρ lx)) (hc : conc m uc = some (ρ cx))
    (h : makeSliceV P t ul uc = some nv) : NewDoes P m ρ o nv := by
  unfold makeSliceV at h
  obtain ⟨e, he, h1⟩ := ob_some h
  obtain ⟨size, hsz, h2⟩ := ob_some h1
  obtain ⟨bytes, hby, h3⟩ := ob_some h2
  obtain ⟨l, hli, h4⟩ := ob_some h3
  obtain ⟨c, hci, h5⟩ := ob_some h4
  obtain ⟨hb, h6⟩ := gd_some h5
  obtain ⟨zs, hzs, h7⟩ := ob_some h6
  clear h h1 h2 h3 h4 h5 h6
  cases h7
  have hu := sliceElem_some he
  obtain ⟨k1, rfl⟩ := asI_some hli
  obtain ⟨k2, rfl⟩ := asI_some hci
  rw [conc_int] at hl hc
  have el := (Option.some.inj hl).symm
  have ec := (Option.some.inj hc).symm
  simp only [Bool.and_eq_true, Bool.not_eq_true'] at hb
  obtain ⟨⟨⟨b1, b2⟩, b3⟩, b4⟩ := hb
  rw [ltI_eq] at b1 b2 b3
  have b1' : 0 ≤ l := by simpa using b1
  have b2' : l ≤ c := by simpa using b2
  have b3' : c < 1099511627776 := by simpa using b3
  have b4' : bytes * c.toNat ≤ 1099511627776 := Nat.le_of_ble_eq_true b4
  obtain ⟨hz1, hz2, hz3⟩ := zeros_some (m := m) hzs
  rw [← hz2]
  cases hi : P.info? e with
  | none => simp [sz, hi] at hsz
  | some ie =>
    have hie : ie.size = size := by simpa [sz, hi] using hsz
    have hbe : ie.bytes = bytes := by simpa [bytesOf, hi] using hby
    refine new_slice (e := e) (reads_fill zs) hz1 (fun w => ?_)
    have hwrap : ∀ q : Int, 0 ≤ q → q < 1099511627776 → IntKind.i64.wrap q = q := fun q h1 h2 => by
      simp [IntKind.wrap, IntKind.bits, IntKind.signed]
      omega
    have hwl := hwrap l b1' (by omega)
    have hwc := hwrap c (by omega) b3'
    have hc0 : (c.toNat : Int) = c := by omega
    have g1 : ¬ (c < 0) := by omega
    have g2 : ¬ ((bytes : Int) * c > 281474976710656) := by
      have : (bytes : Int) * c = ((bytes * c.toNat : Nat) : Int) := by rw [← hc0]; simp
      omega
    have g3 : ¬ (l < 0) := by omega
    have g4 : ¬ (l > c) := by omega
    rcases hz3 with h0 | ⟨h0, z, hz, hzs', hzl⟩
    · have hzn : zs = [] := List.eq_nil_of_length_eq_zero (by omega)
      subst hzn
      simp [execOp, ho, Instr.makeSlice, run_underlying hu, el, ec, asInt, asIntOf, typeInfo, hi, hbe, hwl, hwc, g1, g2, g3, g4, askRoom, run_sz hsz, h0, newRow]
      congr 2
      apply Array.ext'
      simp
    · have hr := range_rep z.cells c.toNat size hzs' h0
      simp [execOp, ho, Instr.makeSlice, run_underlying hu, el, ec, asInt, asIntOf, typeInfo, hi, hbe, hwl, hwc, g1, g2, g3, g4, askRoom, run_sz hsz, h0, newRow, run_zeroP hz, hr, hzl]

/-- EVERY OPERATION OF CLASS 1 -/
theorem new_sound {A : T Value} {nv : NewV} (hops : ∀ x ∈ o.op.operands.toList, conc m (ev A x) = some (ρ x)) (h : evNew o.op P A = some nv) : NewDoes P m ρ o nv := by
  have hh : ∀ op, o.op = op → (∀ x ∈ op.operands.toList, conc m (ev A x) = some (ρ x)) → evNew op P A = some nv → NewDoes P m ρ o nv := by
    intro op ho hops h
    cases op with
    | alloc e => exact sound_alloc ho h
    | box e x => exact sound_box ho (hops x (by simp [Op.operands])) h
    | buildSlice t len ps => exact sound_buildSlice ho (fun p hp => hops p.2 (by simp only [Op.operands]; exact List.mem_map_of_mem (f := (·.2)) hp)) h
    | makeMap t r => exact sound_makeMap ho (fun x hx => hops x (by simp [Op.operands, hx])) h
    | makeSlice t l c => exact sound_makeSlice ho (hops l (by simp [Op.operands])) (hops c (by simp [Op.operands])) h
    | _ => cases h
  exact hh o.op rfl hops h
end Go.Ev

namespace Go.Ev
set_option linter.unusedSectionVars false
variable [OTab] [OVal]
variable {P : Program} {m : Map} {ρ : Operand → Value} {o : Oper} {v : Value} {st : St} {w : World}

theorem cellsB_some {β : Type} {k : Nat → T Value → Option β} {x : Blk} {r : β} (h : cellsB k x = some r) : ∃ n c, x = .cells n c ∧ k n c = some r := by
  cases x with
  | cells n c => exact ⟨n, c, rfl, h⟩
  | _ => cases h
theorem cellsAt_some {β : Type} {b : Nat} {k : Nat → T Value → Option β} {r : β} (h : cellsAt st b k = some r) : ∃ n c, st.mem.get b = some (.cells n c) ∧ k n c = some r := by
  obtain ⟨x, hx, h⟩ := ob_some h
  obtain ⟨n, c, rfl, h⟩ := cellsB_some h
  exact ⟨n, c, hx, h⟩
theorem takeT_some {c : T Value} : ∀ (n i : Nat) (l : List Value), takeT c n i = some l → l.length = n ∧ ∀ j, j < n → c.get (i + j) = l[j]?
  | 0, i, l, h => by
    have h' : some [] = some l := h
    cases h'
    exact ⟨rfl, fun j hj => by omega⟩
  | n + 1, i, l, h => by
    have h' : (ob (c.get i) fun v => ob (takeT c n (i + 1)) fun l => some (v :: l)) = some l := h
    obtain ⟨v, hv, h1⟩ := ob_some h'
    obtain ⟨r, hr, h2⟩ := ob_some h1
    cases h2
    obtain ⟨h3, h4⟩ := takeT_some n (i + 1) r hr
    refine ⟨by simp [h3], fun j hj => ?_⟩
    cases j with
    | zero => simpa using hv
    | succ j => rw [show i + (j + 1) = i + 1 + j from by omega]; simpa using h4 j (by omega)

theorem isNone_spot {a : Addr} (h : a.spot.isNone = true) : a = ⟨a.block, a.off, none⟩ := by
  obtain ⟨b, o, s⟩ := a
  cases s with
  | none => rfl
  | some _ => cases h

/-- a block of cells in the world -/
theorem rel_cells (h : Rel P m st w) {b n : Nat} {c : T Value} {x : M} (hb : m b = some x) (hk : st.mem.get b = some (.cells n c)) : ∃ (arr : Array Value) (e : TypeId) (lo hi : Nat),
    w.heap[x.blk]? = some (.cells arr e (lo, hi)) ∧ x.sh + x.lim ≤ arr.size ∧ n ≤ x.lim ∧ ((c.get roI).isNone = true → ∀ i, i < arr.size → ¬ (lo ≤ i ∧ i < hi)) ∧ (∀ i, i < n → ∃ v cv, c.get i = some v ∧ conc m v = some cv ∧ arr[x.sh + i]? = some cv) ∧ Tagged n c e x.sh arr.size := h.blks b x _ hb hk

theorem load1_sound (h : Rel P m st w) {a : Addr} {x : M} (hx : m a.block = some x) (hl : load1 st a = some v) : ∃ cv, conc m v = some cv ∧ w.cell? ⟨x.blk, x.sh + a.off, none⟩ = some cv := by
  unfold load1 at hl
  obtain ⟨_, h1⟩ := gd_some hl
  obtain ⟨n, c, hk, h2⟩ := cellsAt_some h1
  obtain ⟨hlt, h3⟩ := gd_some h2
  have hlt' : a.off < n := by simp [Nat.blt] at hlt; omega
  obtain ⟨arr, e, lo, hi, g1, _, _, _, g5, _⟩ := rel_cells h hx hk
  obtain ⟨v', cv, g6, g7, g8⟩ := g5 a.off hlt'
  rw [h3] at g6
  cases g6
  exact ⟨cv, g7, by simp [World.cell?, g1, g8]⟩

theorem loadN_sound (h : Rel P m st w) {a : Addr} {x : M} {n : Nat} {l : List Value} (hx : m a.block = some x) (hl : loadN st a n = some l) :
    ∃ l', concL m l = some l' ∧ l.length = n ∧ (∀ j cv, l'[j]? = some cv → w.cell? ⟨x.blk, x.sh + a.off + j, none⟩ = some cv) ∧ (loadCells ⟨x.blk, x.sh + a.off, none⟩ n).run P w = .ok ⟨l'⟩ w := by
  unfold loadN at hl
  obtain ⟨_, h1⟩ := gd_some hl
  obtain ⟨k, c, hk, h2⟩ := cellsAt_some h1
  obtain ⟨hle, h3⟩ := gd_some h2
  have hle' : a.off + n ≤ k := Nat.le_of_ble_eq_true hle
  obtain ⟨hlen, hget⟩ := takeT_some n a.off l h3
  obtain ⟨arr, e, lo, hi, g1, _, _, _, g5, _⟩ := rel_cells h hx hk
  have key : ∀ (r : List Value) (i : Nat), (∀ j, j < r.length → ∃ cv, conc m (r[j]?.getD undef) = some cv ∧ w.cell? ⟨x.blk, x.sh + a.off + (i + j), none⟩ = some cv) → ∃ r', concL m r = some r' ∧ ∀ j cv, r'[j]? = some cv → w.cell? ⟨x.blk, x.sh + a.off + (i + j), none⟩ = some cv := by
    intro r
    induction r with
    | nil => intro i _; exact ⟨[], by simp, fun j cv hj => by simp at hj⟩
    | cons u r ih =>
      intro i hr
      obtain ⟨cv, h1, h2⟩ := hr 0 (by simp)
      obtain ⟨r', h3, h4⟩ := ih (i + 1) (fun j hj => by
        have := hr (j + 1) (by simp; omega)
        simpa [Nat.add_assoc, Nat.add_comm 1 j] using this)
      refine ⟨cv :: r', concL_cons' (by simpa using h1) h3, fun j cv' hj => ?_⟩
      cases j with
      | zero => simp at hj; subst hj; simpa using h2
      | succ j => have := h4 j cv' (by simpa using hj); simpa [Nat.add_assoc, Nat.add_comm 1 j] using this
  obtain ⟨l', hl', hc⟩ := key l 0 (fun j hj => by
    obtain ⟨v', cv, g6, g7, g8⟩ := g5 (a.off + j) (by omega)
    rw [hget j (by omega)] at g6
    refine ⟨cv, by simpa [g6] using g7, ?_⟩
    have g9 : arr[x.sh + a.off + j]? = some cv := by rw [Nat.add_assoc]; exact g8
    simp [World.cell?, g1, g9])
  refine ⟨l', hl', hlen, fun j cv hj => by simpa using hc j cv hj, ?_⟩
  have hl2 := concL_len hl'
  have := run_loadCells_list (P := P) w ⟨x.blk, x.sh + a.off, none⟩ l' (fun j cv hj => by rw [add_eq]; simpa using hc j cv hj)
  rw [hl2, hlen] at this
  exact this

theorem loadV_sound (h : Rel P m st w) {t : TypeId} {a : Addr} {c : Value} (hc : conc m (.pointer (some a)) = some c) (hl : loadV P st t a = some v) : ∃ cv, conc m v = some cv ∧ ∃ b, c = .pointer (some b) ∧ (loadVar t b).run P w = .ok cv w := by
  obtain ⟨x, hx, _, rfl⟩ := conc_pointer hc
  unfold loadV at hl
  obtain ⟨g, hg, h1⟩ := ob_some hl
  cases g with
  | false =>
    simp only [bsel_false] at h1
    obtain ⟨cv, h2, h3⟩ := load1_sound h hx h1
    exact ⟨cv, h2, _, rfl, by simp [loadVar, run_aggT hg, h3]⟩
  | true =>
    simp only [bsel_true] at h1
    unfold loadAg at h1
    obtain ⟨n, hn, h2⟩ := ob_some h1
    obtain ⟨l, hl', h3⟩ := ob_some h2
    cases h3
    obtain ⟨l', g1, _, _, g2⟩ := loadN_sound h hx hl'
    exact ⟨.agg ⟨l'⟩, conc_agg' g1, _, rfl, by simp [loadVar, run_aggT hg, run_sz hn, g2]⟩

/-! ## maps -/
theorem mapAt_some {β : Type} {b : Nat} {k : List MapEntry → Nat → Option β} {r : β} (h : mapAt st b k = some r) : ∃ es clock, st.mem.get b = some (.map es clock) ∧ k es clock = some r := by
  obtain ⟨x, hx, h⟩ := ob_some h
  cases x with
  | map es clock => exact ⟨es, clock, hx, h⟩
  | _ => cases h
theorem concE_cons {e : MapEntry} {r c : List MapEntry} (h : concE m (e :: r) = some c) : ∃ k u r', conc m e.key = some k ∧ conc m e.val = some u ∧ concE m r = some r' ∧ c = { key := k, val := u, born := e.born } :: r' := by
  simp only [concE] at h
  split at h
  · rename_i k u r' h1 h2 h3; cases h; exact ⟨k, u, r', h1, h2, h3, rfl⟩
  · cases h

/-- the key, and that it is one of the plain kinds -/
theorem keyDesc_some {kt : TypeId} {k ck : Value} (h : keyDesc P kt k = true) (hk : conc m k = some ck) : ck = k ∧ ∃ d, P.underlying kt = some d ∧
    ((∃ i q n, d = .int i ∧ k = .int q n) ∨ (∃ s, d = .string ∧ k = .string s) ∨ (∃ b, d = .bool ∧ k = .bool b)) := by
  unfold keyDesc at h
  split at h
  · rename_i i q n hu; rw [conc_int] at hk; cases hk; exact ⟨rfl, _, hu, .inl ⟨i, q, n, rfl, rfl⟩⟩
  · rename_i s hu; rw [conc_string] at hk; cases hk; exact ⟨rfl, _, hu, .inr (.inl ⟨s, rfl, rfl⟩)⟩
  · rename_i b hu; rw [conc_bool] at hk; cases hk; exact ⟨rfl, _, hu, .inr (.inr ⟨b, rfl, rfl⟩)⟩
  · cases h
theorem run_checkKey1 {kt : TypeId} {k : Value} {e : Bool} {d : TypeDesc} (n : Nat) (hu : P.underlying kt = some d) (hk : (∃ i q n, d = .int i ∧ k = .int q n) ∨ (∃ s, d = .string ∧ k = .string s) ∨ (∃ b, d = .bool ∧ k = .bool b)) (w : World) :
    (Instr.checkKey e (n + 1) kt k).run P w = .ok () w := by
  rcases hk with ⟨i, q, n, rfl, rfl⟩ | ⟨s, rfl, rfl⟩ | ⟨b, rfl, rfl⟩ <;> simp [Instr.checkKey, run_underlying hu]
theorem run_checkKey {kt : TypeId} {k : Value} {e : Bool} {d : TypeDesc} (hu : P.underlying kt = some d) (hk : (∃ i q n, d = .int i ∧ k = .int q n) ∨ (∃ s, d = .string ∧ k = .string s) ∨ (∃ b, d = .bool ∧ k = .bool b)) (w : World) :
    (Instr.checkKey e 10000 kt k).run P w = .ok () w := run_checkKey1 9999 hu hk w
theorem sameNow_of {d : TypeDesc} {k k' : Value} {b : Bool} (hk : (∃ i q n, d = .int i ∧ k = .int q n) ∨ (∃ s, d = .string ∧ k = .string s) ∨ (∃ b, d = .bool ∧ k = .bool b)) (h : eqS k k' = some b) : Instr.sameNow d k k' = some b := by
  rcases hk with ⟨i, q, n, rfl, rfl⟩ | ⟨s, rfl, rfl⟩ | ⟨b', rfl, rfl⟩
  · cases k' with
    | int q' n' =>
      simp only [eqS] at h
      split at h
      · rename_i e; cases h; subst e; simp [Instr.sameNow, eqI_eq]
      · cases h
    | _ => simp [eqS] at h
  · cases k' with
    | string s' => simp only [eqS] at h; cases h; rw [data_beq]; rfl
    | _ => simp [eqS] at h
  · cases k' with
    | bool s' => simp only [eqS] at h; cases h; simp [Instr.sameNow]
    | _ => simp [eqS] at h
theorem findM_sound {d : TypeDesc} {k : Value} (hkc : conc m k = some k) (hk : (∃ i q n, d = .int i ∧ k = .int q n) ∨ (∃ s, d = .string ∧ k = .string s) ∨ (∃ b, d = .bool ∧ k = .bool b)) :
    ∀ (es ces : List MapEntry) (i : Nat) (r : Option (Nat × Value)), concE m es = some ces → findM k es i = some r →
      ∃ cr, Instr.findNow d k ces i = some cr ∧ ((r = none ∧ cr = none) ∨ ∃ j u cu, r = some (j, u) ∧ cr = some (j, cu) ∧ conc m u = some cu ∧ i ≤ j ∧ j < i + es.length ∧ ∃ ke, es[j - i]? = some ke ∧ eqS k ke.key = some true)
  | [], ces, i, r, hc, h => by
    simp [concE] at hc; subst hc
    simp [findM] at h; subst h
    exact ⟨none, rfl, .inl ⟨rfl, rfl⟩⟩
  | e :: es, ces, i, r, hc, h => by
    obtain ⟨ck, cu, cr, h1, h2, h3, rfl⟩ := concE_cons hc
    simp only [findM] at h
    obtain ⟨b, hb, h⟩ := ob_some h
    have hb' := eqS_conc hkc h1 hb
    have hs := sameNow_of hk hb'
    cases b with
    | true =>
      simp at h
      subst h
      refine ⟨some (i, cu), by simp [Instr.findNow, hs], .inr ⟨i, e.val, cu, rfl, rfl, h2, Nat.le_refl _, by simp, e, by simp, hb⟩⟩
    | false =>
      simp at h
      obtain ⟨cr', h4, h5⟩ := findM_sound hkc hk es cr (i + 1) r h3 h
      refine ⟨cr', by simp [Instr.findNow, hs, h4], ?_⟩
      rcases h5 with h5 | ⟨j, u, cu', e1, e2, e3, e4, e5, ke, e6, e7⟩
      · exact .inl h5
      · refine .inr ⟨j, u, cu', e1, e2, e3, by omega, by simp; omega, ke, ?_, e7⟩
        rw [show j - i = (j - (i + 1)) + 1 from by omega]
        simpa using e6
theorem run_findKey {d : TypeDesc} {kt : TypeId} {k : Value} {ces : List MapEntry} {cr : Option (Nat × Value)} (hu : P.underlying kt = some d) (h : Instr.findNow d k ces 0 = some cr) (w : World) : (Instr.findKey kt k ces).run P w = .ok cr w := by
  simp [Instr.findKey, run_underlying hu, h]

theorem rel_map (h : Rel P m st w) {b clock : Nat} {es : List MapEntry} {x : M} (hb : m b = some x) (hk : st.mem.get b = some (.map es clock)) : x.sh = 0 ∧ ∃ ces : List MapEntry, w.heap[x.blk]? = some (.map ⟨ces⟩ clock) ∧ concE m es = some ces := h.blks b x _ hb hk

theorem conc_map_some {r : Nat} {c : Value} (h : conc m (.map (some r)) = some c) : ∃ x, m r = some x ∧ c = .map (some x.blk) := by
  simp only [conc, Option.map_eq_some_iff] at h
  obtain ⟨x, hx, rfl⟩ := h
  exact ⟨x, hx, rfl⟩

theorem run_getObj {B : Nat} {ob : Obj} (h : w.heap[B]? = some ob) (hn : ∀ c e f, ob ≠ .cells c e f) : (getObj B).run P w = .ok ob w := by
  show (Sem.getObj B Sem.pure).run P w = _
  simp only [Sem.run]
  rw [h]
  cases ob with
  | cells c e f => exact absurd rfl (hn c e f)
  | _ => rfl
theorem run_setObj {B : Nat} {ob ob' : Obj} (h : w.heap[B]? = some ob) (hn : ∀ c e f, ob ≠ .cells c e f) : (setObj B ob').run P w = .ok () { w with heap := w.heap.setIfInBounds B ob' } := by
  show (Sem.setObj B ob' (Sem.pure ())).run P w = _
  simp only [Sem.run]
  rw [h]
  cases ob with
  | cells c e f => exact absurd rfl (hn c e f)
  | _ => rfl

theorem sound_lookup (h : Rel P m st w) {t : TypeId} {x k : Operand} {ok : Bool} {u z : Value} (ho : o.op = .lookup t x k ok) (hx : conc m u = some (ρ x)) (hk : conc m z = some (ρ k)) (hl : lookupV P st t u z ok = some v) :
    ∃ cv, conc m v = some cv ∧ (execOp ρ o).run P w = .ok (.value cv) w := by
  unfold lookupV at hl
  obtain ⟨kv, hkv, h1⟩ := ob_some hl
  obtain ⟨hd, h2⟩ := gd_some h1
  obtain ⟨es, hes, h3⟩ := ob_some h2
  obtain ⟨r, hr, h4⟩ := ob_some h3
  obtain ⟨p, hp, h5⟩ := ob_some h4
  clear hl h1 h2 h3 h4
  obtain ⟨ek, d, hu, hkd⟩ := keyDesc_some hd hk
  have hkc : conc m z = some z := ek ▸ hk
  have hum := mapKV_some hkv
  have hent : ∃ ces, concE m es = some ces ∧ ((ρ x = .map none ∧ ces = []) ∨ ∃ B clock, ρ x = .map (some B) ∧ w.heap[B]? = some (.map ⟨ces⟩ clock)) := by
    unfold entriesOf at hes
    split at hes
    · cases hes
      exact ⟨[], rfl, .inl ⟨by simpa [conc] using hx.symm, rfl⟩⟩
    · obtain ⟨es', clock, g1, g2⟩ := mapAt_some hes
      cases g2
      obtain ⟨y, hy, e⟩ := conc_map_some hx
      obtain ⟨_, ces, g3, g4⟩ := rel_map h hy g1
      exact ⟨ces, g4, .inr ⟨y.blk, clock, e, g3⟩⟩
    · cases hes
  obtain ⟨ces, hces, hmem⟩ := hent
  obtain ⟨cr, hf, hcr⟩ := findM_sound hkc hkd es ces 0 r hces hr
  have hrun := run_findKey (P := P) hu hf w
  have hchk := fun e => run_checkKey (P := P) (e := e) hu hkd w
  have hval : ∃ cp : Value × Bool, conc m p.1 = some cp.1 ∧ cp.2 = p.2 ∧ ((cr = none ∧ (zeroValue kv.2).run P w = .ok cp.1 w ∧ p.2 = false) ∨ (∃ j, cr = some (j, cp.1) ∧ p.2 = true)) := by
    rcases hcr with ⟨rfl, rfl⟩ | ⟨j, a, ca, rfl, rfl, e3, _⟩
    · simp only [foundOr] at hp
      obtain ⟨q, hq, hp⟩ := ob_some hp
      cases hp
      exact ⟨(q, false), (zeroP_some hq).2 m, rfl, .inl ⟨rfl, run_zeroP hq w, rfl⟩⟩
    · simp only [foundOr] at hp
      cases hp
      exact ⟨(ca, true), e3, rfl, .inr ⟨j, rfl, rfl⟩⟩
  obtain ⟨cp, hcp, hcp2, hcp3⟩ := hval
  cases h5
  refine ⟨if ok then .tuple ⟨[cp.1, .bool cp.2]⟩ else cp.1, ?_, ?_⟩
  · cases ok with
    | false => simpa using hcp
    | true => simp only [if_true]; exact conc_tuple' (concL_cons' hcp (concL_cons' (by rw [hcp2]; exact conc_bool m _) (concL_nil m)))
  · have ekρ : ρ k = z := ek
    rcases hmem with ⟨e1, rfl⟩ | ⟨B, clock, e1, e2⟩
    · rcases hcp3 with ⟨rfl, hz, hb⟩ | ⟨j, rfl, hb⟩
      · simp [execOp, ho, Instr.lookup, run_underlying hum, e1, ekρ, hchk, hrun, hz, hcp2, hb]
      · simp [execOp, ho, Instr.lookup, run_underlying hum, e1, ekρ, hchk, hrun, hcp2, hb]
    · have hg := run_getObj (P := P) e2 (by intros; simp)
      rcases hcp3 with ⟨rfl, hz, hb⟩ | ⟨j, rfl, hb⟩
      · simp [execOp, ho, Instr.lookup, run_underlying hum, e1, ekρ, hchk, hrun, hz, hcp2, hb, hg]
      · simp [execOp, ho, Instr.lookup, run_underlying hum, e1, ekρ, hchk, hrun, hcp2, hb, hg]

theorem sound_load (h : Rel P m st w) {t : TypeId} {a : Operand} {u : Value} (ho : o.op = .load t a) (ha : conc m u = some (ρ a)) (hl : ob (asP u) (loadV P st t) = some v) : ∃ cv, conc m v = some cv ∧ (execOp ρ o).run P w = .ok (.value cv) w := by
  obtain ⟨ad, h1, h2⟩ := ob_some hl
  have := asP_some h1
  subst this
  obtain ⟨cv, h3, b, h4, h5⟩ := loadV_sound h ha h2
  exact ⟨cv, h3, by simp [execOp, ho, Instr.loadAt, h4, Instr.sureAddr, h5]⟩

theorem rel_iter (h : Rel P m st w) {b since stepped : Nat} {mp : Option Nat} {seen : List Nat} {x : M} (hb : m b = some x) (hk : st.mem.get b = some (.iter mp since seen stepped)) : x.sh = 0 ∧ ∃ cmp, w.heap[x.blk]? = some (.mapIter cmp since ⟨seen⟩ stepped) ∧ iterOf m mp = some cmp := h.blks b x _ hb hk

theorem concE_find {stamp : Nat} : ∀ {es ces : List MapEntry} {e : MapEntry}, concE m es = some ces → es.find? (·.born == stamp) = some e → ∃ k u, conc m e.key = some k ∧ conc m e.val = some u ∧ ces.find? (·.born == stamp) = some { key := k, val := u, born := e.born }
  | [], _, _, _, h => by simp at h
  | a :: es, _, e, hc, h => by
    obtain ⟨k, u, r, h1, h2, h3, rfl⟩ := concE_cons hc
    by_cases hb : a.born == stamp
    · rw [List.find?_cons_of_pos (by exact hb)] at h
      cases h
      exact ⟨k, u, h1, h2, by rw [List.find?_cons_of_pos (by exact hb)]⟩
    · rw [List.find?_cons_of_neg (by exact hb)] at h
      obtain ⟨k', u', g1, g2, g3⟩ := concE_find h3 h
      exact ⟨k', u', g1, g2, by rw [List.find?_cons_of_neg (by exact hb)]; exact g3⟩

theorem sound_entry (h : Rel P m st w) {it : Operand} {u : Value} (ho : o.op = .entry it) (hx : conc m u = some (ρ it)) (hl : entryV st u = some v) : ∃ cv, conc m v = some cv ∧ (execOp ρ o).run P w = .ok (.value cv) w := by
  unfold entryV at hl
  split at hl
  · rename_i r
    obtain ⟨b, hb, h1⟩ := ob_some hl
    split at h1
    · rename_i mp since seen stepped
      obtain ⟨stamp, hs, h2⟩ := ob_some h1
      obtain ⟨es, clock, hm, h3⟩ := mapAt_some h2
      obtain ⟨hc, h4⟩ := gd_some h3
      obtain ⟨e, he, h5⟩ := ob_some h4
      cases h5
      obtain ⟨x, hx1, _, e1⟩ := conc_pointer hx
      obtain ⟨x0, cmp, g1, g2⟩ := rel_iter h hx1 hb
      simp only [iterOf, Option.map_eq_some_iff] at g2
      obtain ⟨y, hy, rfl⟩ := g2
      obtain ⟨_, ces, g3, g4⟩ := rel_map h hy hm
      obtain ⟨k, u, q1, q2, q3⟩ := concE_find g4 he
      have hc' : clock = stepped := by simpa using hc
      subst hc'
      have o1 := run_getObj (P := P) g1 (by intros; simp)
      have o2 := run_getObj (P := P) g3 (by intros; simp)
      have hs' : (Array.mk seen).back? = some stamp := by simpa [Array.back?, List.getLast?_eq_getElem?] using hs
      have q3' : Array.find? (fun x => x.born == stamp) ⟨ces⟩ = some { key := k, val := u, born := e.born } := by simpa using q3
      refine ⟨.tuple ⟨[k, u]⟩, conc_tuple' (concL_cons' q1 (concL_cons' q2 (concL_nil m))), ?_⟩
      simp only [Nat.add_zero] at e1
      rw [x0] at e1
      simp [execOp, ho, Instr.entry, e1, o1, hs', o2, q3']
    · cases h1
  · cases hl

theorem bytesL_sound {f : Value → ByteArray → Sem (ForInStep ByteArray)} (hf : ∀ n s, f (.int .u8 n) s = pure (.yield (s.push (UInt8.ofNat n.toNat)))) : ∀ {l : List Value} {bs : List UInt8}, bytesL l = some bs → ∀ l', concL m l = some l' →
    l' = l ∧ (∀ s : ByteArray, (forIn l s f : Sem ByteArray).run P w = .ok ⟨⟨s.data.toList ++ bs⟩⟩ w)
  | [], _, h, l', hc => by
    simp [bytesL] at h; subst h
    simp at hc; subst hc
    exact ⟨rfl, fun s => by simp⟩
  | v :: l, bs, h, l', hc => by
    cases v with
    | int k n =>
      cases k with
      | u8 =>
        simp only [bytesL] at h
        obtain ⟨bs', h1, h2⟩ := ob_some h
        cases h2
        obtain ⟨a, b, g1, g2, rfl⟩ := concL_cons hc
        rw [conc_int] at g1
        cases g1
        obtain ⟨rfl, ih⟩ := bytesL_sound hf h1 b g2
        refine ⟨rfl, fun s => ?_⟩
        have := ih (s.push (UInt8.ofNat n.toNat))
        simp only [List.forIn_cons, Sem.run_bind, hf]
        simp at this ⊢
        rw [this]
      | _ => simp [bytesL] at h
    | _ => simp [bytesL] at h

theorem sound_toStr (h : Rel P m st w) {s d : TypeId} {x : Operand} {u : Value} (ho : o.op = .convert s d x) (hx : conc m u = some (ρ x)) (hl : toStr P st s d u = some v) : ∃ cv, conc m v = some cv ∧ (execOp ρ o).run P w = .ok (.value cv) w := by
  unfold toStr at hl
  split at hl
  · rename_i e h1 h2
    split at hl
    · rename_i he
      cases hl
      have hu8 : P.underlying e = some (.int .u8) := he
      have ex : ρ x = .slice none 0 0 := by simpa [conc] using hx.symm
      refine ⟨_, conc_string m _, ?_⟩
      simp [execOp, ho, convert, ex, run_underlying h1, run_underlying h2, run_underlying hu8, Conv.bytesToString]
      rfl
    · cases hl
  · rename_i e a len code h1 h2
    split at hl
    · rename_i he
      have hu8 : P.underlying e = some (.int .u8) := he
      simp only [if_true] at hl
      obtain ⟨l, hl1, h3⟩ := ob_some hl
      obtain ⟨bs, hbs, h4⟩ := ob_some h3
      cases h4
      obtain ⟨b, off, sp⟩ := a
      cases sp with
      | some _ => have := (gd_some hl1).1; cases this
      | none =>
        simp only [conc, Option.map_eq_some_iff] at hx
        obtain ⟨y, hy, ex⟩ := hx
        obtain ⟨l', g1, g2, _, g3⟩ := loadN_sound h hy hl1
        refine ⟨_, conc_string m _, ?_⟩
        simp [execOp, ho, convert, ← ex, run_underlying h1, run_underlying h2, run_underlying hu8, Conv.bytesToString, g3]
        generalize hF : (fun (c : Value) (s : ByteArray) => (match c with
            | Value.int IntKind.u8 n => pure (ForInStep.yield (s.push (UInt8.ofNat n.toNat)))
            | x => (fun _ => ForInStep.yield s) <$> stuck "bytesToString: byte expected" : Sem (ForInStep ByteArray))) = F
        obtain ⟨rfl, g4⟩ := bytesL_sound (P := P) (w := w) (m := m) (f := F) (fun n s => by rw [← hF]) hbs l' g1
        rw [g4]
        simp
    · cases hl
  · cases hl

theorem concE_len : ∀ {es ces : List MapEntry}, concE m es = some ces → ces.length = es.length
  | [], _, h => by simp [concE] at h; subst h; rfl
  | e :: es, _, h => by
    obtain ⟨k, u, r, h1, h2, h3, rfl⟩ := concE_cons h
    simp [concE_len h3]

theorem sound_lenMap (h : Rel P m st w) {A : T Value} {c : Call} (ho : o.op = .call c) (hc : c.callee = .builtin .len) (ha : ∀ x ∈ c.args.toList, conc m (ev A x) = some (ρ x))
    (hl : lenMap P st c.argTypes.toList (c.args.toList.map (ev A)) = some v) : ∃ cv, conc m v = some cv ∧ (execOp ρ o).run P w = .ok (.value cv) w := by
  obtain ⟨callee, args, argTypes⟩ := c
  obtain ⟨args⟩ := args
  obtain ⟨argTypes⟩ := argTypes
  simp only at hc ha hl
  subst hc
  unfold lenMap at hl
  cases args with
  | nil => simp at hl
  | cons x xs =>
    simp only [List.map_cons] at hl
    obtain ⟨hm, h1⟩ := gd_some hl
    obtain ⟨es, hes, h2⟩ := ob_some h1
    cases h2
    have hx := ha x (by simp)
    unfold isMapT at hm
    cases argTypes with
    | nil => cases hm
    | cons t ts =>
      simp only at hm
      obtain ⟨kv, hkv⟩ := Option.isSome_iff_exists.1 hm
      have hu := mapKV_some hkv
      refine ⟨_, conc_int m _ _, ?_⟩
      unfold entriesOf at hes
      split at hes
      · rename_i e
        cases hes
        rw [e] at hx
        have ex : ρ x = .map none := by simpa [conc] using hx.symm
        simp [execOp, ho, resolve, invoke, builtin, Builtin.len_, run_underlying hu, ex, goInt]
      · rename_i r e
        rw [e] at hx
        obtain ⟨es', clock, g1, g2⟩ := mapAt_some hes
        cases g2
        obtain ⟨y, hy, ex⟩ := conc_map_some hx
        obtain ⟨_, ces, g3, g4⟩ := rel_map h hy g1
        have og := run_getObj (P := P) g3 (by intros; simp)
        have := concE_len g4
        simp [execOp, ho, resolve, invoke, builtin, Builtin.len_, run_underlying hu, ex, goInt, og, this]
      · cases hes

end Go.Ev

namespace Go.Ev
set_option linter.unusedSectionVars false
variable [OTab] [OVal]
variable {P : Program} {m : Map} {ρ : Operand → Value} {o : Oper} {v : Value} {st : St} {w : World}

theorem isCell_conc {v cv : Value} (h : conc m v = some cv) (hc : isCell v = true) : isCell cv = true := by
  cases v with
  | agg a => cases hc
  | tuple a => cases hc
  | bool b => rw [conc_bool] at h; cases h; rfl
  | int k n => rw [conc_int] at h; cases h; rfl
  | string s => rw [conc_string] at h; cases h; rfl
  | pointer p => obtain ⟨a, rfl⟩ := conc_ptr_shape h; rfl
  | slice a l c => obtain ⟨_, _, _, rfl⟩ := conc_slice_shape h; rfl
  | map r => obtain ⟨_, rfl⟩ := conc_map_shape h; rfl
  | func f a c => obtain ⟨_, _, _, rfl⟩ := conc_func_shape h; rfl
  | nilFunc => have : cv = .nilFunc := by simpa [conc] using h.symm
               subst this; rfl
  | nilIface => have : cv = .nilIface := by simpa [conc] using h.symm
                subst this; rfl
  | iface t v =>
    simp only [conc, Option.map_eq_some_iff] at h
    obtain ⟨x, hx, rfl⟩ := h
    rfl
  | float k b =>
    have e : cv = OVal.val b := by rw [conc_float] at h; exact (Option.some.inj h).symm
    rcases OVal.shape b with ⟨k', n, e'⟩ | ⟨s, e'⟩ | ⟨a', l', c', e'⟩ <;> rw [e, e'] <;> rfl
  | complex k a b => simp [conc] at h
  | chan r => simp [conc] at h
theorem isCell_concL : ∀ {l l' : List Value}, concL m l = some l' → l.all isCell = true → ∀ v ∈ l', isCell v = true
  | [], _, h, _, v, hv => by simp at h; subst h; simp at hv
  | a :: l, _, h, hc, v, hv => by
    obtain ⟨c, r, h1, h2, rfl⟩ := concL_cons h
    simp only [List.all_cons, Bool.and_eq_true] at hc
    simp at hv
    rcases hv with rfl | hv
    · exact isCell_conc h1 hc.1
    · exact isCell_concL h2 hc.2 v hv

/-- a block of cells: what it is, what is in it, where it is frozen -/
def CellsIn (w : World) (B : Nat) (arr : Array Value) (e : TypeId) (lo hi : Nat) : Prop := w.heap[B]? = some (.cells arr e (lo, hi))

theorem setCell_heap {B i : Nat} {arr : Array Value} {e : TypeId} {lo hi : Nat} {u : Value} (h : CellsIn w B arr e lo hi) :
    CellsIn (w.setCell ⟨B, i, none⟩ u) B (arr.setIfInBounds i u) e lo hi ∧ (∀ B', B' ≠ B → (w.setCell ⟨B, i, none⟩ u).heap[B']? = w.heap[B']?) ∧ (w.setCell ⟨B, i, none⟩ u).heap.size = w.heap.size := by
  unfold CellsIn at *
  refine ⟨?_, fun B' hB => ?_, ?_⟩
  · simp only [World.setCell, Array.getElem?_modify]
    simp [h]
  · simp only [World.setCell, Array.getElem?_modify]
    rw [if_neg (by simpa using Ne.symm hB)]
  · simp [World.setCell]

theorem run_store1 {B i : Nat} {arr : Array Value} {e : TypeId} {lo hi : Nat} {u : Value} (h : CellsIn w B arr e lo hi) (hi' : i < arr.size) (hf : ¬ (lo ≤ i ∧ i < hi)) (hu : isCell u = true) :
    (store ⟨B, i, none⟩ u).run P w = .ok () (w.setCell ⟨B, i, none⟩ u) := by
  have h1 : w.cell? ⟨B, i, none⟩ = some arr[i] := by
    unfold CellsIn at h
    simp [World.cell?, h, hi']
  have h2 : w.frozen? ⟨B, i, none⟩ = false := by
    unfold CellsIn at h
    simp only [World.frozen?, h]
    simp
    omega
  show (Sem.store .plain ⟨B, i, none⟩ u (.pure ())).run P w = _
  cases u with
  | agg a => cases hu
  | tuple a => cases hu
  | _ => simp [Sem.run, h1, h2]

structure Stored (w w' : World) (B off : Nat) (vs : List Value) (arr : Array Value) (e : TypeId) (lo hi : Nat) : Prop where
  other : ∀ B', B' ≠ B → w'.heap[B']? = w.heap[B']?
  size : w'.heap.size = w.heap.size
  os : w'.os = w.os
  tape : w'.tape = w.tape
  output : w'.output = w.output
  here : ∃ arr' : Array Value, CellsIn w' B arr' e lo hi ∧ arr'.size = arr.size ∧ ∀ i : Nat, arr'[i]? = if off ≤ i ∧ i < off + vs.length then vs[i - off]? else arr[i]?

theorem run_storeCells {B off : Nat} {e : TypeId} {lo hi : Nat} : ∀ (vs : List Value) (k : Nat) (w : World) (arr : Array Value), CellsIn w B arr e lo hi → off + k + vs.length ≤ arr.size →
    (∀ i, i < arr.size → ¬ (lo ≤ i ∧ i < hi)) → (∀ v ∈ vs, isCell v = true) → ∃ w', (storeCells ⟨B, off, none⟩ vs k).run P w = .ok () w' ∧ Stored w w' B (off + k) vs arr e lo hi
  | [], k, w, arr, h, _, _, _ => by
    refine ⟨w, by simp [storeCells], ⟨fun _ _ => rfl, rfl, rfl, rfl, rfl, arr, h, rfl, fun i => ?_⟩⟩
    rw [if_neg (by simp)]
  | v :: vs, k, w, arr, h, hl, hf, hc => by
    simp only [List.length_cons] at hl
    have hi : off + k < arr.size := by omega
    have h1 := run_store1 (P := P) h hi (hf _ hi) (hc v (by simp))
    obtain ⟨h2, h3, h4⟩ := setCell_heap (i := off + k) (u := v) h
    obtain ⟨w', h5, h6⟩ := run_storeCells (off := off) vs (k + 1) (w.setCell ⟨B, off + k, none⟩ v) (arr.setIfInBounds (off + k) v) h2 (by simp; omega) (fun i hi' => hf i (by simpa using hi')) (fun u hu => hc u (by simp [hu]))
    refine ⟨w', ?_, ?_⟩
    · simp only [storeCells, Sem.run_bind, add_eq, h1, Result.andThen_ok]
      exact h5
    · obtain ⟨arr', g1, g2, g3⟩ := h6.here
      refine ⟨fun B' hB => (h6.other B' hB).trans (h3 B' hB), h6.size.trans h4, h6.os, h6.tape, h6.output, arr', g1, by simpa using g2, fun i => ?_⟩
      rw [g3 i]
      by_cases e1 : off + (k + 1) ≤ i ∧ i < off + (k + 1) + vs.length
      · rw [if_pos e1, if_pos (by simp; omega)]
        rw [show i - (off + k) = (i - (off + (k + 1))) + 1 from by omega]
        simp
      · rw [if_neg e1]
        by_cases e2 : i = off + k
        · subst e2
          rw [if_pos (by simp)]
          simp [hi]
        · rw [if_neg (by simp; omega), Array.getElem?_setIfInBounds_ne (by omega)]

theorem storeN_sound (h : Rel P m st w) {a : Addr} {x : M} {l l' : List Value} {st' : St} (hx : m a.block = some x) (hl : concL m l = some l') (hc : l.all isCell = true) (hs : storeN st a l = some st') :
    ∃ w', (storeCells ⟨x.blk, x.sh + a.off, none⟩ l').run P w = .ok () w' ∧ Step P m st w m st' w' := by
  unfold storeN at hs
  obtain ⟨_, h1⟩ := gd_some hs
  obtain ⟨n, c, hk, h2⟩ := cellsAt_some h1
  obtain ⟨hle, h3⟩ := gd_some h2
  cases h3
  rw [Bool.and_eq_true] at hle
  have hle' : a.off + l.length ≤ n := Nat.le_of_ble_eq_true hle.1
  obtain ⟨arr, e, lo, hi, g1, g2, g3, g4r, g5, g6⟩ := rel_cells h hx hk
  have g4 := g4r hle.2
  have hlen := concL_len hl
  obtain ⟨w', r1, r2⟩ := run_storeCells (P := P) (off := x.sh + a.off) l' 0 w arr g1 (by omega) g4 (isCell_concL hl hc)
  refine ⟨w', r1, ?_⟩
  exact set_step (vo := some (.cells n (fillT l a.off c))) h hx hk (by simpa [ro] using hle.2) r2.other r2.size r2.os r2.tape r2.output (fun k e' => by
    cases e'
    obtain ⟨arr', q1, q2, q3⟩ := r2.here
    refine ⟨arr', e, lo, hi, q1, by omega, g3, fun _ i hi' => g4 i (by omega), fun i hi' => ?_, fun ht => ⟨fun k t e2 => by
      rw [fillT_get, if_neg (by omega)] at e2
      obtain ⟨t1, t2, t3⟩ := (g6 ht).1 k t e2
      exact ⟨t1, t2, by omega⟩, fun k t e2 => by
      rw [fillT_get, if_neg (by omega)] at e2
      exact (g6 ht).2 k t e2⟩⟩
    rw [fillT_get, q3]
    by_cases e1 : a.off ≤ i ∧ i < a.off + l.length
    · rw [if_pos e1, if_pos (by omega)]
      have hi2 : i - a.off < l.length := by omega
      obtain ⟨cv, q4, q5⟩ := concL_get hl (i - a.off) l[i - a.off] (List.getElem?_eq_getElem hi2)
      refine ⟨l[i - a.off], cv, List.getElem?_eq_getElem hi2, q4, ?_⟩
      rw [show x.sh + i - (x.sh + a.off + 0) = i - a.off from by omega]
      exact q5
    · rw [if_neg e1, if_neg (by omega)]
      exact g5 i hi')

/-- what an operation of class 3 does -/
def GenDoes (P : Program) (m : Map) (st : St) (w : World) (ρ : Operand → Value) (o : Oper) (v : Value) (st' : St) : Prop :=
  ∃ m' w' cv, Step P m st w m' st' w' ∧ conc m' v = some cv ∧ ((execOp ρ o).run P w = .ok (.value cv) w' ∨ ((execOp ρ o).run P w = .ok .skip w' ∧ cv = undef))

theorem conc_undef (m : Map) : conc m undef = some undef := conc_tuple' (concL_nil m)

theorem sound_store (h : Rel P m st w) {t : TypeId} {a x : Operand} {ua ux : Value} {st' : St} (ho : o.op = .store t a x) (ha : conc m ua = some (ρ a)) (hx : conc m ux = some (ρ x))
    (hs : ob (asP ua) (storeAtV P t st ux) = some (v, st')) : GenDoes P m st w ρ o v st' := by
  obtain ⟨ad, h1, h2⟩ := ob_some hs
  have := asP_some h1
  subst this
  obtain ⟨st1, h3, h4⟩ := ob_some h2
  cases h4
  unfold storeV at h3
  obtain ⟨n, hn, h5⟩ := ob_some h3
  obtain ⟨hl, h6⟩ := gd_some h5
  obtain ⟨hc, h7⟩ := gd_some h6
  obtain ⟨y, hy, _, e⟩ := conc_pointer ha
  have hcs := conc_cells hx
  obtain ⟨w', r1, r2⟩ := storeN_sound (P := P) h hy hcs hc h7
  refine ⟨m, w', undef, r2, conc_undef m, .inr ⟨?_, rfl⟩⟩
  have hsz : (ρ x).cells.size = n := by
    have h8 := concL_len hcs
    have h9 : (cellsL ux).length = n := Nat.eq_of_beq_eq_true hl
    have : (ρ x).cells.toList.length = (ρ x).cells.size := by simp
    omega
  simp [execOp, ho, Instr.storeAt, e, Instr.sureAddr, storeVar, run_sz hn, hsz, r1]
end Go.Ev

namespace Go.Ev
set_option linter.unusedSectionVars false
variable [OTab] [OVal]
variable {P : Program} {m : Map} {ρ : Operand → Value} {o : Oper} {v : Value} {st : St} {w : World}

theorem set_obj {b : Nat} {x : M} {k0 k : Blk} {obj0 obj : Obj} (h : Rel P m st w) (hb : m b = some x) (hk0 : st.mem.get b = some k0) (hro : ro k0 = false)
    (_hw : w.heap[x.blk]? = some obj0) (hr : ∀ w' : World, w'.heap[x.blk]? = some obj → BlkRel m k x w') : Step P m st w m (st.setB b k) { w with heap := w.heap.setIfInBounds x.blk obj } := by
  have hlt : x.blk < w.heap.size := h.inb b x hb
  refine set_step (vo := some k) h hb hk0 hro (fun B hB => ?_) (by simp) rfl rfl rfl (fun q e => ?_)
  · simp [Array.getElem?_setIfInBounds_ne (Ne.symm hB)]
  · cases e
    refine hr _ ?_
    simp [Array.getElem?_setIfInBounds_self_of_lt hlt]

theorem concE_modify {k ck u cu : Value} (hk : conc m k = some ck) (hu : conc m u = some cu) : ∀ (es ces : List MapEntry) (i : Nat), concE m es = some ces →
    concE m (es.modify i fun e => { e with key := k, val := u }) = some (ces.modify i fun e => { e with key := ck, val := cu })
  | [], _, i, h => by simp [concE] at h; subst h; simp [concE]
  | e :: es, _, i, h => by
    obtain ⟨a, b, r, h1, h2, h3, rfl⟩ := concE_cons h
    cases i with
    | zero => simp [concE, hk, hu, h3]
    | succ i => simp [concE, h1, h2, concE_modify hk hu es r i h3]
theorem concE_append : ∀ {es ces fs cfs : List MapEntry}, concE m es = some ces → concE m fs = some cfs → concE m (es ++ fs) = some (ces ++ cfs)
  | [], _, _, _, h, h' => by simp [concE] at h; subst h; simpa using h'
  | e :: es, _, _, _, h, h' => by
    obtain ⟨a, b, r, h1, h2, h3, rfl⟩ := concE_cons h
    simp [concE, h1, h2, concE_append h3 h']
theorem concE_erase : ∀ {es ces : List MapEntry} (i : Nat), concE m es = some ces → concE m (es.eraseIdx i) = some (ces.eraseIdx i)
  | [], _, i, h => by simp [concE] at h; subst h; simp [concE]
  | e :: es, _, i, h => by
    obtain ⟨a, b, r, h1, h2, h3, rfl⟩ := concE_cons h
    cases i with
    | zero => simpa using h3
    | succ i => simp [concE, h1, h2, concE_erase i h3]
theorem concE_get : ∀ {es ces : List MapEntry} {i : Nat} {e : MapEntry}, concE m es = some ces → es[i]? = some e → ∃ k u, conc m e.key = some k ∧ conc m e.val = some u ∧ ces[i]? = some { key := k, val := u, born := e.born }
  | [], _, _, _, _, h => by simp at h
  | a :: es, _, i, e, hc, h => by
    obtain ⟨k, u, r, h1, h2, h3, rfl⟩ := concE_cons hc
    cases i with
    | zero => simp at h; subst h; exact ⟨k, u, h1, h2, by simp⟩
    | succ i => obtain ⟨k', u', g1, g2, g3⟩ := concE_get h3 (by simpa using h); exact ⟨k', u', g1, g2, by simpa using g3⟩

theorem eqS_true {k k' : Value} (hk : (∃ q n, k = .int q n) ∨ (∃ s, k = .string s) ∨ (∃ b, k = .bool b)) (h : eqS k k' = some true) : k' = k ∧ Instr.sameBits 10000 k' k = true := by
  rcases hk with ⟨q, n, rfl⟩ | ⟨s, rfl⟩ | ⟨b, rfl⟩
  · cases k' with
    | int q' n' =>
      simp only [eqS] at h
      split at h
      · rename_i e
        subst e
        have h' := Option.some.inj h
        rw [eqI_eq] at h'
        have : n = n' := by simpa using h'
        subst this
        exact ⟨rfl, by simp [Instr.sameBits]⟩
      · cases h
    | _ => simp [eqS] at h
  · cases k' with
    | string s' =>
      simp only [eqS] at h
      have h' := Option.some.inj h
      have h2 : s.data.toList = s'.data.toList := by simpa using h'
      have : s = s' := by
        obtain ⟨⟨a⟩⟩ := s
        obtain ⟨⟨b⟩⟩ := s'
        simp at h2
        subst h2
        rfl
      subst this
      exact ⟨rfl, by simp only [Instr.sameBits]; rw [← data_beq]; simp⟩
    | _ => simp [eqS] at h
  · cases k' with
    | bool s' =>
      simp only [eqS] at h
      have h' := Option.some.inj h
      have : b = s' := by simpa using h'
      subst this
      exact ⟨rfl, by simp [Instr.sameBits]⟩
    | _ => simp [eqS] at h

theorem updV_sound (h : Rel P m st w) {t : TypeId} {um uk uv cm ck cv : Value} {st' : St} (hm : conc m um = some cm) (hk : conc m uk = some ck) (hv : conc m uv = some cv) (hs : updV P st t um uk uv = some st') :
    ∃ w', Step P m st w m st' w' ∧ (Instr.mapUpdate t cm ck cv).run P w = .ok () w' := by
  unfold updV at hs
  obtain ⟨kv, hkv, h1⟩ := ob_some hs
  obtain ⟨hd, h2⟩ := gd_some h1
  obtain ⟨ek, d, hu, hkd⟩ := keyDesc_some hd hk
  subst ek
  have hum := mapKV_some hkv
  split at h2
  · rename_i r
    obtain ⟨es, clock, g1, h3⟩ := mapAt_some h2
    obtain ⟨f, hf, h4⟩ := ob_some h3
    obtain ⟨x, hx, rfl⟩ := conc_map_some hm
    obtain ⟨x0, ces, g3, g4⟩ := rel_map h hx g1
    obtain ⟨cr, hfn, hcr⟩ := findM_sound hk hkd es ces 0 f g4 hf
    have hrun := run_findKey (P := P) hu hfn w
    have hchk := run_checkKey (P := P) (e := false) hu hkd w
    have og := run_getObj (P := P) g3 (by intros; simp)
    have os := fun ob' => run_setObj (P := P) (ob' := ob') g3 (by intros; simp)
    rcases hcr with ⟨rfl, rfl⟩ | ⟨j, u, cu, rfl, rfl, _, _, hj, ke, hke, heq⟩
    · simp only at h4
      cases h4
      refine ⟨_, set_obj h hx g1 rfl g3 (obj := .map ⟨ces ++ [{ key := ck, val := cv, born := clock }]⟩ (clock + 1)) (fun w' hw => ⟨x0, _, hw, concE_append g4 (by simp [concE, hk, hv])⟩), ?_⟩
      simp [Instr.mapUpdate, run_underlying hum, og, hchk, hrun, os]
    · simp only at h4
      cases h4
      have hke' : es[j]? = some ke := by simpa using hke
      obtain ⟨kk, uu, q1, q2, q3⟩ := concE_get g4 hke'
      have hkshape : (∃ q n, ck = .int q n) ∨ (∃ s, ck = .string s) ∨ (∃ b, ck = .bool b) := by
        rcases hkd with ⟨_, q, n, _, e⟩ | ⟨s, _, e⟩ | ⟨b, _, e⟩
        · exact .inl ⟨q, n, e⟩
        · exact .inr (.inl ⟨s, e⟩)
        · exact .inr (.inr ⟨b, e⟩)
      obtain ⟨ekk, hsb⟩ := eqS_true hkshape (eqS_conc hk q1 heq)
      subst ekk
      refine ⟨_, set_obj h hx g1 rfl g3 (obj := .map ⟨ces.modify j fun e => { e with key := kk, val := cv }⟩ clock) (fun w' hw => ⟨x0, _, hw, concE_modify hk hv es ces j g4⟩), ?_⟩
      simp [Instr.mapUpdate, run_underlying hum, og, hchk, hrun, q3, Instr.keyThatStays, hsb, os]
  · cases h2

theorem sound_upd (h : Rel P m st w) {t : TypeId} {mo ko xo : Operand} {um uk uv : Value} {st' : St} (ho : o.op = .mapUpdate t mo ko xo ∨ o.op = .insert t mo ko xo) (hm : conc m um = some (ρ mo)) (hk : conc m uk = some (ρ ko)) (hv : conc m uv = some (ρ xo))
    (hs : retU (updV P st t um uk uv) = some (v, st')) : GenDoes P m st w ρ o v st' := by
  obtain ⟨st1, h1, h2⟩ := ob_some hs
  cases h2
  obtain ⟨w', r1, r2⟩ := updV_sound h hm hk hv h1
  exact ⟨m, w', undef, r1, conc_undef m, .inr ⟨by rcases ho with ho | ho <;> simp [execOp, ho, r2], rfl⟩⟩

theorem sound_delete (h : Rel P m st w) {A : T Value} {c : Call} {st' : St} (ho : o.op = .call c) (hc : c.callee = .builtin .delete) (ha : ∀ x ∈ c.args.toList, conc m (ev A x) = some (ρ x))
    (hs : delV P st c.argTypes.toList (c.args.toList.map (ev A)) = some (v, st')) : GenDoes P m st w ρ o v st' := by
  obtain ⟨callee, args, argTypes⟩ := c
  obtain ⟨args⟩ := args
  obtain ⟨argTypes⟩ := argTypes
  simp only at hc ha hs
  subst hc
  unfold delV at hs
  cases argTypes with
  | nil => simp at hs
  | cons t ts =>
    match args, ha, hs with
    | [], _, hs => simp at hs
    | [_], _, hs => simp at hs
    | a :: b :: rest, ha, hs =>
      simp only [List.map_cons] at hs
      obtain ⟨kv, hkv, h1⟩ := ob_some hs
      obtain ⟨hd, h2⟩ := gd_some h1
      have hb := ha b (by simp)
      have hav := ha a (by simp)
      obtain ⟨ek, d, hu, hkd⟩ := keyDesc_some hd hb
      have hkc : conc m (ev A b) = some (ev A b) := by rw [← ek]; exact ek ▸ hb
      have hum := mapKV_some hkv
      have hchk := fun e => run_checkKey (P := P) (e := e) hu hkd w
      have hn : (Value.tuple #[] : Value) = undef := rfl
      split at h2
      · rename_i e
        cases h2
        rw [e] at hav
        have ex : ρ a = .map none := by simpa [conc] using hav.symm
        refine ⟨m, w, undef, Step.refl h, conc_undef m, .inl ?_⟩
        simp [execOp, ho, resolve, invoke, builtin, Builtin.delete_, run_underlying hum, ex, ek, hchk, hn]
      · rename_i r e
        rw [e] at hav
        obtain ⟨es, clock, g1, h3⟩ := mapAt_some h2
        obtain ⟨f, hf, h4⟩ := ob_some h3
        obtain ⟨x, hx, ex⟩ := conc_map_some hav
        obtain ⟨x0, ces, g3, g4⟩ := rel_map h hx g1
        obtain ⟨cr, hfn, hcr⟩ := findM_sound hkc hkd es ces 0 f g4 hf
        have hrun := run_findKey (P := P) hu hfn w
        have og := run_getObj (P := P) g3 (by intros; simp)
        have os := fun ob' => run_setObj (P := P) (ob' := ob') g3 (by intros; simp)
        rcases hcr with ⟨rfl, rfl⟩ | ⟨j, u, cu, rfl, rfl, _, _, hj, ke, hke, heq⟩
        · simp only at h4
          cases h4
          refine ⟨m, _, undef, set_obj h hx g1 rfl g3 (obj := .map ⟨ces⟩ clock) (fun w' hw => ⟨x0, _, hw, g4⟩), conc_undef m, .inl ?_⟩
          simp [execOp, ho, resolve, invoke, builtin, Builtin.delete_, run_underlying hum, ex, ek, hchk, og, hrun, os, hn]
        · simp only at h4
          cases h4
          have hlt : j < ces.length := by have := concE_len g4; omega
          refine ⟨m, _, undef, set_obj h hx g1 rfl g3 (obj := .map ⟨ces.eraseIdx j⟩ clock) (fun w' hw => ⟨x0, _, hw, concE_erase j g4⟩), conc_undef m, .inl ?_⟩
          simp [execOp, ho, resolve, invoke, builtin, Builtin.delete_, run_underlying hum, ex, ek, hchk, og, hrun, os, hn]
      · cases h2

/-- one new block, by an operation of class 3 -/
theorem gen_push {k : Blk} {obj : Obj} {lim : Nat} (h : Rel P m st w) {u : Value} {f : Nat → Value} (hn : m st.nxt = none)
    (hv : ∀ m' : Map, Sub m m' → m' st.nxt = some ⟨w.heap.size, 0, lim⟩ → conc m' u = some (f w.heap.size) ∧ ∀ w' : World, w'.heap[w.heap.size]? = some obj → BlkRel m' k ⟨w.heap.size, 0, lim⟩ w')
    {w' : World} (hw : w'.heap = w.heap.push obj) (hos : w'.os = w.os) (ht : w'.tape = w.tape) (hu : w'.output = w.output)
    (hrun : (execOp ρ o).run P w = .ok (.value (f w.heap.size)) w') : GenDoes P m st w ρ o u (st.push k) := by
  obtain ⟨h1, h2⟩ := hv (upd m st.nxt ⟨w.heap.size, 0, lim⟩) (sub_upd _ hn) (upd_same _ _ _)
  exact ⟨_, w', f w.heap.size, push_step (o := obj) h hn hw hos ht hu (h2 w' (by rw [hw]; simp)), h1, .inl hrun⟩

theorem sound_range (h : Rel P m st w) {t : TypeId} {x : Operand} {u : Value} {st' : St} (hf : Free m st.nxt st'.nxt) (ho : o.op = .range t x) (hx : conc m u = some (ρ x)) (hs : rangeV P st t u = some (v, st')) : GenDoes P m st w ρ o v st' := by
  unfold rangeV at hs
  split at hs
  · rename_i kv hkv
    cases hs
    have hum := mapKV_some hkv
    have ex : ρ x = .map none := by simpa [conc] using hx.symm
    refine gen_push (lim := 0) (obj := .mapIter none 0 #[] 0) (f := fun B => .pointer (some ⟨B, 0, none⟩)) h (hf _ (Nat.le_refl _) (Nat.lt_succ_self _)) (fun m' hs hb => ⟨?_, fun w' hw => ⟨rfl, none, hw, rfl⟩⟩) (w' := w.alloc (.mapIter none 0 #[] 0)) rfl rfl rfl rfl ?_
    · simp [conc, hb]
    · simp [execOp, ho, Instr.range, run_underlying hum, ex]
  · rename_i kv r hkv
    obtain ⟨es, clock, g1, h3⟩ := mapAt_some hs
    cases h3
    have hum := mapKV_some hkv
    obtain ⟨y, hy, ex⟩ := conc_map_some hx
    obtain ⟨x0, ces, g3, g4⟩ := rel_map h hy g1
    have og := run_getObj (P := P) g3 (by intros; simp)
    refine gen_push (lim := 0) (obj := .mapIter (some y.blk) clock #[] clock) (f := fun B => .pointer (some ⟨B, 0, none⟩)) h (hf _ (Nat.le_refl _) (Nat.lt_succ_self _)) (fun m' hs hb => ⟨?_, fun w' hw => ⟨rfl, some y.blk, hw, by simp [iterOf, hs _ _ hy]⟩⟩) (w' := w.alloc (.mapIter (some y.blk) clock #[] clock)) rfl rfl rfl rfl ?_
    · simp [conc, hb]
    · simp [execOp, ho, Instr.range, run_underlying hum, ex, og]
  · cases hs

theorem concE_filter {p : MapEntry → Bool} (hp : ∀ e e' : MapEntry, e.born = e'.born → p e = p e') : ∀ {es ces : List MapEntry}, concE m es = some ces → concE m (es.filter p) = some (ces.filter p)
  | [], _, h => by simp [concE] at h; subst h; simp [concE]
  | e :: es, _, h => by
    obtain ⟨a, b, r, h1, h2, h3, rfl⟩ := concE_cons h
    have hpe : p { key := a, val := b, born := e.born } = p e := hp _ _ rfl
    by_cases hh : p e
    · rw [List.filter_cons_of_pos hh, List.filter_cons_of_pos (by rw [hpe]; exact hh)]
      simp [concE, h1, h2, concE_filter hp h3]
    · rw [List.filter_cons_of_neg hh, List.filter_cons_of_neg (by rw [hpe]; exact hh)]
      exact concE_filter hp h3
theorem concE_all {p : MapEntry → Bool} (hp : ∀ e e' : MapEntry, e.born = e'.born → p e = p e') : ∀ {es ces : List MapEntry}, concE m es = some ces → ces.all p = es.all p
  | [], _, h => by simp [concE] at h; subst h; rfl
  | e :: es, _, h => by
    obtain ⟨a, b, r, h1, h2, h3, rfl⟩ := concE_cons h
    have hpe : p { key := a, val := b, born := e.born } = p e := hp _ _ rfl
    simp [hpe, concE_all hp h3]

theorem sound_next (h : Rel P m st w) {it : Operand} {s : Bool} {u : Value} {st' : St} (ho : o.op = .next it s) (hx : conc m u = some (ρ it)) (hs : nextV st u s = some (v, st')) : GenDoes P m st w ρ o v st' := by
  unfold nextV at hs
  split at hs
  · cases hs
  · rename_i hst
    have hst' : s = false := by simpa using hst
    subst hst'
    split at hs
    · rename_i r
      obtain ⟨b, hb, h1⟩ := ob_some hs
      obtain ⟨x, hx1, _, ex⟩ := conc_pointer hx
      simp only [Nat.add_zero] at ex
      split at h1
      · cases h1
        obtain ⟨x0, cmp, g1, g2⟩ := rel_iter h hx1 hb
        simp [iterOf] at g2
        subst g2
        have o1 := run_getObj (P := P) g1 (by intros; simp)
        rw [x0] at ex
        refine ⟨m, w, .tuple ⟨[.bool false]⟩, Step.refl h, conc_tuple' (concL_cons' (conc_bool m _) (concL_nil m)), .inl ?_⟩
        simp [execOp, ho, Instr.next, ex, o1]
      · rename_i mp since seen last
        obtain ⟨x0, cmp, g1, g2⟩ := rel_iter h hx1 hb
        obtain ⟨es, clock, hm, h3⟩ := mapAt_some h1
        simp only [iterOf, Option.map_eq_some_iff] at g2
        obtain ⟨y, hy, rfl⟩ := g2
        obtain ⟨_, ces, g3, g4⟩ := rel_map h hy hm
        have o1 := run_getObj (P := P) g1 (by intros; simp)
        have o2 := run_getObj (P := P) g3 (by intros; simp)
        rw [x0] at ex
        unfold nextM at h3
        split at h3
        · cases h3
        · rename_i hgone
          have hlen := concE_len g4
          have hempty : ces.isEmpty = es.isEmpty := by cases ces <;> cases es <;> simp_all
          have hall := concE_all (p := fun e => decide (e.born ≥ last)) (fun e e' he => by simp [he]) g4
          have hgone' : (!(Array.mk seen).isEmpty && !(Array.mk ces).isEmpty && (Array.mk ces).all fun e => decide (e.born ≥ last)) = false := by
            have e1 : (Array.mk seen).isEmpty = seen.isEmpty := by cases seen <;> rfl
            have e2 : (Array.mk ces).isEmpty = ces.isEmpty := by cases ces <;> rfl
            have e3 : ((Array.mk ces).all fun e => decide (e.born ≥ last)) = ces.all fun e => decide (e.born ≥ last) := by simp
            rw [e1, e2, e3, hempty, hall]
            simpa using hgone
          have hfil := concE_filter (p := fun e => !seen.contains e.born) (fun e e' he => by simp [he]) g4
          have hfilA : (Array.mk ces).filter (fun e => !(Array.mk seen).contains e.born) = ⟨ces.filter fun e => !seen.contains e.born⟩ := by
            apply Array.ext'; simp
          split at h3
          · rename_i hf
            cases h3
            rw [hf] at hfil
            have hcf : ces.filter (fun e => !seen.contains e.born) = [] := by simpa [concE] using hfil.symm
            rw [hcf] at hfilA
            refine ⟨m, w, .tuple ⟨[.bool false]⟩, Step.refl h, conc_tuple' (concL_cons' (conc_bool m _) (concL_nil m)), .inl ?_⟩
            simp only [execOp, ho, Instr.next, ex, Sem.run_bind, o1, Result.andThen_ok, o2, hgone', hfilA]
            simp [choose, Sem.run, Question.forced]
          · rename_i e hf
            split at h3
            · rename_i hborn
              cases h3
              rw [hf] at hfil
              obtain ⟨ck, cu, r', q1, q2, q3, q4⟩ := concE_cons hfil
              simp [concE] at q3
              subst q3
              rw [q4] at hfilA
              refine ⟨m, _, .tuple ⟨[.bool true, ck, cu]⟩, set_obj h hx1 hb rfl g1 (obj := .mapIter (some y.blk) since ⟨seen ++ [e.born]⟩ clock) (fun w' hw => ⟨x0, some y.blk, hw, by simp [iterOf, hy]⟩),
                conc_tuple' (concL_cons' (conc_bool m _) (concL_cons' q1 (concL_cons' q2 (concL_nil m)))), .inl ?_⟩
              have os := fun ob' => run_setObj (P := P) (ob' := ob') g1 (by intros; simp)
              have hnb : ¬ (e.born ≥ since) := by omega
              simp only [execOp, ho, Instr.next, ex, Sem.run_bind, o1, Result.andThen_ok, o2, hgone', hfilA]
              simp [choose, Sem.run, Question.forced, hborn, hnb, os]
            · cases h3
          · cases h3
      · cases h1
    · cases hs
end Go.Ev

namespace Go.Ev
set_option linter.unusedSectionVars false
variable [OTab] [OVal]
variable {P : Program} {m : Map} {ρ : Operand → Value} {o : Oper} {v : Value} {st : St} {w : World}

/-- the capacity of a slice on the other side -/
def capC (x : M) (off code : Nat) : Nat := if code % 2 = 1 then code / 2 else (x.lim - off) / (code / 2)

theorem conc_slice {a : Addr} {len code : Nat} {c : Value} (hs : a.spot.isNone = true) (h : conc m (.slice (some a) len code) = some c) : ∃ x, m a.block = some x ∧ a = ⟨a.block, a.off, none⟩ ∧ c = .slice (some ⟨x.blk, x.sh + a.off, none⟩) len (capC x a.off code) := by
  obtain ⟨b, off, s⟩ := a
  cases s with
  | some s => cases hs
  | none =>
    simp only [conc, Option.map_eq_some_iff] at h
    obtain ⟨x, hx, rfl⟩ := h
    exact ⟨x, hx, rfl, rfl⟩
/-- a slice that begins at the known end of its block -/
theorem conc_sliceEnd {b off back len code : Nat} {c : Value} (h : conc m (.slice (some ⟨b, off, some back⟩) len code) = some c) : len = 0 ∧ code % 2 = 0 ∧ ∃ x, m b = some x ∧
    c = .slice (some ⟨x.blk, x.sh + (if capC x off code = 0 then off - back else off), none⟩) 0 (capC x off code) := by
  cases len with
  | succ len => simp [conc] at h
  | zero =>
    simp only [conc] at h
    split at h
    · cases h
    · rename_i hc
      simp only [Option.map_eq_some_iff] at h
      obtain ⟨x, hx, e⟩ := h
      refine ⟨rfl, by omega, x, hx, ?_⟩
      unfold capC
      rw [if_neg hc]
      split at e
      · rename_i h0; rw [if_pos h0, h0]; exact e.symm
      · rename_i h0; rw [if_neg h0]; exact e.symm
theorem conc_slice' {b off len code : Nat} {x : M} (h : m b = some x) : conc m (.slice (some ⟨b, off, none⟩) len code) = some (.slice (some ⟨x.blk, x.sh + off, none⟩) len (capC x off code)) := by
  simp [conc, h, capC]

/-- what is known of the capacity is no more than it is -/
theorem capOf_some (h : Rel P m st w) {a : Addr} {code cap : Nat} {x : M} (hx : m a.block = some x) (hc : capOf st a code = some cap) : cap ≤ capC x a.off code ∧ (code % 2 = 1 → cap = capC x a.off code) := by
  unfold capOf at hc
  unfold capC
  split at hc
  · rename_i h1
    cases hc
    rw [if_pos h1]
    exact ⟨Nat.le_refl _, fun _ => rfl⟩
  · rename_i h1
    rw [if_neg h1]
    split at hc
    · cases hc
    · obtain ⟨n, c, hk, h2⟩ := cellsAt_some hc
      cases h2
      obtain ⟨_, _, _, _, _, _, g3, _⟩ := rel_cells h hx hk
      exact ⟨Nat.div_le_div_right (by omega), fun e => absurd e h1⟩

theorem stride_some {e : TypeId} {code size : Nat} (h : strideOk P e code = true) (hs : sz P e = some size) : code % 2 = 1 ∨ (code % 2 = 0 ∧ code = 2 * size) := by
  unfold strideOk at h
  rw [Bool.or_eq_true] at h
  rcases h with h | h
  · exact .inl (by simpa using h)
  · rw [hs] at h
    have : size = code / 2 := by simpa using h
    rcases Nat.mod_two_eq_zero_or_one code with e | e
    · exact .inr ⟨e, by omega⟩
    · exact .inl e

theorem sound_slice (h : Rel P m st w) {A : T Value} {t : TypeId} {x : Operand} {lo hi mx : Option Operand} {u : Value} (ho : o.op = .slice t x lo hi mx) (hx : conc m u = some (ρ x))
    (hlo : ∀ y, lo = some y → conc m (ev A y) = some (ρ y)) (hhi : ∀ y, hi = some y → conc m (ev A y) = some (ρ y)) (hmx : ∀ y, mx = some y → conc m (ev A y) = some (ρ y))
    (hs : sliceV P st t u (lo.map (ev A)) (hi.map (ev A)) (mx.map (ev A)) = some v) : ∃ cv, conc m v = some cv ∧ (execOp ρ o).run P w = .ok (.value cv) w := by
  unfold sliceV at hs
  obtain ⟨la, h1, s1⟩ := ob_some hs
  obtain ⟨ha, h2, s2⟩ := ob_some s1
  obtain ⟨ma, h3, s3⟩ := ob_some s2
  clear hs s1 s2
  have rlo := optInt_rel hlo h1
  have rhi := optInt_rel hhi h2
  have rmx := optInt_rel hmx h3
  have hms : ma.isSome = (mx.map ρ).isSome := by
    cases ma <;> cases hq : mx.map ρ <;> simp_all [OptRel]
  split at s3
  · -- a slice
    rename_i e a len code hu
    obtain ⟨hst, s4⟩ := gd_some s3
    obtain ⟨size, hsz, s5⟩ := ob_some s4
    obtain ⟨cap, hcap, s6⟩ := ob_some s5
    obtain ⟨r, hr, s7⟩ := ob_some s6
    clear s3 s4 s5 s6
    rw [Bool.and_eq_true] at hst
    obtain ⟨hsp, hst⟩ := hst
    obtain ⟨y, hy, ea, ex⟩ := conc_slice hsp hx
    obtain ⟨hc1, hc2⟩ := capOf_some h hy hcap
    unfold sliceAtV at s7
    obtain ⟨r1, r2, r3⟩ := r
    obtain ⟨b, off, sp⟩ := a
    cases ea
    simp only at hy ex hc1 hc2 s7
    -- the bounds on the other side: its capacity may be greater
    have hrun : ∃ r3', (Instr.sliceBounds true len (capC y off code) (lo.map ρ) (hi.map ρ) (mx.map ρ)).run P w = .ok (r1, r2, r3') w ∧ ((ma.isSome = true ∨ code % 2 = 1) → r3' = r3) ∧ (ma.isSome = false → r3 = cap ∧ r3' = capC y off code) := by
      by_cases hex : ma.isSome = true ∨ code % 2 = 1
      · have hb : boundsOf len (capC y off code) la ha ma = some (r1, r2, r3) := by
          rcases hex with hex | hex
          · cases ma with
            | none => cases hex
            | some q =>
              unfold boundsOf at hr ⊢
              obtain ⟨m', q1, q2⟩ := ob_some hr
              have : boundsM (capC y off code) (some q) = some m' := by
                simp only [boundsM, bound1] at q1 ⊢
                split at q1
                · cases q1
                · rename_i hq0
                  split at q1
                  · rename_i hq1
                    cases q1
                    rw [if_neg hq0, if_pos]
                    exact Nat.ble_eq_true_of_le (Nat.le_trans (Nat.le_of_ble_eq_true hq1) hc1)
                  · cases q1
              rw [this]
              exact q2
          · rw [← hc2 hex]; exact hr
        refine ⟨r3, bounds_run hb rlo rhi rmx w, fun _ => rfl, fun hn => ?_⟩
        cases ma with
        | some q => cases hn
        | none =>
          rcases hex with hex | hex
          · cases hex
          · unfold boundsOf at hr
            obtain ⟨m', q1, q2⟩ := ob_some hr
            simp [boundsM] at q1
            subst q1
            obtain ⟨h', q3, q4⟩ := ob_some q2
            obtain ⟨l', q5, q6⟩ := ob_some q4
            cases q6
            exact ⟨rfl, hc2 hex⟩
      · have hn : ma = none := by cases ma with | none => rfl | some q => exact absurd (Or.inl rfl) hex
        subst hn
        unfold boundsOf at hr
        obtain ⟨m', q1, q2⟩ := ob_some hr
        simp [boundsM] at q1
        subst q1
        obtain ⟨h', q3, q4⟩ := ob_some q2
        obtain ⟨l', q5, q6⟩ := ob_some q4
        cases q6
        have hb : boundsOf len (capC y off code) la ha none = some (r1, r2, capC y off code) := by
          unfold boundsOf
          simp only [boundsM]
          show (ob (boundsH len (capC y off code) ha none) fun h => ob (boundsL h la) fun l => some (l, h, capC y off code)) = _
          have : boundsH len (capC y off code) ha none = some r2 := by
            cases ha with
            | none => exact q3
            | some q =>
              simp only [boundsH, bound1] at q3 ⊢
              split at q3
              · cases q3
              · rename_i hq0
                split at q3
                · rename_i hq1
                  cases q3
                  rw [if_neg hq0, if_pos]
                  exact Nat.ble_eq_true_of_le (Nat.le_trans (Nat.le_of_ble_eq_true hq1) hc1)
                · cases q3
          rw [this]
          show (ob (boundsL r2 la) fun l => some (l, r2, capC y off code)) = _
          rw [q5]
          rfl
        exact ⟨capC y off code, bounds_run hb rlo rhi rmx w, fun hh => absurd hh hex, fun _ => ⟨rfl, rfl⟩⟩
    obtain ⟨r3', hrun, hr3, hr3n⟩ := hrun
    have hexec : (execOp ρ o).run P w = .ok (.value (.slice (some (if r3' = r1 then ⟨y.blk, y.sh + off, none⟩ else ⟨y.blk, y.sh + off + r1 * size, none⟩)) (r2 - r1) (r3' - r1))) w := by
      simp only [execOp, ho, Instr.sliceAt, Sem.run_bind, run_underlying hu, Result.andThen_ok, Instr.slice, ex, hrun, run_sz hsz]
      by_cases hq : r3' = r1
      · simp [hq]
      · simp [hq, add_eq]
    split at s7
    · -- its capacity is known
      rename_i hex
      have hex' : ma.isSome = true ∨ code % 2 = 1 := by simpa using hex
      cases s7
      have e3 := hr3 hex'
      subst e3
      refine ⟨_, ?_, hexec⟩
      unfold addrAt
      have g1 : (2 * (r3' - r1) + 1) % 2 = 1 := by omega
      have g2 : (2 * (r3' - r1) + 1) / 2 = r3' - r1 := by omega
      by_cases hq : r3' = r1
      · have hq' : (r3' == r1) = true := by simp [hq]
        rw [if_pos hq', if_pos hq, conc_slice' hy]
        simp [capC, g1, g2]
      · have hq' : ¬ ((r3' == r1) = true) := by simp [hq]
        rw [if_neg hq', if_neg hq, add_eq, conc_slice' hy]
        simp [capC, g1, g2, Nat.add_assoc]
    · rename_i hex
      simp only [Bool.or_eq_true, not_or] at hex
      have hn : ma.isSome = false := by simpa using hex.1
      have hev : code % 2 ≠ 1 := by simpa using hex.2
      obtain ⟨e1, e2⟩ := hr3n hn
      rcases stride_some hst hsz with hodd | ⟨h0, hcode⟩
      · exact absurd hodd hev
      have hsz0 : 0 < size := by
        rcases Nat.eq_zero_or_pos size with e | e
        · subst e
          unfold capOf at hcap
          rw [if_neg hev, if_pos (by omega)] at hcap
          cases hcap
        · exact e
      have hcap' : capC y off code = (y.lim - off) / size := by unfold capC; rw [if_neg hev, hcode]; congr 1; omega
      split at s7
      · -- it still reaches into what is known
        rename_i hlt
        cases s7
        have hne : r3' = r1 → r1 = 0 := fun e => by
          simp only [Bool.or_eq_true, decide_eq_true_eq] at hlt
          rcases hlt with hlt | hlt
          · omega
          · exact hlt
        refine ⟨_, ?_, hexec⟩
        rw [add_eq, conc_slice' hy]
        have hcc : capC y (off + r1 * size) code = r3' - r1 := by
          unfold capC
          rw [if_neg hev, hcode, e2, hcap', show 2 * size / 2 = size from by omega, Nat.sub_add_eq]
          rw [Nat.mul_comm r1 size]
          exact Nat.sub_mul_div _ _ _
        rw [hcc]
        by_cases hq : r3' = r1
        · have := hne hq
          rw [if_pos hq, this]
          simp
        · rw [if_neg hq]
          simp [Nat.add_assoc]
      · -- it begins at the known end
        rename_i hlt
        obtain ⟨hbb, s9⟩ := gd_some s7
        cases s9
        rw [Bool.and_eq_true] at hbb
        have hr1 : r1 = cap := Nat.eq_of_beq_eq_true hbb.1
        have hr2 : r2 = cap := Nat.eq_of_beq_eq_true hbb.2
        refine ⟨_, ?_, hexec⟩
        have hcc : (y.lim - (off + r1 * size)) / (code / 2) = r3' - r1 := by
          rw [e2, hcap', hcode, show 2 * size / 2 = size from by omega, Nat.sub_add_eq, Nat.mul_comm r1 size]
          exact Nat.sub_mul_div _ _ _
        have hle : r1 ≤ r3' := by omega
        simp only [conc, if_neg hev, hy, Option.map_some, hcc]
        have hsub : r2 - r1 = 0 := by omega
        rw [hsub]
        by_cases hq : r3' = r1
        · rw [if_pos (by omega), if_pos hq, hq]
          simp
        · rw [if_neg (by omega), if_neg hq]
          simp [Nat.add_assoc]
  · -- nil
    rename_i e hu
    obtain ⟨size, hsz, s4⟩ := ob_some s3
    obtain ⟨r, hr, s5⟩ := ob_some s4
    cases s5
    have ex : ρ x = .slice none 0 0 := by simpa [conc] using hx.symm
    have hb := bounds_run (P := P) (b := true) hr rlo rhi rmx w
    obtain ⟨q1, q2, q3⟩ := bounds_le hr (Nat.le_refl 0)
    obtain ⟨r1, r2, r3⟩ := r
    simp only at q1 q2 q3
    refine ⟨.slice none 0 0, by simp [conc], ?_⟩
    have e1 : r1 = 0 := by omega
    have e2 : r2 = 0 := by omega
    have e3 : r3 = 0 := by omega
    subst e1 e2 e3
    simp [execOp, ho, Instr.sliceAt, Instr.slice, run_underlying hu, ex, hb, run_sz hsz]
  · -- an array behind a pointer
    rename_i n e a hu
    obtain ⟨size, hsz, s4⟩ := ob_some s3
    obtain ⟨r, hr, s5⟩ := ob_some s4
    cases s5
    obtain ⟨y, hy, hsp, ex⟩ := conc_pointer hx
    obtain ⟨b, off, sp⟩ := a
    simp only at hsp
    subst hsp
    have hb := bounds_run (P := P) (b := false) hr rlo rhi rmx w
    obtain ⟨r1, r2, r3⟩ := r
    refine ⟨.slice (some (if r3 = r1 then ⟨y.blk, y.sh + off, none⟩ else ⟨y.blk, y.sh + off + r1 * size, none⟩)) (r2 - r1) (r3 - r1), ?_, ?_⟩
    · unfold addrAt
      have g1 : (2 * (r3 - r1) + 1) % 2 = 1 := by omega
      have g2 : (2 * (r3 - r1) + 1) / 2 = r3 - r1 := by omega
      by_cases hq : r3 = r1
      · have hq' : (r3 == r1) = true := by simp [hq]
        simp only
        rw [if_pos hq', if_pos hq, conc_slice' hy]
        simp [capC, g1, g2]
      · have hq' : ¬ ((r3 == r1) = true) := by simp [hq]
        simp only
        rw [if_neg hq', if_neg hq, add_eq, conc_slice' hy]
        simp [capC, g1, g2, Nat.add_assoc]
    · simp only [execOp, ho, Instr.sliceAt, Sem.run_bind, run_underlying hu, Result.andThen_ok, ex, Instr.sureAddr, run_sz hsz]
      by_cases hq : r3 = r1
      · simp [hq, hb]
      · simp [hq, add_eq, hb]
  · cases s3

/-- EVERY OPERATION OF CLASS 2 -/
theorem read_sound (h : Rel P m st w) {A : T Value} (hcls : cls P o.op = 2) (hops : ∀ x ∈ o.op.operands.toList, conc m (ev A x) = some (ρ x)) (he : evRead o.op P A st = some v) :
    ∃ cv, conc m v = some cv ∧ (execOp ρ o).run P w = .ok (.value cv) w := by
  have hh : ∀ op, o.op = op → cls P op = 2 → (∀ x ∈ op.operands.toList, conc m (ev A x) = some (ρ x)) → evRead op P A st = some v → ∃ cv, conc m v = some cv ∧ (execOp ρ o).run P w = .ok (.value cv) w := by
    intro op ho hcls hops he
    cases op with
    | load t a => exact sound_load h ho (hops a (by simp [Op.operands])) he
    | lookup t x k ok => exact sound_lookup h ho (hops x (by simp [Op.operands])) (hops k (by simp [Op.operands])) he
    | slice t x lo hi mx => exact sound_slice h ho (hops x (by simp [Op.operands])) (fun y hy => hops y (by simp [Op.operands, hy])) (fun y hy => hops y (by simp [Op.operands, hy])) (fun y hy => hops y (by simp [Op.operands, hy])) he
    | entry it => exact sound_entry h ho (hops it (by simp [Op.operands])) he
    | convert s d x => exact sound_toStr h ho (hops x (by simp [Op.operands])) he
    | call c =>
      have hc : clsC P c = 2 := hcls
      unfold clsC at hc
      split at hc
      · rename_i hcl
        exact sound_lenMap h ho hcl (fun x hx => hops x (by simp [Op.operands, Call.operands] at hx ⊢; exact .inr hx)) he
      all_goals omega
    | _ => cases he
  exact hh o.op rfl hcls hops he
end Go.Ev
