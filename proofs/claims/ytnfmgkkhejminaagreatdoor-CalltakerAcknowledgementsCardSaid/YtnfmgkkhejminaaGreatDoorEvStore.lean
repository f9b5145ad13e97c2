/-
  A part of the proof that the evaluator answers what the model answers, for every program that follows mixed orders; no other condition.
-/
import Derived.Test.YtnfmgkkhejminaaGreatDoorEvRead
namespace Go.Ev
set_option linter.unusedSectionVars false
variable [OTab] [OVal]
variable {P : Program} {m : Map} {ρ : Operand → Value} {o : Oper} {v : Value} {st : St} {w : World}

theorem isCell_conc {v cv : Value} (h : conc m v = some cv) (hc : isCell v = true) : isCell cv = true := by
  cases v with
  | agg a => cases hc
  | tuple a => cases hc
  | bool b => rw [conc_bool] at h; cases h; rfl
  | int k n => rw [conc_int] at h; cases h; rfl
  | string s => rw [conc_string] at h; cases h; rfl
  | pointer p => obtain ⟨a, rfl⟩ := conc_ptr_shape h; rfl
  | slice a l c => obtain ⟨_, _, _, rfl⟩ := conc_slice_shape h; rfl
  | map r => obtain ⟨_, rfl⟩ := conc_map_shape h; rfl
  | func f a c => obtain ⟨_, _, _, rfl⟩ := conc_func_shape h; rfl
  | nilFunc => have : cv = .nilFunc := by simpa [conc] using h.symm
               subst this; rfl
  | nilIface => have : cv = .nilIface := by simpa [conc] using h.symm
                subst this; rfl
  | iface t v =>
    simp only [conc, Option.map_eq_some_iff] at h
    obtain ⟨x, hx, rfl⟩ := h
    rfl
  | float k b =>
    have e : cv = OVal.val b := by rw [conc_float] at h; exact (Option.some.inj h).symm
    rcases OVal.shape b with ⟨k', n, e'⟩ | ⟨s, e'⟩ | ⟨a', l', c', e'⟩ <;> rw [e, e'] <;> rfl
  | complex k a b => simp [conc] at h
  | chan r => simp [conc] at h
theorem isCell_concL : ∀ {l l' : List Value}, concL m l = some l' → l.all isCell = true → ∀ v ∈ l', isCell v = true
  | [], _, h, _, v, hv => by simp at h; subst h; simp at hv
  | a :: l, _, h, hc, v, hv => by
    obtain ⟨c, r, h1, h2, rfl⟩ := concL_cons h
    simp only [List.all_cons, Bool.and_eq_true] at hc
    simp at hv
    rcases hv with rfl | hv
    · exact isCell_conc h1 hc.1
    · exact isCell_concL h2 hc.2 v hv

/-- a block of cells: what it is, what is in it, where it is frozen -/
def CellsIn (w : World) (B : Nat) (arr : Array Value) (e : TypeId) (lo hi : Nat) : Prop := w.heap[B]? = some (.cells arr e (lo, hi))

theorem setCell_heap {B i : Nat} {arr : Array Value} {e : TypeId} {lo hi : Nat} {u : Value} (h : CellsIn w B arr e lo hi) :
    CellsIn (w.setCell ⟨B, i, none⟩ u) B (arr.setIfInBounds i u) e lo hi ∧ (∀ B', B' ≠ B → (w.setCell ⟨B, i, none⟩ u).heap[B']? = w.heap[B']?) ∧ (w.setCell ⟨B, i, none⟩ u).heap.size = w.heap.size := by
  unfold CellsIn at *
  refine ⟨?_, fun B' hB => ?_, ?_⟩
  · simp only [World.setCell, Array.getElem?_modify]
    simp [h]
  · simp only [World.setCell, Array.getElem?_modify]
    rw [if_neg (by simpa using Ne.symm hB)]
  · simp [World.setCell]

theorem run_store1 {B i : Nat} {arr : Array Value} {e : TypeId} {lo hi : Nat} {u : Value} (h : CellsIn w B arr e lo hi) (hi' : i < arr.size) (hf : ¬ (lo ≤ i ∧ i < hi)) (hu : isCell u = true) :
    (store ⟨B, i, none⟩ u).run P w = .ok () (w.setCell ⟨B, i, none⟩ u) := by
  have h1 : w.cell? ⟨B, i, none⟩ = some arr[i] := by
    unfold CellsIn at h
    simp [World.cell?, h, hi']
  have h2 : w.frozen? ⟨B, i, none⟩ = false := by
    unfold CellsIn at h
    simp only [World.frozen?, h]
    simp
    omega
  show (Sem.store .plain ⟨B, i, none⟩ u (.pure ())).run P w = _
  cases u with
  | agg a => cases hu
  | tuple a => cases hu
  | _ => simp [Sem.run, h1, h2]

structure Stored (w w' : World) (B off : Nat) (vs : List Value) (arr : Array Value) (e : TypeId) (lo hi : Nat) : Prop where
  other : ∀ B', B' ≠ B → w'.heap[B']? = w.heap[B']?
  size : w'.heap.size = w.heap.size
  os : w'.os = w.os
  tape : w'.tape = w.tape
  output : w'.output = w.output
  here : ∃ arr' : Array Value, CellsIn w' B arr' e lo hi ∧ arr'.size = arr.size ∧ ∀ i : Nat, arr'[i]? = if off ≤ i ∧ i < off + vs.length then vs[i - off]? else arr[i]?

theorem run_storeCells {B off : Nat} {e : TypeId} {lo hi : Nat} : ∀ (vs : List Value) (k : Nat) (w : World) (arr : Array Value), CellsIn w B arr e lo hi → off + k + vs.length ≤ arr.size →
    (∀ i, i < arr.size → ¬ (lo ≤ i ∧ i < hi)) → (∀ v ∈ vs, isCell v = true) → ∃ w', (storeCells ⟨B, off, none⟩ vs k).run P w = .ok () w' ∧ Stored w w' B (off + k) vs arr e lo hi
  | [], k, w, arr, h, _, _, _ => by
    refine ⟨w, by simp [storeCells], ⟨fun _ _ => rfl, rfl, rfl, rfl, rfl, arr, h, rfl, fun i => ?_⟩⟩
    rw [if_neg (by simp)]
  | v :: vs, k, w, arr, h, hl, hf, hc => by
    simp only [List.length_cons] at hl
    have hi : off + k < arr.size := by omega
    have h1 := run_store1 (P := P) h hi (hf _ hi) (hc v (by simp))
    obtain ⟨h2, h3, h4⟩ := setCell_heap (i := off + k) (u := v) h
    obtain ⟨w', h5, h6⟩ := run_storeCells (off := off) vs (k + 1) (w.setCell ⟨B, off + k, none⟩ v) (arr.setIfInBounds (off + k) v) h2 (by simp; omega) (fun i hi' => hf i (by simpa using hi')) (fun u hu => hc u (by simp [hu]))
    refine ⟨w', ?_, ?_⟩
    · simp only [storeCells, Sem.run_bind, add_eq, h1, Result.andThen_ok]
      exact h5
    · obtain ⟨arr', g1, g2, g3⟩ := h6.here
      refine ⟨fun B' hB => (h6.other B' hB).trans (h3 B' hB), h6.size.trans h4, h6.os, h6.tape, h6.output, arr', g1, by simpa using g2, fun i => ?_⟩
      rw [g3 i]
      by_cases e1 : off + (k + 1) ≤ i ∧ i < off + (k + 1) + vs.length
      · rw [if_pos e1, if_pos (by simp; omega)]
        rw [show i - (off + k) = (i - (off + (k + 1))) + 1 from by omega]
        simp
      · rw [if_neg e1]
        by_cases e2 : i = off + k
        · subst e2
          rw [if_pos (by simp)]
          simp [hi]
        · rw [if_neg (by simp; omega), Array.getElem?_setIfInBounds_ne (by omega)]

theorem storeN_sound (h : Rel P m st w) {a : Addr} {x : M} {l l' : List Value} {st' : St} (hx : m a.block = some x) (hl : concL m l = some l') (hc : l.all isCell = true) (hs : storeN st a l = some st') :
    ∃ w', (storeCells ⟨x.blk, x.sh + a.off, none⟩ l').run P w = .ok () w' ∧ Step P m st w m st' w' := by
  unfold storeN at hs
  obtain ⟨_, h1⟩ := gd_some hs
  obtain ⟨n, c, hk, h2⟩ := cellsAt_some h1
  obtain ⟨hle, h3⟩ := gd_some h2
  cases h3
  rw [Bool.and_eq_true] at hle
  have hle' : a.off + l.length ≤ n := Nat.le_of_ble_eq_true hle.1
  obtain ⟨arr, e, lo, hi, g1, g2, g3, g4r, g5, g6⟩ := rel_cells h hx hk
  have g4 := g4r hle.2
  have hlen := concL_len hl
  obtain ⟨w', r1, r2⟩ := run_storeCells (P := P) (off := x.sh + a.off) l' 0 w arr g1 (by omega) g4 (isCell_concL hl hc)
  refine ⟨w', r1, ?_⟩
  exact set_step (vo := some (.cells n (fillT l a.off c))) h hx hk r2.other r2.size r2.os r2.tape r2.output (fun k e' => by
    cases e'
    obtain ⟨arr', q1, q2, q3⟩ := r2.here
    refine ⟨arr', e, lo, hi, q1, by omega, g3, fun _ i hi' => g4 i (by omega), fun i hi' => ?_, fun ht => ⟨fun k t e2 => by
      rw [fillT_get, if_neg (by omega)] at e2
      obtain ⟨t1, t2, t3⟩ := (g6 ht).1 k t e2
      exact ⟨t1, t2, by omega⟩, fun k t e2 => by
      rw [fillT_get, if_neg (by omega)] at e2
      exact (g6 ht).2 k t e2⟩⟩
    rw [fillT_get, q3]
    by_cases e1 : a.off ≤ i ∧ i < a.off + l.length
    · rw [if_pos e1, if_pos (by omega)]
      have hi2 : i - a.off < l.length := by omega
      obtain ⟨cv, q4, q5⟩ := concL_get hl (i - a.off) l[i - a.off] (List.getElem?_eq_getElem hi2)
      refine ⟨l[i - a.off], cv, List.getElem?_eq_getElem hi2, q4, ?_⟩
      rw [show x.sh + i - (x.sh + a.off + 0) = i - a.off from by omega]
      exact q5
    · rw [if_neg e1, if_neg (by omega)]
      exact g5 i hi')

/-- what an operation of class 3 does -/
def GenDoes (P : Program) (m : Map) (st : St) (w : World) (ρ : Operand → Value) (o : Oper) (v : Value) (st' : St) : Prop :=
  ∃ m' w' cv, Step P m st w m' st' w' ∧ conc m' v = some cv ∧ ((execOp ρ o).run P w = .ok (.value cv) w' ∨ ((execOp ρ o).run P w = .ok .skip w' ∧ cv = undef))

theorem conc_undef (m : Map) : conc m undef = some undef := conc_tuple' (concL_nil m)

theorem sound_store (h : Rel P m st w) {t : TypeId} {a x : Operand} {ua ux : Value} {st' : St} (ho : o.op = .store t a x) (ha : conc m ua = some (ρ a)) (hx : conc m ux = some (ρ x))
    (hs : ob (asP ua) (storeAtV P t st ux) = some (v, st')) : GenDoes P m st w ρ o v st' := by
  obtain ⟨ad, h1, h2⟩ := ob_some hs
  have := asP_some h1
  subst this
  obtain ⟨st1, h3, h4⟩ := ob_some h2
  cases h4
  unfold storeV at h3
  obtain ⟨n, hn, h5⟩ := ob_some h3
  obtain ⟨hl, h6⟩ := gd_some h5
  obtain ⟨hc, h7⟩ := gd_some h6
  obtain ⟨y, hy, _, e⟩ := conc_pointer ha
  have hcs := conc_cells hx
  obtain ⟨w', r1, r2⟩ := storeN_sound (P := P) h hy hcs hc h7
  refine ⟨m, w', undef, r2, conc_undef m, .inr ⟨?_, rfl⟩⟩
  have hsz : (ρ x).cells.size = n := by
    have h8 := concL_len hcs
    have h9 : (cellsL ux).length = n := Nat.eq_of_beq_eq_true hl
    have : (ρ x).cells.toList.length = (ρ x).cells.size := by simp
    omega
  simp [execOp, ho, Instr.storeAt, e, Instr.sureAddr, storeVar, run_sz hn, hsz, r1]
end Go.Ev
