/-
  Memories of known blocks; runs of the node sets' functions at unknown words.
-/
import Derived.Test.YtnfmgkkhejminaaGreatDoorStAckQ
import Derived.Test.YtnfmgkkhejminaaGreatDoorStAckX
namespace Go.Ev
open Go.RowKit
set_option linter.unusedSectionVars false
/-! ## a memory of known blocks, and a run that begins in it -/
noncomputable def memB : List (Nat × Blk) → Mem
  | [] => .lf
  | p :: r => (memB r).put (some p.2) p.1
theorem memB_get : ∀ (l : List (Nat × Blk)) (b : Nat) (k : Blk), (memB l).get b = some k → (b, k) ∈ l
  | [], b, k, h => by
    have h' : Mem.lf.get b = some k := h
    rw [get_memlf] at h'
    cases h'
  | p :: r, b, k, h => by
    unfold memB at h
    rw [get_memput] at h
    by_cases e : b = p.1
    · rw [if_pos e] at h
      cases h
      rw [e]
      exact List.mem_cons_self
    · rw [if_neg e] at h
      exact List.mem_cons_of_mem _ (memB_get r b k h)
/-- cells that are only read -/
noncomputable def blkR (vs : List Value) : Blk := .cells vs.length ((fillT vs 0 .lf).put (some (.float .f64 0)) roI)
/-- where the known blocks lie; below G the program's variables -/
def mapB (G : Nat) (l : List (Nat × M)) : Map := fun b => if b < G then some ⟨b, 0, if b = 0 then 64 else 0⟩ else (l.find? fun p => p.1 == b).map (·.2)
noncomputable def stB (l : List (Nat × Blk)) (N : Nat) : St := ⟨memB l, N, N⟩
variable {P : Program}
section
variable [OTab] [OVal]
theorem blkR_rel {m : Map} {x : M} {w : World} {vs : List Value} (hs : ∃ arr e lo hi, w.heap[x.blk]? = some (.cells arr e (lo, hi)) ∧ x.sh + x.lim ≤ arr.size ∧ ∀ i v, vs[i]? = some v → ∃ cv, conc m v = some cv ∧ arr[x.sh + i]? = some cv) (hn : vs.length ≤ x.lim) (hl : vs.length ≤ 1000) : BlkRel m (blkR vs) x w := by
  obtain ⟨arr, e, lo, hi, h1, h2, h3⟩ := hs
  refine ⟨arr, e, lo, hi, h1, h2, hn, fun hro => ?_, fun i hi' => ?_, fun _ => ⟨fun kk t e' => ?_, fun kk t e' => ?_⟩⟩
  · rw [get_put, if_pos rfl] at hro
    cases hro
  · obtain ⟨cv, c1, c2⟩ := h3 i vs[i] (List.getElem?_eq_getElem hi')
    refine ⟨vs[i], cv, ?_, c1, c2⟩
    rw [get_put, if_neg (by unfold roI; omega), fillT_get, if_pos (by omega)]
    simp [hi']
  · rw [get_put, if_neg (by decide), fillT_get, if_neg (by unfold tagI; omega), get_lf] at e'
    cases e'
  · rw [get_put, if_neg (by decide), fillT_get, if_neg (by unfold tagI; omega), get_lf] at e'
    cases e'
theorem rel_blks {l : List (Nat × Blk)} {N : Nat} {m : Map} {w : World} (hg : ∀ g, g < P.globals.size → ∃ lim, m g = some ⟨g, 0, lim⟩) (hin : ∀ b x, m b = some x → x.blk < w.heap.size)
    (hb : ∀ b k x, (b, k) ∈ l → m b = some x → BlkRel m k x w) (hd : ∀ b c x y kb kc, (b, kb) ∈ l → (c, kc) ∈ l → b ≠ c → m b = some x → m c = some y → x.blk ≠ y.blk) (hN : ∀ b k, (b, k) ∈ l → b < N)
    (hK : ∀ B, ¬ OVal.kept B) : Rel P m (stB l N) w where
  glob := hg
  inb := hin
  blks := fun b x k h1 h2 => hb b k x (memB_get l b k h2) h1
  dist := fun b c x y kb kc hbc h1 h2 h3 h4 => hd b c x y kb kc (memB_get l b kb h3) (memB_get l c kc h4) hbc h1 h2
  wf := fun b h => by
    cases e : (stB l N).mem.get b with
    | none => rfl
    | some k =>
      have := hN b k (memB_get l b k e)
      have h' : N ≤ b := h
      omega
  kept := ⟨fun B h => (hK B h).elim, fun _ _ _ _ _ _ h => hK _ h⟩
/-- what a run of a piece tells -/
theorem piece (hmix : P.follows .mixedOrders = true) (hC : CallsOk P) {f : FuncId} {args cargs : List Value} {st st' : St} {v : Value} {m : Map} {w : World} (h : run P f args st = some (v, st')) (hr : Rel P m st w) (hf : ∀ b, st.nxt ≤ b → m b = none) (ha : concL m args = some cargs) (hlow : st.nxt ≤ st'.low) :
    Calls P f ⟨cargs⟩ w fun e w' => ∃ m' cv, e = .returned cv ∧ conc m' v = some cv ∧ Rel P m' st' w' ∧ Sub m m' ∧ Below w.heap.size w w' ∧ (∀ b, st'.nxt ≤ b → m' b = none) ∧ ∀ b x k, st.nxt ≤ b → m' b = some x → st'.mem.get b = some k → w.heap.size ≤ x.blk := by
  intro cs
  obtain ⟨m', w', cv, s, hv, _, q⟩ := run_sound cs hmix hC h hr (fun b hb _ => hf b hb) ha
  have hc := s.chk st.nxt w (Nat.le_refl _) hlow ⟨fun b x k _ hk hb => (by rw [hr.wf b hb] at hk; cases hk), Nat.le_refl _, fun _ _ => rfl⟩
  obtain ⟨fr, q1, q2, q3⟩ := q
  refine ⟨.returned cv, w', fr, ⟨m', cv, rfl, hv, s.rel, s.sub, ⟨s.os, s.tape, s.output, s.size, fun k hk => hc.2.2 k hk⟩, fun b hb => ?_, fun b x k hb hx hk => hc.1 b x k hx hk hb⟩, q1, q2, q3⟩
  cases e : m' b with
  | none => rfl
  | some x =>
    have := s.nxt
    rcases s.newm b x e with h1 | h1
    · rw [hf b (by omega)] at h1; cases h1
    · omega
end
end Go.Ev
namespace Go.Proofs.YtnfmgkkhejminaaGreatDoor
open Go Go.RowKit Go.Ev
/-- sixty-four words -/
def WordsAt (w : World) (g o : Nat) (zs : List Int) : Prop := zs.length = 64 ∧ g < w.heap.size ∧ ∀ i, i < 64 → w.cell? ⟨g, o + i, none⟩ = some (.int .u64 (zs.getD i 0))
theorem WordsAt.below {w W : World} {g o : Nat} {zs : List Int} (h : WordsAt w g o zs) (hb : Below w.heap.size w W) : WordsAt W g o zs :=
  ⟨h.1, Nat.lt_of_lt_of_le h.2.1 hb.size, fun i hi => by rw [hb.cell (p := ⟨g, o + i, none⟩) h.2.1]; exact h.2.2 i hi⟩
theorem cell_arr {w : World} {g o : Nat} {v : Value} (h : w.cell? ⟨g, o, none⟩ = some v) : ∃ arr e lo hi, w.heap[g]? = some (.cells arr e (lo, hi)) ∧ arr[o]? = some v := by
  simp only [World.cell?] at h
  split at h
  · rename_i arr e f hh
    obtain ⟨lo, hi⟩ := f
    exact ⟨arr, e, lo, hi, hh, h⟩
  · cases h
theorem WordsAt.arr {w : World} {g o : Nat} {zs : List Int} (h : WordsAt w g o zs) : ∃ arr e lo hi, w.heap[g]? = some (.cells arr e (lo, hi)) ∧ o + 64 ≤ arr.size ∧ ∀ i, i < 64 → arr[o + i]? = some (.int .u64 (zs.getD i 0)) := by
  obtain ⟨arr, e, lo, hi, h1, h2⟩ := cell_arr (h.2.2 63 (by omega))
  have hall : ∀ i, i < 64 → arr[o + i]? = some (.int .u64 (zs.getD i 0)) := fun i hi' => by
    have := h.2.2 i hi'
    simp only [World.cell?, h1] at this
    exact this
  refine ⟨arr, e, lo, hi, h1, ?_, hall⟩
  have := (Array.getElem?_eq_some_iff.1 (hall 63 (by omega))).1
  omega
end Go.Proofs.YtnfmgkkhejminaaGreatDoor

namespace Go.Proofs.YtnfmgkkhejminaaGreatDoor
open Go Go.RowKit Go.Ev
noncomputable section
def isNil (n : Nat) (r : Option (Value × St)) : Bool :=
  match r with
  | some (.agg ⟨[.pointer none]⟩, st) => Nat.ble n st.low
  | _ => false
def isPtr (n b : Nat) (r : Option (Value × St)) : Bool :=
  match r with
  | some (.agg ⟨[.pointer (some ⟨c, 0, none⟩)]⟩, st) => Nat.ble n st.low && Nat.beq c b
  | _ => false
def cellsAre (st : St) (c : Nat) (want : List Value) : Bool :=
  match st.mem.get c with
  | some (.cells k cs) => Nat.beq k want.length && (match takeT cs want.length 0 with
    | some l => sEqL l want
    | none => false)
  | _ => false
def isNew (n : Nat) (want : List Value) (r : Option (Value × St)) : Bool :=
  match r with
  | some (.agg ⟨[.pointer (some ⟨c, 0, none⟩)]⟩, st) => Nat.ble n st.low && Nat.ble n c && cellsAre st c want
  | _ => false
def isVal (n : Nat) (want : Value) (r : Option (Value × St)) : Bool :=
  match r with
  | some (v, st) => Nat.ble n st.low && sEq v want
  | _ => false
/-! setOf: the first word that is not zero has number j -/
def wordsJ (j : Nat) : List Value := (List.range 64).map fun i => if i < j then .int .u64 0 else .float .f64 i
@[reducible] def tabJ (j : Nat) : OTab := { rules := [⟨.eqi, .float .f64 j, .int .u64 0, .bool false⟩], calls := [] }
def okJ (j : Nat) : Bool := if j < 64 then isPtr 3 2 (@run (tabJ j) Tryz.prog 154 [.pointer (some ⟨2, 0, none⟩)] (stB [(2, blkR (wordsJ j))] 3)) else isNil 3 (@run (tabJ j) Tryz.prog 154 [.pointer (some ⟨2, 0, none⟩)] (stB [(2, blkR (wordsJ j))] 3))
theorem setOf_runs : (List.range 65).all okJ = true := by kernel_rfl
/-! All(9) -/
def words9 (a : Value) : List Value := a :: (List.replicate 63 (.int .u64 0))
theorem all_run : isNew 2 (words9 (.int .u64 511)) (@run tab0 Tryz.prog 77 [.int .i64 9] (stB [] 2)) = true := by kernel_rfl
/-! OnesCount64, TrailingZeros64 of what is below 512 -/
def pop9 (a : Nat) : Nat := (List.range 9).countP fun i => a.testBit i
def tz9 (a : Nat) : Nat := ((List.range 9).find? fun i => a.testBit i).getD 0
theorem ones_runs : (List.range 512).all (fun a => isVal 2 (.int .i64 (pop9 a)) (@run tab0 Tryz.prog 87 [.int .u64 a] (stB [] 2))) = true := by kernel_rfl
theorem zeros_runs : (List.range 511).all (fun a => isVal 2 (.int .i64 (tz9 (a + 1))) (@run tab0 Tryz.prog 89 [.int .u64 (a + 1 : Nat)] (stT 2 [t64]))) = true := by kernel_rfl
end
end Go.Proofs.YtnfmgkkhejminaaGreatDoor
