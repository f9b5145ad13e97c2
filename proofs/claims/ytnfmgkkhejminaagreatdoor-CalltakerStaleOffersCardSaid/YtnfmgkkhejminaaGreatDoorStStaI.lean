/-
  The contract of locate, a chain of runs, and the entry of a call as it lies in a world.
-/
import Derived.Test.YtnfmgkkhejminaaGreatDoorStAckQ
import Derived.Test.YtnfmgkkhejminaaGreatDoorStAckX
import Derived.Test.YtnfmgkkhejminaaGreatDoorStLocF
import Derived.Test.YtnfmgkkhejminaaGreatDoorStStaF
namespace Go.Ev
open Go.RowKit
variable {P : Program}
section
variable [OTab] [OVal]
/-- a block that a call has made is taken up -/
theorem adopt_step {m : Map} {st : St} {w w' : World} {k : Blk} {g o lim : Nat} (h : Rel P m st w) (hb : Below w.heap.size w w') (hn : m st.nxt = none) (hg : w.heap.size ≤ g) (hg2 : g < w'.heap.size)
    (hk : BlkRel (upd m st.nxt ⟨g, o, lim⟩) k ⟨g, o, lim⟩ w') : Step P m st w (upd m st.nxt ⟨g, o, lim⟩) (st.push k) w' := by
  have hsub := sub_upd (⟨g, o, lim⟩ : M) hn
  have hsz := hb.size
  have hget : ∀ b, (st.push k).mem.get b = if b = st.nxt then some k else st.mem.get b := fun b => get_memput _ _ _ _
  have hcase : ∀ b x, upd m st.nxt ⟨g, o, lim⟩ b = some x → (b = st.nxt ∧ x = ⟨g, o, lim⟩) ∨ (b ≠ st.nxt ∧ m b = some x) := fun b x hb => by
    by_cases e : b = st.nxt
    · subst e; rw [upd_same] at hb; cases hb; exact .inl ⟨rfl, rfl⟩
    · rw [upd_other _ _ e] at hb; exact .inr ⟨e, hb⟩
  refine ⟨hsub, ⟨?_, ?_, ?_, ?_, ?_, ⟨fun B hB => ?_, fun b x k' hb hk' hro => ?_⟩⟩, hb.os, hb.tape, hb.output, hb.size, Nat.le_succ _, Nat.le_refl _, ?_, ?_⟩
  · intro g hg
    obtain ⟨l, hl⟩ := h.glob g hg
    exact ⟨l, hsub _ _ hl⟩
  · intro b x hb
    rcases hcase b x hb with ⟨_, rfl⟩ | ⟨_, hb⟩
    · exact hg2
    · have := h.inb b x hb; omega
  · intro b x k' hb1 hk'
    rw [hget] at hk'
    rcases hcase b x hb1 with ⟨rfl, rfl⟩ | ⟨hne, hb1⟩
    · simp at hk'; subst hk'; exact hk
    · rw [if_neg hne] at hk'
      exact ((h.blks b x k' hb1 hk').mono hsub).heap (hb.block _ (h.inb b x hb1))
  · intro b c x y kb kc hbc hb hc hkb hkc e
    rw [hget] at hkb hkc
    rcases hcase b x hb with ⟨rfl, rfl⟩ | ⟨hne, hb⟩
    · rcases hcase c y hc with ⟨rfl, rfl⟩ | ⟨hne', hc⟩
      · exact absurd rfl hbc
      · have := h.inb c y hc
        simp only at e
        omega
    · rcases hcase c y hc with ⟨rfl, rfl⟩ | ⟨hne', hc⟩
      · have := h.inb b x hb
        simp only at e
        omega
      · rw [if_neg hne] at hkb
        rw [if_neg hne'] at hkc
        exact h.dist b c x y kb kc hbc hb hc hkb hkc e
  · intro b hb
    have hb' : st.nxt + 1 ≤ b := hb
    rw [hget, if_neg (by omega)]
    exact h.wf b (by omega)
  · have h1 := h.kept.same B hB
    exact ⟨by omega, (hb.block _ h1.1).trans h1.2⟩
  · rw [hget] at hk'
    rcases hcase b x hb with ⟨rfl, rfl⟩ | ⟨hne, hb⟩
    · intro hB
      have h1 := (h.kept.same _ hB).1
      simp only at h1
      omega
    · rw [if_neg hne] at hk'
      exact h.kept.off b x k' hb hk' hro
  · intro b x hb
    rcases hcase b x hb with ⟨rfl, rfl⟩ | ⟨hne, hb⟩
    · exact .inr ⟨Nat.le_refl _, Nat.lt_succ_self _⟩
    · exact .inl hb
  · intro n0 w0 hn0 _ hc
    obtain ⟨c1, c2, c3⟩ := hc
    refine ⟨?_, by omega, fun B hB => by rw [hb.block B (by omega)]; exact c3 B hB⟩
    intro b x k' hb hk' hn'
    rw [hget] at hk'
    rcases hcase b x hb with ⟨rfl, rfl⟩ | ⟨hne, hb⟩
    · simp only; omega
    · rw [if_neg hne] at hk'; exact c1 b x k' hb hk' hn'

/-- where a chain of runs stands -/
structure Now (P : Program) (n : Nat) (w0 : World) (m : Map) (st : St) (w : World) : Prop where
  rel : Rel P m st w
  free : ∀ b, st.nxt ≤ b → m b = none
  ck : CK n w0 m st w
  nx : n ≤ st.nxt
  bel : Below w0.heap.size w0 w
theorem Now.below {n : Nat} {w0 : World} {m : Map} {st : St} {w W : World} (h : Now P n w0 m st w) (hb : Below w.heap.size w W) : Now P n w0 m st W where
  rel := h.rel.below hb
  free := h.free
  ck := ⟨h.ck.1, Nat.le_trans h.ck.2.1 hb.size, fun B hB => (hb.block B (Nat.lt_of_lt_of_le hB h.ck.2.1)).trans (h.ck.2.2 B hB)⟩
  nx := h.nx
  bel := h.bel.trans (hb.mono h.bel.size)
/-- one run of a chain -/
theorem chain (hmix : P.follows .mixedOrders = true) (hC : CallsOk P) {n : Nat} {w0 : World} {f : FuncId} {args cargs : List Value} {st st' : St} {v : Value} {m : Map} {w : World} (h : run P f args st = some (v, st')) (hr : Now P n w0 m st w) (ha : concL m args = some cargs) (hlow : n ≤ st'.low) :
    Calls P f ⟨cargs⟩ w fun e w' => ∃ m' cv, e = .returned cv ∧ conc m' v = some cv ∧ Now P n w0 m' st' w' ∧ Sub m m' := by
  intro cs
  obtain ⟨m', w', cv, s, hv, _, q⟩ := run_sound cs hmix hC h hr.rel (fun b hb _ => hr.free b hb) ha
  have hc := s.chk n w0 hr.nx hlow hr.ck
  obtain ⟨fr, q1, q2, q3⟩ := q
  refine ⟨.returned cv, w', fr, ⟨m', cv, rfl, hv, ⟨s.rel, fun b hb => ?_, hc, Nat.le_trans hr.nx s.nxt, ⟨s.os.trans hr.bel.os, s.tape.trans hr.bel.tape, s.output.trans hr.bel.output, Nat.le_trans hr.bel.size s.size, fun k hk => hc.2.2 k hk⟩⟩, s.sub⟩, q1, q2, q3⟩
  cases e : m' b with
  | none => rfl
  | some x =>
    have := s.nxt
    rcases s.newm b x e with h1 | h1
    · rw [hr.free b (by omega)] at h1; cases h1
    · omega
/-- a run that leaves the memory as it was -/
theorem chain_low (hmix : P.follows .mixedOrders = true) (hC : CallsOk P) {n : Nat} {w0 : World} {f : FuncId} {args cargs : List Value} {st st' : St} {v : Value} {m : Map} {w : World} (h : run P f args ⟨st.mem, st.nxt, st.nxt⟩ = some (v, st')) (hr : Now P n w0 m st w) (ha : concL m args = some cargs) (hlow : st.nxt ≤ st'.low) :
    Calls P f ⟨cargs⟩ w fun e w' => ∃ m' cv, e = .returned cv ∧ conc m' v = some cv ∧ Below w.heap.size w w' := by
  intro cs
  have hr2 : Rel P m ⟨st.mem, st.nxt, st.nxt⟩ w := ⟨hr.rel.glob, hr.rel.inb, hr.rel.blks, hr.rel.dist, hr.rel.wf, hr.rel.kept.same, hr.rel.kept.off⟩
  obtain ⟨m', w', cv, s, hv, _, q⟩ := run_sound cs hmix hC h hr2 (fun b hb _ => hr.free b hb) ha
  have hc := s.chk st.nxt w (Nat.le_refl _) hlow ⟨fun b x k _ hk hb => (by rw [hr.rel.wf b hb] at hk; cases hk), Nat.le_refl _, fun _ _ => rfl⟩
  obtain ⟨fr, q1, q2, q3⟩ := q
  exact ⟨.returned cv, w', fr, ⟨m', cv, rfl, hv, ⟨s.os, s.tape, s.output, s.size, fun k hk => hc.2.2 k hk⟩⟩, q1, q2, q3⟩
end
end Go.Ev
namespace Go.Proofs.YtnfmgkkhejminaaGreatDoor
open Go Go.RowKit Go.Ev Wi
/-- no number of 64 bits lies in the first block -/
def NoInt0 (w : World) : Prop := ∀ off z, w.cell? ⟨0, off, none⟩ ≠ some (.int .i64 z)
theorem ints_kept {w0 w : World} {A : Option Addr} {l : List Int} (h : IntsIn w0 A l) (h0 : NoInt0 w0) (hk : ∀ B, B < w0.heap.size ∧ B ≠ 0 → B < w.heap.size ∧ w.heap[B]? = w0.heap[B]?) : IntsIn w A l := fun i hi => by
  obtain ⟨b, off, e, h1, h2⟩ := h i hi
  have hb : b ≠ 0 := by rintro rfl; exact h0 _ _ h2
  obtain ⟨k1, k2⟩ := hk b ⟨h1, hb⟩
  exact ⟨b, off, e, k1, by rw [World.cell?_of_block (a := ⟨b, off + i, none⟩) k2]; exact h2⟩
theorem srcs_kept {w0 w : World} {A0 : Option Addr} {L : List (Int × List Int)} (h : Srcs w0 A0 L) (h0 : NoInt0 w0) (hk : ∀ B, B < w0.heap.size ∧ B ≠ 0 → B < w.heap.size ∧ w.heap[B]? = w0.heap[B]?) : Srcs w A0 L := fun k x hx => by
  obtain ⟨b, off, B, cc, e, h1, h2, h3, h4, h5⟩ := h k x hx
  have hb : b ≠ 0 := by rintro rfl; exact h0 _ _ h2
  obtain ⟨k1, k2⟩ := hk b ⟨h1, hb⟩
  exact ⟨b, off, B, cc, e, k1, by rw [World.cell?_of_block (a := ⟨b, off + k * 2, none⟩) k2]; exact h2, by rw [World.cell?_of_block (a := ⟨b, off + k * 2 + 1, none⟩) k2]; exact h3, ints_kept h4 h0 hk, h5⟩
theorem locF_body : ∃ fn c, Tryz.prog.funcs[31]? = some fn ∧ fn.body = some c ∧ (fn.name == "runtime.NumGoroutine") = false := ⟨_, _, Tryz.func31, rfl, by kernel_rfl⟩
/-- the contract of locate holds -/
theorem locV_ok (k c : Nat) (V : @OVal (tabS k c)) {w0 : World} {A0 : Option Addr} {N C : Nat} {L : List (Int × List Int)} (h77 : @OVal.val _ V 77 = .slice A0 N C) (h78 : @OVal.val _ V 78 = .int .u64 ((locS L).1 : Nat))
    (hkept : ∀ B, B < w0.heap.size ∧ B ≠ 0 → @OVal.kept _ V B) (hheap : @OVal.heap0 _ V = w0.heap) (hS : Srcs w0 A0 L) (h0 : NoInt0 w0) (hN : N = L.length) (hmax : N ≤ 1000) (h4 : ∀ x ∈ L, (x.2.length : Int) ≤ 4096) : @NatOk (tabS k c) V Tryz.prog := by
  letI : OTab := tabS k c
  letI : OVal := V
  intro f args st r st' v hn hp m w cargs hr hf hca
  have hn' : locV f args st = some r := hn
  unfold locV at hn'
  cases hf31 : Nat.beq f 31 with
  | false => rw [hf31] at hn'; cases hn'
  | true =>
    have e31 := Nat.eq_of_beq_eq_true hf31
    subst e31
    rw [hf31, bsel_true] at hn'
    split at hn'
    · rename_i b o
      split at hn'
      · rename_i z hl
        obtain ⟨hz, hn2⟩ := gd_some hn'
        cases hn2
        have hz' : z = 9 := by rw [eqI_eq] at hz; simpa using hz
        subst hz'
        have hp' : ob (nsteps [NStep.push (blkR (words9 (.float .f64 78)))] st) (fun s => some (Value.agg ⟨[.pointer (some ⟨st.nxt, 0, none⟩)]⟩, s)) = some (v, st') := hp
        have hp2 : some (Value.agg ⟨[.pointer (some ⟨st.nxt, 0, none⟩)]⟩, st.push (blkR (words9 (.float .f64 78)))) = some (v, st') := hp'
        cases hp2
        obtain ⟨a1, r1, q1, q2, rfl⟩ := concL_cons hca
        obtain ⟨a2, r2, q3, q4, rfl⟩ := concL_cons q2
        have hr2 : r2 = [] := by simpa using q4.symm
        subst hr2
        obtain ⟨x, hx, _, rfl⟩ := conc_pointer q1
        have ha2 : a2 = .slice A0 N C := by
          rw [conc] at q3
          rw [← h77]
          exact (Option.some.inj q3).symm
        subst ha2
        obtain ⟨cv, hcv, hcell⟩ := load1_sound hr (a := ⟨b, o + 2, none⟩) hx hl
        have hcv' : cv = .int .i64 9 := by simpa [conc] using hcv.symm
        subst hcv'
        have hsz : 2 ≤ w.heap.size := by
          obtain ⟨l1, hl1⟩ := hr.glob 1 (by rw [globs]; omega)
          have := hr.inb 1 _ hl1
          simp only at this
          omega
        have hcell' : w.cell? ⟨x.blk, (x.sh + o) + 2, none⟩ = some (.int .i64 9) := hcell
        have hloc := locate_is x.blk (x.sh + o) N C A0 L w hsz hN hmax (srcs_kept hS h0 (fun B hB => by have := hr.kept.same B (hkept B hB); rw [hheap] at this; exact this)) h4 hcell'
        refine ⟨locF_body, fun cs => ?_⟩
        obtain ⟨e, w', fr, ⟨g, og, rfl, hg, hws, hb⟩, q5, q6, q7⟩ := hloc cs
        have hnn : m st.nxt = none := hf _ (Nat.le_refl _) (Nat.lt_succ_self _)
        obtain ⟨arr, ee, lo, hi, g1, g2, g3⟩ := hws.arr
        have hst := adopt_step (lim := 64) (k := blkR (words9 (.float .f64 78))) (o := og) hr hb hnn hg hws.2.1 (blkR_rel ⟨arr, ee, lo, hi, g1, g2, fun i v hi => by
          have hi64 : i < 64 := by have := (List.getElem?_eq_some_iff.1 hi).1; simpa [words9] using this
          exact ⟨_, w1_conc _ (by rw [conc, h78]) i v hi, g3 i hi64⟩⟩ (by simp [words9]) (by simp [words9]))
        refine ⟨_, w', .agg ⟨[.pointer (some ⟨g, og, none⟩)]⟩, hst, ?_, fr, q5, q6, q7⟩
        exact conc_agg' (concL_cons' (by rw [conc_pointer' (upd_same _ _ _)]; rfl) (concL_nil _))
      · cases hn'
    · cases hn'
end Go.Proofs.YtnfmgkkhejminaaGreatDoor

namespace Go.Proofs.YtnfmgkkhejminaaGreatDoor
open Go Go.RowKit Go.Ev Wi
def mainS : ByteArray := ⟨#[109, 97, 105, 110]⟩
theorem eqI_to {a b : Int} (h : eqI a b = true) : a = b := by
  rw [eqI_eq] at h
  simpa using h
/-- what the check of a line tells -/
theorem line_some {k : Nat} {sv : List Value} {L : Nat} {ds : List Nat} {st : St} (h : lineOk k sv L ds st = true) : apart ds = true ∧ ∃ S, loadN st ⟨L, 0, none⟩ 8 = some [.int .i64 7, .int .i64 2, .int .i64 (-1), .int .i64 0, .int .i64 1, .string mainS, .int .i64 1, S] ∧
    ((k = 0 ∧ S = .slice none 0 0) ∨ ∃ A, S = .slice (some ⟨A, 0, none⟩) k 2 ∧ 0 < k ∧ apart (A :: ds) = true ∧ loadN st ⟨A, 0, none⟩ k = some sv ∧ ∀ v ∈ sv, plainS v = true) := by
  letI : OTab := tab0
  letI : OVal := val0
  unfold lineOk at h
  split at h
  · rename_i c s n t e nm v A m code hl
    simp only [Bool.and_eq_true] at h
    obtain ⟨⟨⟨⟨⟨⟨⟨⟨⟨⟨⟨h1, h2⟩, h3⟩, h4⟩, h5⟩, h6⟩, h7⟩, h8⟩, h9⟩, hcode⟩, hap⟩, h10⟩ := h
    have hcode' := Nat.eq_of_beq_eq_true hcode
    subst hcode'
    have hap2 := hap
    unfold apart at hap2
    simp only [Bool.and_eq_true] at hap2
    obtain rfl := eqI_to h1
    obtain rfl := eqI_to h2
    obtain rfl := eqI_to h3
    obtain rfl := eqI_to h4
    obtain rfl := eqI_to h5
    obtain rfl := eqI_to h7
    have h6' := (sEq_eq h6).1
    have h8' := Nat.eq_of_beq_eq_true h8
    subst h8'
    refine ⟨hap2.2, _, by rw [hl, h6']; rfl, .inr ⟨A, rfl, Nat.le_of_ble_eq_true h9, hap, ?_⟩⟩
    split at h10
    · rename_i l hl2
      obtain ⟨q1, q2⟩ := sEqL_eq h10
      exact ⟨by rw [hl2, q1], q2⟩
    · cases h10
  · rename_i c s n t e nm v hl
    simp only [Bool.and_eq_true] at h
    obtain ⟨⟨⟨⟨⟨⟨⟨⟨h1, h2⟩, h3⟩, h4⟩, h5⟩, h6⟩, h7⟩, h8⟩, hap⟩ := h
    obtain rfl := eqI_to h1
    obtain rfl := eqI_to h2
    obtain rfl := eqI_to h3
    obtain rfl := eqI_to h4
    obtain rfl := eqI_to h5
    obtain rfl := eqI_to h7
    have h6' := (sEq_eq h6).1
    exact ⟨hap, _, by rw [hl, h6']; rfl, .inl ⟨(Nat.eq_of_beq_eq_true h8).symm, rfl⟩⟩
  · cases h
/-- what the check of the entry tells -/
theorem entry_some {k c : Nat} {sv : List Value} {d : Nat} {iv : Bool} {st : St} (h : entryOk k c sv d iv st = true) : ∃ sb so M X L G I rep,
    loadN st ⟨d, 0, none⟩ 7 = some [.int .i64 0, .int .i64 3, .int .i64 9, .int .i64 20, .int .i64 4, .pointer (some ⟨sb, so, none⟩), .map (some M)] ∧
    st.mem.get M = some (.map [⟨.int .i64 7, .pointer (some ⟨X, 0, none⟩), 0⟩] 1) ∧
    loadN st ⟨X, 0, none⟩ 6 = some [.pointer (some ⟨L, 0, none⟩), .int .i64 1, .int .i64 5, .pointer (some ⟨G, 0, none⟩), .pointer (some ⟨I, 0, none⟩), .int .i64 rep] ∧
    cellsAre st G (words9 (.float .f64 78)) = true ∧ lineOk k sv L [d, M, X, L, G] st = true ∧ (iv = true → ivOk k c I st = true) := by
  unfold entryOk at h
  split at h
  · rename_i c0 c1 c2 c3 c4 sb so M hl
    simp only [Bool.and_eq_true] at h
    obtain ⟨⟨⟨⟨⟨h0, h1⟩, h2⟩, h3⟩, h4⟩, h5⟩ := h
    obtain rfl := eqI_to h0
    obtain rfl := eqI_to h1
    obtain rfl := eqI_to h2
    obtain rfl := eqI_to h3
    obtain rfl := eqI_to h4
    split at h5
    · rename_i key X born clock hm
      simp only [Bool.and_eq_true] at h5
      obtain ⟨⟨⟨h6, h7⟩, h8⟩, h9⟩ := h5
      obtain rfl := eqI_to h6
      obtain rfl := Nat.eq_of_beq_eq_true h7
      obtain rfl := Nat.eq_of_beq_eq_true h8
      split at h9
      · rename_i L dist since G I rep hx
        simp only [Bool.and_eq_true] at h9
        obtain ⟨⟨⟨⟨h10, h11⟩, h12⟩, h13⟩, h14⟩ := h9
        obtain rfl := eqI_to h10
        obtain rfl := eqI_to h11
        exact ⟨sb, so, M, X, L, G, I, rep, hl, hm, hx, h12, h13, fun e => by subst e; rw [bsel_true] at h14; exact h14⟩
      · cases h9
    · cases h5
  · cases h
/-- cells that are known -/
def CellsW (w : World) (B o : Nat) (cs : List Value) : Prop := B < w.heap.size ∧ ∀ i v, cs[i]? = some v → w.cell? ⟨B, o + i, none⟩ = some v
theorem CellsW.below {w W : World} {B o : Nat} {cs : List Value} (h : CellsW w B o cs) (hb : Below w.heap.size w W) : CellsW W B o cs :=
  ⟨Nat.lt_of_lt_of_le h.1 hb.size, fun i v hi => by rw [hb.cell (p := ⟨B, o + i, none⟩) h.1]; exact h.2 i v hi⟩
/-- a row of known cells, with its room -/
def RowW (w : World) (B o cap : Nat) (cs : List Value) : Prop := CellsW w B o cs ∧ cs.length ≤ cap ∧ ∃ arr e f, w.heap[B]? = some (.cells arr e f) ∧ o + cap ≤ arr.size
theorem RowW.below {w W : World} {B o cap : Nat} {cs : List Value} (h : RowW w B o cap cs) (hb : Below w.heap.size w W) : RowW W B o cap cs := by
  obtain ⟨h1, h2, arr, e, f, h3, h4⟩ := h
  exact ⟨h1.below hb, h2, arr, e, f, (hb.block _ h1.1).trans h3, h4⟩
/-- the entry of the call 7 in the call taker d: the nodes x, the answers l, the interview I -/
def EntryW (w : World) (d dof x : Nat) (l : List Int) (Ib Io : Nat) : Prop := ∃ sb so M X xo L lo G go rep S,
  CellsW w d dof [.int .i64 0, .int .i64 3, .int .i64 9, .int .i64 20, .int .i64 4, .pointer (some ⟨sb, so, none⟩), .map (some M)] ∧ sb < w.heap.size ∧
  w.heap[M]? = some (.map ⟨[⟨.int .i64 7, .pointer (some ⟨X, xo, none⟩), 0⟩]⟩ 1) ∧
  CellsW w X xo [.pointer (some ⟨L, lo, none⟩), .int .i64 1, .int .i64 5, .pointer (some ⟨G, go, none⟩), .pointer (some ⟨Ib, Io, none⟩), .int .i64 rep] ∧ Ib < w.heap.size ∧
  CellsW w L lo [.int .i64 7, .int .i64 2, .int .i64 (-1), .int .i64 0, .int .i64 1, .string mainS, .int .i64 1, S] ∧
  WordsAt w G go (w1 x) ∧ ((d ≠ M ∧ d ≠ X ∧ d ≠ L ∧ d ≠ G) ∧ (M ≠ X ∧ M ≠ L ∧ M ≠ G) ∧ (X ≠ L ∧ X ≠ G) ∧ L ≠ G) ∧
  ((l = [] ∧ S = .slice none 0 0) ∨ ∃ A ao cc, S = .slice (some ⟨A, ao, none⟩) l.length cc ∧ 0 < l.length ∧ RowW w A ao cc (l.map (Value.int .i64)) ∧ A ≠ d ∧ A ≠ M ∧ A ≠ X ∧ A ≠ L ∧ A ≠ G)
theorem EntryW.below {w W : World} {d dof x : Nat} {l : List Int} {Ib Io : Nat} (h : EntryW w d dof x l Ib Io) (hb : Below w.heap.size w W) : EntryW W d dof x l Ib Io := by
  obtain ⟨sb, so, M, X, xo, L, lo, G, go, rep, S, h1, h2, h3, h4, h5, h6, h7, h8, h9⟩ := h
  have hM : M < w.heap.size := (Array.getElem?_eq_some_iff.1 h3).1
  refine ⟨sb, so, M, X, xo, L, lo, G, go, rep, S, h1.below hb, Nat.lt_of_lt_of_le h2 hb.size, (hb.block _ hM).trans h3, h4.below hb, Nat.lt_of_lt_of_le h5 hb.size, h6.below hb, h7.below hb, h8, ?_⟩
  rcases h9 with h9 | ⟨A, ao, cc, q1, q2, q3, q4⟩
  · exact .inl h9
  · exact .inr ⟨A, ao, cc, q1, q2, q3.below hb, q4⟩
section
variable [OTab] [OVal]
theorem cellsW_of {m : Map} {st : St} {w : World} (hr : Rel Tryz.prog m st w) {b n : Nat} {x : M} {vs cvs : List Value} (hx : m b = some x) (hl : loadN st ⟨b, 0, none⟩ n = some vs) (hc : concL m vs = some cvs) : CellsW w x.blk x.sh cvs := by
  obtain ⟨l', hl', _, hcell, _⟩ := loadN_sound hr (a := ⟨b, 0, none⟩) hx hl
  have e : l' = cvs := Option.some.inj (hl'.symm.trans hc)
  subst e
  exact ⟨hr.inb _ _ hx, fun i v hi => hcell i v hi⟩
theorem loadN_cells {st : St} {b n : Nat} {l : List Value} (h : loadN st ⟨b, 0, none⟩ n = some l) : ∃ k c, st.mem.get b = some (.cells k c) ∧ n ≤ k := by
  unfold loadN at h
  obtain ⟨_, h1⟩ := gd_some h
  obtain ⟨n', c, hk, h2⟩ := cellsAt_some h1
  obtain ⟨hle, _⟩ := gd_some h2
  have hle' : Nat.add 0 n ≤ n' := Nat.le_of_ble_eq_true hle
  exact ⟨n', c, hk, by simpa using hle'⟩
theorem loadN_live {st : St} {b n : Nat} {l : List Value} (h : loadN st ⟨b, 0, none⟩ n = some l) : ∃ k, st.mem.get b = some k := by
  unfold loadN at h
  obtain ⟨_, h1⟩ := gd_some h
  obtain ⟨n', c, hk, _⟩ := cellsAt_some h1
  exact ⟨_, hk⟩
end
end Go.Proofs.YtnfmgkkhejminaaGreatDoor

namespace Go.Proofs.YtnfmgkkhejminaaGreatDoor
open Go Go.RowKit Go.Ev Wi
theorem apart_cons {b : Nat} {r : List Nat} (h : apart (b :: r) = true) : 3 ≤ b ∧ (∀ c ∈ r, b ≠ c) ∧ apart r = true := by
  unfold apart at h
  simp only [Bool.and_eq_true, List.all_eq_true] at h
  obtain ⟨⟨h1, h2⟩, h3⟩ := h
  refine ⟨Nat.le_of_ble_eq_true h1, fun c hc e => ?_, h3⟩
  have := h2 c hc
  rw [e, Nat.beq_refl] at this
  cases this
section
variable [OTab] [OVal]
/-- the entry, as it lies in a world -/
theorem entry_world {k c : Nat} {sv : List Value} {d : Nat} {iv : Bool} {st : St} (h : entryOk k c sv d iv st = true) {m : Map} {w : World} {x : Nat} {l : List Int} {xd : M} (hr : Rel Tryz.prog m st w) (hd : m d = some xd)
    (h78 : OVal.val 78 = .int .u64 x) (hsv : concL m sv = some (l.map (Value.int .i64))) (hk : k = l.length) :
    ∃ I xi, m I = some xi ∧ EntryW w xd.blk xd.sh x l xi.blk xi.sh ∧ (iv = true → ivOk k c I st = true) := by
  obtain ⟨sb, so, M, X, L, G, I, rep, h1, h2, h3, h4, h5, h6⟩ := entry_some h
  obtain ⟨hap, S, h7, h8⟩ := line_some h5
  obtain ⟨_, a1, hap1⟩ := apart_cons hap
  obtain ⟨_, a2, hap2⟩ := apart_cons hap1
  obtain ⟨_, a3, hap3⟩ := apart_cons hap2
  obtain ⟨_, a4, _⟩ := apart_cons hap3
  simp only [List.mem_cons, List.not_mem_nil, or_false, forall_eq_or_imp, forall_eq] at a1 a2 a3 a4
  -- the call taker
  obtain ⟨l1, e1, _, hc1, _⟩ := loadN_sound hr (a := ⟨d, 0, none⟩) hd h1
  obtain ⟨v0, r0, q0, e1_1, rfl⟩ := concL_cons e1
  obtain ⟨v1, r1, q1, e1_2, rfl⟩ := concL_cons e1_1
  obtain ⟨v2, r2, q2, e1_3, rfl⟩ := concL_cons e1_2
  obtain ⟨v3, r3, q3, e1_4, rfl⟩ := concL_cons e1_3
  obtain ⟨v4, r4, q4, e1_5, rfl⟩ := concL_cons e1_4
  obtain ⟨v5, r5, q5, e1_6, rfl⟩ := concL_cons e1_5
  obtain ⟨v6, r6, q6, e1_7, rfl⟩ := concL_cons e1_6
  have e6 : r6 = [] := by simpa using e1_7.symm
  subst e6
  rw [conc_int] at q0 q1 q2 q3 q4
  cases q0; cases q1; cases q2; cases q3; cases q4
  obtain ⟨xs, hxs, _, rfl⟩ := conc_pointer q5
  rw [conc] at q6
  obtain ⟨xM, hM, rfl⟩ := Option.map_eq_some_iff.1 q6
  -- the map
  obtain ⟨hM0, ces, hMc, hce⟩ := rel_map hr hM h2
  simp only [concE] at hce
  split at hce
  case h_2 => cases hce
  rename_i key val rr k1 k2 k3
  cases hce
  have k3' : rr = [] := by simpa using k3.symm
  subst k3'
  rw [conc_int] at k1
  cases k1
  obtain ⟨xX, hX, _, rfl⟩ := conc_pointer k2
  -- the entry
  obtain ⟨l2, e2, _, hc2, _⟩ := loadN_sound hr (a := ⟨X, 0, none⟩) hX h3
  obtain ⟨u0, s0, p0, e2_1, rfl⟩ := concL_cons e2
  obtain ⟨u1, s1, p1, e2_2, rfl⟩ := concL_cons e2_1
  obtain ⟨u2, s2, p2, e2_3, rfl⟩ := concL_cons e2_2
  obtain ⟨u3, s3, p3, e2_4, rfl⟩ := concL_cons e2_3
  obtain ⟨u4, s4, p4, e2_5, rfl⟩ := concL_cons e2_4
  obtain ⟨u5, s5, p5, e2_6, rfl⟩ := concL_cons e2_5
  have e5 : s5 = [] := by simpa using e2_6.symm
  subst e5
  rw [conc_int] at p1 p2 p5
  cases p1; cases p2; cases p5
  obtain ⟨xL, hL, _, rfl⟩ := conc_pointer p0
  obtain ⟨xG, hG, _, rfl⟩ := conc_pointer p3
  obtain ⟨xI, hI, _, rfl⟩ := conc_pointer p4
  -- the line
  obtain ⟨l3, e3, _, hc3, _⟩ := loadN_sound hr (a := ⟨L, 0, none⟩) hL h7
  obtain ⟨t0, y0, z0, e3_1, rfl⟩ := concL_cons e3
  obtain ⟨t1, y1, z1, e3_2, rfl⟩ := concL_cons e3_1
  obtain ⟨t2, y2, z2, e3_3, rfl⟩ := concL_cons e3_2
  obtain ⟨t3, y3, z3, e3_4, rfl⟩ := concL_cons e3_3
  obtain ⟨t4, y4, z4, e3_5, rfl⟩ := concL_cons e3_4
  obtain ⟨t5, y5, z5, e3_6, rfl⟩ := concL_cons e3_5
  obtain ⟨t6, y6, z6, e3_7, rfl⟩ := concL_cons e3_6
  obtain ⟨t7, y7, z7, e3_8, rfl⟩ := concL_cons e3_7
  have e7 : y7 = [] := by simpa using e3_8.symm
  subst e7
  rw [conc_int] at z0 z1 z2 z3 z4 z6
  cases z0; cases z1; cases z2; cases z3; cases z4; cases z6
  have e5 : t5 = .string mainS := by
    have : conc m (.string mainS) = some (.string mainS) := by simp [conc]
    exact Option.some.inj (z5.symm.trans this)
  subst e5
  -- the words
  obtain ⟨cs, hGk, hGg⟩ := of_cellsAre h4
  have hws : WordsAt w xG.blk xG.sh (w1 x) := by
    obtain ⟨arr, ee, lo, hi, g1, g2, g3, g4, g5, _⟩ := rel_cells hr hG hGk
    refine ⟨w1_len x, hr.inb _ _ hG, fun i hi' => ?_⟩
    have hw9 : (words9 (.float .f64 78)).length = 64 := by simp [words9]
    obtain ⟨v, cv, k1, k2, k3⟩ := g5 i (by rw [hw9]; exact hi')
    rw [hGg i (by rw [hw9]; exact hi')] at k1
    have := w1_conc m (by rw [conc, h78]) i v k1
    rw [this] at k2
    cases k2
    simp only [World.cell?, g1]
    exact k3
  obtain ⟨kd, hkd⟩ := loadN_live h1
  obtain ⟨kX, hkX⟩ := loadN_live h3
  obtain ⟨kL, hkL⟩ := loadN_live h7
  have D := fun b c x y kb kc (hbc : b ≠ c) h1 h2 h3 h4 => hr.dist b c x y kb kc hbc h1 h2 h3 h4
  refine ⟨I, xI, hI, ⟨xs.blk, _, xM.blk, xX.blk, _, xL.blk, _, xG.blk, _, rep, t7, ⟨hr.inb _ _ hd, fun i v hi => hc1 i v hi⟩, hr.inb _ _ hxs, hMc, ⟨hr.inb _ _ hX, fun i v hi => hc2 i v hi⟩, hr.inb _ _ hI, ⟨hr.inb _ _ hL, fun i v hi => hc3 i v hi⟩, hws,
    ⟨⟨D d M _ _ _ _ a1.1 hd hM hkd h2, D d X _ _ _ _ a1.2.1 hd hX hkd hkX, D d L _ _ _ _ a1.2.2.1 hd hL hkd hkL, D d G _ _ _ _ a1.2.2.2 hd hG hkd hGk⟩, ⟨D M X _ _ _ _ a2.1 hM hX h2 hkX, D M L _ _ _ _ a2.2.1 hM hL h2 hkL, D M G _ _ _ _ a2.2.2 hM hG h2 hGk⟩, ⟨D X L _ _ _ _ a3.1 hX hL hkX hkL, D X G _ _ _ _ a3.2 hX hG hkX hGk⟩, D L G _ _ _ _ a4 hL hG hkL hGk⟩, ?_⟩, h6⟩
  rcases h8 with ⟨hk0, rfl⟩ | ⟨A, rfl, hk0, hapA, hA, hpl⟩
  · refine .inl ⟨List.length_eq_zero_iff.1 (by omega), ?_⟩
    have : conc m (.slice none 0 0) = some (.slice none 0 0) := by simp [conc]
    exact Option.some.inj (z7.symm.trans this)
  · obtain ⟨_, a5, _⟩ := apart_cons hapA
    simp only [List.mem_cons, List.not_mem_nil, or_false, forall_eq_or_imp, forall_eq] at a5
    obtain ⟨xA, hxA, _, rfl⟩ := conc_slice rfl z7
    have hxA' : m A = some xA := hxA
    obtain ⟨kA, hkA⟩ := loadN_live hA
    obtain ⟨l4, e4, hl4, hc4, _⟩ := loadN_sound hr (a := ⟨A, 0, none⟩) hxA' hA
    have e4' : l4 = l.map (Value.int .i64) := Option.some.inj (e4.symm.trans hsv)
    subst e4'
    obtain ⟨nA, cA, hkA', hle⟩ := loadN_cells hA
    obtain ⟨arr, ee, lo, hi, g1, g2, g3, _⟩ := rel_cells hr hxA' hkA'
    have hcap : capC xA 0 2 = xA.lim := by unfold capC; simp
    exact .inr ⟨xA.blk, xA.sh, xA.lim, by rw [← hk, ← hcap]; rfl, by rw [← hk]; exact hk0, ⟨⟨hr.inb _ _ hxA', fun i v hi => hc4 i v hi⟩, by rw [List.length_map, ← hk]; omega, arr, ee, (lo, hi), g1, g2⟩, D A d _ _ _ _ a5.1 hxA' hd hkA hkd, D A M _ _ _ _ a5.2.1 hxA' hM hkA h2, D A X _ _ _ _ a5.2.2.1 hxA' hX hkA hkX, D A L _ _ _ _ a5.2.2.2.1 hxA' hL hkA hkL, D A G _ _ _ _ a5.2.2.2.2 hxA' hG hkA hGk⟩
end
end Go.Proofs.YtnfmgkkhejminaaGreatDoor
