/-
  Checksum of a call taker with one call is a function of its answers and nodes; what Call answers.
-/
import Derived.Test.YtnfmgkkhejminaaGreatDoorStStaM
import Derived.Test.YtnfmgkkhejminaaGreatDoorStStaQa
import Derived.Test.YtnfmgkkhejminaaGreatDoorStStaQc
import Derived.MapKept
import Derived.WalkSmall
import Derived.BigQuiet
import Derived.StillTailTactics
namespace Go.Ev
variable {P : Program}
theorem mapE_none {E : List (Nat × Blk × M)} {D : List (Nat × M)} {N b : Nat} (hE : ∀ e ∈ E, e.1 < N) (hD : ∀ e ∈ D, e.1 < N) (hb : N ≤ b) : mapE E D b = none := by
  unfold mapE
  have h1 : E.find? (fun e => e.1 == b) = none := List.find?_eq_none.2 fun e he => by
    have := hE e he
    simp only [beq_iff_eq]
    omega
  have h2 : D.find? (fun e => e.1 == b) = none := List.find?_eq_none.2 fun e he => by
    have := hD e he
    simp only [beq_iff_eq]
    omega
  rw [h1, h2]
  rfl
end Go.Ev
namespace Go.Proofs.YtnfmgkkhejminaaGreatDoor
open Go Go.RowKit Go.Ev Wi
/-- nothing but bytes lies in the first block -/
def TabU8 (w : World) : Prop := ∀ off v, w.cell? ⟨0, off, none⟩ = some v → ∃ z, v = .int .u8 z
theorem TabU8.ne {w : World} (h : TabU8 w) {B off : Nat} {k : IntKind} {z : Int} (hk : k ≠ .u8) (hc : w.cell? ⟨B, off, none⟩ = some (.int k z)) : 0 ≠ B := by
  rintro rfl
  obtain ⟨y, hy⟩ := h _ _ hc
  cases hy
  exact hk rfl
section
variable [OTab] [OVal]
theorem tab_blk {m : Map} {w : World} (hT : t64.In w) : BlkRel m (.cells t64.vals.length (fillT t64.vals 0 .lf)) ⟨0, 0, t64.vals.length⟩ w := by
  obtain ⟨arr, e, lo, hi, he, hs, hf, hc⟩ := hT
  refine ⟨arr, e, lo, hi, he, ?_, Nat.le_refl _, fun _ => hf, fun i hi => ?_, fun ht => ?_⟩
  · show 0 + t64.vals.length ≤ arr.size
    omega
  · have hg : (fillT t64.vals 0 .lf).get i = t64.vals[i]? := by rw [fillT_get, if_pos (by omega)]; simp
    have hz : t64.vals[i]? = some t64.vals[i] := List.getElem?_eq_getElem hi
    refine ⟨t64.vals[i], t64.vals[i], by rw [hg, hz], ?_, ?_⟩
    · simp [Tab.vals, conc]
    · show arr[0 + i]? = _
      rw [Nat.zero_add, hc i hi, hz]
  · have hvl : t64.vals.length ≤ tagI := ht
    exact ⟨fun k t' e' => by (rw [fillT_get, if_neg (by omega), get_lf] at e'; cases e'), fun k t' e' => by (rw [fillT_get, if_neg (by omega), get_lf] at e'; cases e')⟩
end
/-- the letter that Checksum answers -/
noncomputable def sumCode (n L : Nat) : Nat := match sumRun n L with
  | some (.float _ i, _) => i
  | _ => 0
/-- what Checksum answers -/
noncomputable def sumZ (l : List Int) (x : Nat) : Int := numV (valC (baseC l x) (sumCode l.length (pop9 x)))
theorem letter_some {n L : Nat} (h : okC n L = true) : ∃ st, sumRun n L = some (.float .f64 (sumCode n L), st) ∧ 22 ≤ st.low ∧ p70 ≤ sumCode n L := by
  unfold okC isLetter at h
  split at h
  · rename_i i st hr
    rw [Bool.and_eq_true] at h
    have e : sumCode n L = i := by unfold sumCode; rw [hr]
    exact ⟨st, by rw [hr, e], Nat.le_of_ble_eq_true h.1, by rw [e]; exact Nat.le_of_ble_eq_true h.2⟩
  · cases h
theorem okC_all {n L : Nat} (hn : n ≤ 10) (h1 : 1 ≤ L) (h9 : L ≤ 9) : okC n L = true := by
  have key : ∀ {n : Nat}, (List.range 9).all (fun j => okC n (Nat.succ j)) = true → okC n L = true := fun {n} h => by
    have := List.all_eq_true.1 h (L - 1) (List.mem_range.2 (by omega))
    rwa [show Nat.succ (L - 1) = L by omega] at this
  match n, hn with
  | 0, _ => exact key sumR0
  | 1, _ => exact key sumR1
  | 2, _ => exact key sumR2
  | 3, _ => exact key sumR3
  | 4, _ => exact key sumR4
  | 5, _ => exact key sumR5
  | 6, _ => exact key sumR6
  | 7, _ => exact key sumR7
  | 8, _ => exact key sumR8
  | 9, _ => exact key sumR9
  | 10, _ => exact key sumR10
theorem callsOk_C {l : List Int} {x : Nat} (hx : x < 512) (n : Nat) (V : @OVal (tabC n (pop9 x))) (hV : @OVal.val _ V = valC (baseC l x)) : @CallsOk (tabC n (pop9 x)) V Tryz.prog := by
  letI : OTab := tabC n (pop9 x)
  letI : OVal := V
  refine ⟨fun r hr => ?_, fun f args st r st' v h => (by cases h)⟩
  rw [hV]
  rcases hr with h | ⟨h1, h2⟩
  · exact callsC_hold hx r h
  · have := genA_holds (l := l) (a := x) h1
    obtain ⟨f, args, need, z⟩ := r
    simp only at h2 this
    subst h2
    exact this
/-- Checksum of a call taker that holds the call 7 alone: it hangs on the answers and the nodes -/
theorem sum_is {w : World} {d dof x Ib Io : Nat} {l : List Int} (hE : EntryW w d dof x l Ib Io) (hx0 : x ≠ 0) (hx : x < 512) (hs : small l) (hl : l.length ≤ 10) (h2 : 2 ≤ w.heap.size) (hT : t64.In w) (hU : TabU8 w) :
    Calls Tryz.prog 10 #[.pointer (some ⟨d, dof, none⟩)] w fun e w' => e = .returned (.int .u64 (sumZ l x)) ∧ Below w.heap.size w w' := by
  obtain ⟨sb, so, M, X, xo, L, lo, G, go, rep, S, c1, c2, c3, c4, c5, c6, c7, ⟨⟨n1, n2, n3, n4⟩, ⟨n5, n6, n7⟩, ⟨n8, n9⟩, n10⟩, c9⟩ := hE
  have hM0 : 0 ≠ M := by
    rintro rfl
    obtain ⟨arr, e, lo, hi, he, _⟩ := hT
    rw [show t64.g = 0 from rfl, c3] at he
    cases he
  have hd0 : 0 ≠ d := hU.ne (by decide) (c1.2 0 _ rfl)
  have hX0 : 0 ≠ X := hU.ne (by decide) (c4.2 1 _ rfl)
  have hL0 : 0 ≠ L := hU.ne (by decide) (c6.2 0 _ rfl)
  have hG0 : 0 ≠ G := hU.ne (by decide) (c7.2.2 0 (by omega))
  have hMs : M < w.heap.size := (Array.getElem?_eq_some_iff.1 c3).1
  have hpop := (bits_word hx).2.2 hx0
  obtain ⟨st', hrun, hlow, hcode⟩ := letter_some (okC_all hl hpop (pop9_le x))
  letI : OTab := tabC l.length (pop9 x)
  letI : OVal := ⟨valC (baseC l x), valC_shape l x, words_hold hx (said_hold hs l.length hl) _ (Nat.le_refl _), fun _ => False, #[]⟩
  have hC : CallsOk Tryz.prog := callsOk_C hx l.length _ rfl
  have h78 : ∀ m : Map, conc m (.float .f64 78) = some (.int .u64 x) := fun m => by
    rw [conc]
    exact congrArg some (v_word (l := l) (a := x) (j := 0) (by omega))
  have fin : ∀ (E : List (Nat × Blk × Ev.M)) (D : List (Nat × Ev.M)), stC l.length = stB (E.map fun e => (e.1, e.2.1)) 22 → mapE E D 2 = some ⟨d, dof, 7⟩ → (E.map (·.1)).Nodup → (E.map (·.2.2.blk)).Nodup → (∀ e ∈ E, e.2.2.blk < w.heap.size) → (∀ e ∈ D, e.2.blk < w.heap.size) →
      (∀ e ∈ E, BlkRel (mapE E D) e.2.1 e.2.2 w) → (∀ e ∈ E, e.1 < 22) → (∀ e ∈ D, e.1 < 22) → (∀ g, g < Tryz.prog.globals.size → ∃ lim, mapE E D g = some ⟨g, 0, lim⟩) →
      Calls Tryz.prog 10 #[.pointer (some ⟨d, dof, none⟩)] w fun e w' => e = .returned (.int .u64 (sumZ l x)) ∧ Below w.heap.size w w' := by
    intro E D e1 e2 e3 e4 e5 e6 e7 e8 e9 e10
    have hrel := rel_list (P := Tryz.prog) e3 e4 e5 e6 e7 e8 e10 (fun _ h => h)
    rw [← e1] at hrel
    have hnx : (stC l.length).nxt = 22 := by rw [e1]; rfl
    refine (piece mix hC (f := 10) (args := [.pointer (some ⟨2, 0, none⟩)]) (cargs := [.pointer (some ⟨d, dof, none⟩)]) hrun hrel (fun b hb => mapE_none e8 e9 (by rw [hnx] at hb; exact hb)) (concL_cons' (by rw [conc_pointer' e2]; rfl) (concL_nil _)) (by rw [hnx]; exact hlow)).mono ?_
    rintro e w' ⟨m', cv, rfl, hcv, _, _, hb, _⟩
    rw [conc] at hcv
    have hv : valC (baseC l x) (sumCode l.length (pop9 x)) = cv := Option.some.inj hcv
    refine ⟨?_, hb⟩
    rw [← hv]
    unfold sumZ
    rw [valC_high hcode]
    rfl
  have q20 : ∀ {m : Map}, m 20 = some ⟨sb, so, 0⟩ → m 3 = some ⟨M, 0, 0⟩ → concL m deskV = some [.int .i64 0, .int .i64 3, .int .i64 9, .int .i64 20, .int .i64 4, .pointer (some ⟨sb, so, none⟩), .map (some M)] := fun {m} h1 h2 => by
    simp [deskV, concL, conc, h1, h2]
  have q4 : ∀ {m : Map}, m 5 = some ⟨L, lo, 8⟩ → m 6 = some ⟨G, go, 64⟩ → m 21 = some ⟨Ib, Io, 0⟩ → concL m entryV = some [.pointer (some ⟨L, lo, none⟩), .int .i64 1, .int .i64 5, .pointer (some ⟨G, go, none⟩), .pointer (some ⟨Ib, Io, none⟩)] := fun {m} h1 h2 h3 => by
    simp [entryV, concL, conc, h1, h2, h3]
  have q3 : ∀ {m : Map}, m 4 = some ⟨X, xo, 5⟩ → BlkRel m (.map [⟨.int .i64 7, .pointer (some ⟨4, 0, none⟩), 0⟩] 1) ⟨M, 0, 0⟩ w := fun {m} h1 => by
    refine ⟨rfl, _, c3, ?_⟩
    simp [concE, conc, h1]
  have q5 : ∀ {m : Map}, conc m (ansV l.length) = some S → concL m (lineV l.length) = some [.int .i64 7, .int .i64 2, .int .i64 (-1), .int .i64 0, .int .i64 1, .string mainS, .int .i64 1, S] := fun {m} h1 => by
    simp [lineV, concL, conc, h1, mainS]
  have q6 : ∀ {m : Map}, BlkRel m (blkR (words9 (.float .f64 78))) ⟨G, go, 64⟩ w := fun {m} => by
    obtain ⟨arr, ee, lo', hi, g1, g2, g3⟩ := c7.arr
    exact blkR_rel ⟨arr, ee, lo', hi, g1, g2, fun i v hi => by
      have hi64 : i < 64 := by have := (List.getElem?_eq_some_iff.1 hi).1; simpa [words9] using this
      exact ⟨_, w1_conc _ (h78 _) i v hi, g3 i hi64⟩⟩ (by simp [words9]) (by simp [words9])
  have c4' : CellsW w X xo [.pointer (some ⟨L, lo, none⟩), .int .i64 1, .int .i64 5, .pointer (some ⟨G, go, none⟩), .pointer (some ⟨Ib, Io, none⟩)] := ⟨c4.1, fun i v hi => c4.2 i v (by
    match i, hi with
    | 0, hi => exact hi
    | 1, hi => exact hi
    | 2, hi => exact hi
    | 3, hi => exact hi
    | 4, hi => exact hi
    | i + 5, hi => simp at hi)⟩
  have t64l : t64.vals.length = 64 := by decide
  have glob : ∀ {m : Map} {a b : Nat}, m 0 = some ⟨0, 0, a⟩ → m 1 = some ⟨1, 0, b⟩ → ∀ g, g < Tryz.prog.globals.size → ∃ lim, m g = some ⟨g, 0, lim⟩ := fun {m a b} h0 h1 g hg => by
    rw [globs] at hg
    match g, hg with
    | 0, _ => exact ⟨_, h0⟩
    | 1, _ => exact ⟨_, h1⟩
  rcases c9 with ⟨rfl, rfl⟩ | ⟨A, ao, cc, rfl, hpos, ⟨a1, a2, arrA, eA, fA, a3, a4⟩, b1, b2, b3, b4, b5⟩
  · refine fin [(0, .cells t64.vals.length (fillT t64.vals 0 .lf), ⟨0, 0, t64.vals.length⟩), (2, blkR deskV, ⟨d, dof, 7⟩), (3, .map [⟨.int .i64 7, .pointer (some ⟨4, 0, none⟩), 0⟩] 1, ⟨M, 0, 0⟩), (4, blkR entryV, ⟨X, xo, 5⟩), (5, blkR (lineV 0), ⟨L, lo, 8⟩), (6, blkR (words9 (.float .f64 78)), ⟨G, go, 64⟩)]
      [(1, ⟨1, 0, 0⟩), (20, ⟨sb, so, 0⟩), (21, ⟨Ib, Io, 0⟩)] rfl rfl (by simp) (by simp [hd0, hM0, hX0, hL0, hG0, n1, n2, n3, n4, n5, n6, n7, n8, n9, n10]) ?_ ?_ ?_ (by simp) (by simp) (glob rfl rfl)
    · simp only [List.mem_cons, List.not_mem_nil, or_false, forall_eq_or_imp, forall_eq]
      exact ⟨by omega, c1.1, hMs, c4.1, c6.1, c7.2.1⟩
    · simp only [List.mem_cons, List.not_mem_nil, or_false, forall_eq_or_imp, forall_eq]
      exact ⟨by omega, c2, c5⟩
    · simp only [List.mem_cons, List.not_mem_nil, or_false, forall_eq_or_imp, forall_eq]
      exact ⟨tab_blk hT, cells_blk c1 (q20 rfl rfl) rfl (by simp [deskV]) (by simp [deskV]), q3 rfl, cells_blk c4' (q4 rfl rfl rfl) rfl (by simp [entryV]) (by simp [entryV]), cells_blk c6 (q5 (by simp [ansV, conc])) rfl (by simp [lineV]) (by simp [lineV]), q6⟩
  · obtain ⟨n, hn⟩ : ∃ n, l.length = n + 1 := ⟨l.length - 1, by omega⟩
    refine fin [(7, blkR (lettersV l.length), ⟨A, ao, cc⟩), (0, .cells t64.vals.length (fillT t64.vals 0 .lf), ⟨0, 0, t64.vals.length⟩), (2, blkR deskV, ⟨d, dof, 7⟩), (3, .map [⟨.int .i64 7, .pointer (some ⟨4, 0, none⟩), 0⟩] 1, ⟨M, 0, 0⟩), (4, blkR entryV, ⟨X, xo, 5⟩), (5, blkR (lineV l.length), ⟨L, lo, 8⟩), (6, blkR (words9 (.float .f64 78)), ⟨G, go, 64⟩)]
      [(1, ⟨1, 0, 0⟩), (20, ⟨sb, so, 0⟩), (21, ⟨Ib, Io, 0⟩)] (by rw [hn]; rfl) rfl (by simp) (by simp [b1, b2, b3, b4, b5, Ne.symm (hU.ne (B := A) (off := ao + 0) (k := .i64) (z := l.getD 0 0) (by decide) (a1.2 0 _ (by
        cases l with
        | nil => simp at hpos
        | cons y r => simp))), hd0, hM0, hX0, hL0, hG0, n1, n2, n3, n4, n5, n6, n7, n8, n9, n10]) ?_ ?_ ?_ (by simp) (by simp) (glob rfl rfl)
    · simp only [List.mem_cons, List.not_mem_nil, or_false, forall_eq_or_imp, forall_eq]
      exact ⟨a1.1, by omega, c1.1, hMs, c4.1, c6.1, c7.2.1⟩
    · simp only [List.mem_cons, List.not_mem_nil, or_false, forall_eq_or_imp, forall_eq]
      exact ⟨by omega, c2, c5⟩
    · simp only [List.mem_cons, List.not_mem_nil, or_false, forall_eq_or_imp, forall_eq]
      have hA : ∀ {m : Map}, BlkRel m (blkR (lettersV l.length)) ⟨A, ao, cc⟩ w := fun {m} => by
        obtain ⟨lo', hi'⟩ := fA
        refine blkR_rel ⟨arrA, eA, lo', hi', a3, a4, fun i v hi => ?_⟩ (by simp [lettersV]; simpa using a2) (by simp [lettersV]; omega)
        have hil : i < l.length := by have := (List.getElem?_eq_some_iff.1 hi).1; simpa [lettersV] using this
        have hv : v = .float .f64 i := by simpa [lettersV, hil] using hi.symm
        subst hv
        refine ⟨.int .i64 (l.getD i 0), ?_, ?_⟩
        · rw [conc]
          exact congrArg some (v_said (l := l) (a := x) (i := i) (by omega))
        · have := a1.2 i (.int .i64 (l.getD i 0)) (by simp [hil])
          simp only [World.cell?, a3] at this
          exact this
      exact ⟨hA, tab_blk hT, cells_blk c1 (q20 rfl rfl) rfl (by simp [deskV]) (by simp [deskV]), q3 rfl, cells_blk c4' (q4 rfl rfl rfl) rfl (by simp [entryV]) (by simp [entryV]), cells_blk c6 (q5 (by
        have : ∀ {m : Map}, m 7 = some ⟨A, ao, cc⟩ → conc m (ansV l.length) = some (.slice (some ⟨A, ao, none⟩) l.length cc) := fun {m} h7 => by
          rw [hn]
          show conc m (.slice (some ⟨7, 0, none⟩) (n + 1) 2) = _
          rw [conc_slice' h7]
          simp [capC]
        exact this rfl)) (by simp [lineV]) (by simp [lineV]) (by simp [lineV]), q6⟩
end Go.Proofs.YtnfmgkkhejminaaGreatDoor

namespace Go.Proofs.YtnfmgkkhejminaaGreatDoor
open Go Go.RowKit Go.Ev Wi
/-! ## List of the nodes -/
theorem slice_some {n L : Nat} {r : Option (Value × St)} (h : isSlice n L r = true) : ∃ b o c st, r = some (.slice (some ⟨b, o, none⟩) L c, st) ∧ n ≤ st.low := by
  unfold isSlice at h
  split at h
  · rename_i b o l c st
    rw [Bool.and_eq_true] at h
    have e := Nat.eq_of_beq_eq_true h.2
    subst e
    exact ⟨b, o, c, st, rfl, Nat.le_of_ble_eq_true h.1⟩
  · cases h
theorem okL_all {L : Nat} (h1 : 1 ≤ L) (h9 : L ≤ 9) : okL L = true := by
  have := List.all_eq_true.1 listR (L - 1) (List.mem_range.2 (by omega))
  rwa [show Nat.succ (L - 1) = L by omega] at this
theorem callsOk_L {l : List Int} {x : Nat} (hx : x < 512) (V : @OVal (tabL2 (pop9 x))) (hV : @OVal.val _ V = valC (baseC l x)) : @CallsOk (tabL2 (pop9 x)) V Tryz.prog := by
  letI : OTab := tabL2 (pop9 x)
  letI : OVal := V
  refine ⟨fun r hr => ?_, fun f args st r st' v h => (by cases h)⟩
  rw [hV]
  rcases hr with h | ⟨h1, h2⟩
  · exact callsC_hold hx r h
  · cases h1
theorem list_is {w : World} {G go x : Nat} (hx0 : x ≠ 0) (hx : x < 512) (h2 : 2 ≤ w.heap.size) (hT : t64.In w) (hU : TabU8 w) (hW : WordsAt w G go (w1 x)) :
    Calls Tryz.prog 93 #[.agg #[.pointer (some ⟨G, go, none⟩)]] w fun e w' => (∃ b o n c, e = .returned (.slice (some ⟨b, o, none⟩) n c) ∧ (n : Int) ≤ 9) ∧ Below w.heap.size w w' := by
  have hG0 : 0 ≠ G := hU.ne (by decide) (hW.2.2 0 (by omega))
  have hpop := (bits_word hx).2.2 hx0
  obtain ⟨b, o, c, st', hrun, hlow⟩ := slice_some (okL_all hpop (pop9_le x))
  letI : OTab := tabL2 (pop9 x)
  letI : OVal := ⟨valC (baseC [] x), valC_shape [] x, words_hold hx (fun r hr => by cases hr) _ (Nat.le_refl _), fun _ => False, #[]⟩
  have hC : CallsOk Tryz.prog := callsOk_L (l := []) hx _ rfl
  have h78 : ∀ m : Map, conc m (.float .f64 78) = some (.int .u64 x) := fun m => by
    rw [conc]
    exact congrArg some (v_word (l := []) (a := x) (j := 0) (by omega))
  have q6 : ∀ {m : Map}, BlkRel m (blkR (words9 (.float .f64 78))) ⟨G, go, 64⟩ w := fun {m} => by
    obtain ⟨arr, ee, lo', hi, g1, g2, g3⟩ := hW.arr
    exact blkR_rel ⟨arr, ee, lo', hi, g1, g2, fun i v hi => by
      have hi64 : i < 64 := by have := (List.getElem?_eq_some_iff.1 hi).1; simpa [words9] using this
      exact ⟨_, w1_conc _ (h78 _) i v hi, g3 i hi64⟩⟩ (by simp [words9]) (by simp [words9])
  have hrel := rel_list (P := Tryz.prog) (N := 22) (w := w) (E := [(0, .cells t64.vals.length (fillT t64.vals 0 .lf), ⟨0, 0, t64.vals.length⟩), (6, blkR (words9 (.float .f64 78)), ⟨G, go, 64⟩)]) (D := [(1, ⟨1, 0, 0⟩)])
    (by simp) (by simp [hG0]) (by
      simp only [List.mem_cons, List.not_mem_nil, or_false, forall_eq_or_imp, forall_eq]
      exact ⟨by omega, hW.2.1⟩) (by
      simp only [List.mem_cons, List.not_mem_nil, or_false, forall_eq]
      omega) (by
      simp only [List.mem_cons, List.not_mem_nil, or_false, forall_eq_or_imp, forall_eq]
      exact ⟨tab_blk hT, q6⟩) (by simp) (fun g hg => by
      rw [globs] at hg
      match g, hg with
      | 0, _ => exact ⟨_, rfl⟩
      | 1, _ => exact ⟨_, rfl⟩) (fun _ h => h)
  refine (piece mix hC (f := 93) (args := [.agg ⟨[.pointer (some ⟨6, 0, none⟩)]⟩]) (cargs := [.agg ⟨[.pointer (some ⟨G, go, none⟩)]⟩]) hrun hrel (fun b hb => mapE_none (N := 22) (by simp) (by simp) hb) (concL_cons' (conc_agg' (concL_cons' (by rw [conc_pointer' (x := ⟨G, go, 64⟩) rfl]; rfl) (concL_nil _))) (concL_nil _)) hlow).mono ?_
  rintro e w' ⟨m', cv, rfl, hcv, _, _, hb, _⟩
  obtain ⟨y, hy, _, rfl⟩ := conc_slice (a := ⟨b, o, none⟩) rfl hcv
  exact ⟨⟨_, _, _, _, rfl, by have := pop9_le x; omega⟩, hb⟩
/-! ## small readers -/
set_option maxHeartbeats 4000000 in
set_option maxRecDepth 100000 in
theorem lineCall_is (L lo : Nat) (c : Int) (w : World) (h : w.cell? ⟨L, lo, none⟩ = some (.int .i64 c)) : Calls Tryz.prog 27 #[.pointer (some ⟨L, lo, none⟩)] w (Same (.int .i64 c) w) := by
  go_enter Tryz.func27, Tryz.ntmps27
  go_wp2
  go_ret
  exact ⟨rfl, rfl⟩
set_option maxHeartbeats 4000000 in
set_option maxRecDepth 100000 in
theorem owner_is (L lo : Nat) (c ep : Int) (w : World) (h : w.cell? ⟨L, lo + 3, none⟩ = some (.int .i64 c)) (h' : w.cell? ⟨L, lo + 4, none⟩ = some (.int .i64 ep)) : Calls Tryz.prog 26 #[.pointer (some ⟨L, lo, none⟩)] w (Gives (.tuple #[.int .i64 c, .int .i64 ep]) w) := by
  go_enter Tryz.func26, Tryz.ntmps26
  go_wp2
  go_quiet (fail)
  go_wp2
  refine bodyPost_ret (v := .tuple #[.int .i64 c, .int .i64 ep]) (by simp [results, Tryz.results26, go_sem]) rfl ⟨rfl, below_drewN (Below.refl _ _) _⟩
set_option maxHeartbeats 4000000 in
set_option maxRecDepth 100000 in
theorem epoch_is (X xo L lo : Nat) (c ep : Int) (w : World) (h0 : w.cell? ⟨X, xo, none⟩ = some (.pointer (some ⟨L, lo, none⟩))) (h : w.cell? ⟨L, lo + 3, none⟩ = some (.int .i64 c)) (h' : w.cell? ⟨L, lo + 4, none⟩ = some (.int .i64 ep)) : Calls Tryz.prog 28 #[.pointer (some ⟨X, xo, none⟩)] w (Gives (.int .i64 ep) w) := by
  have HO := Lib.hid (owner_is L lo c ep w h h')
  clear h h'
  go_enter Tryz.func28, Tryz.ntmps28
  go_wp2_with (go_at_call 26; go_loud (refine HO.out.mono ?_; rintro e W ⟨rfl, hb⟩))
  go_ret
  exact ⟨rfl, hb⟩
/-- a map of one entry: a look-up of its key -/
theorem run_lookup1 {P : Program} {W : World} {M clock born : Nat} {z : Int} {v : Value} {mt kt et : TypeId} (hm : P.underlying mt = some (.map kt et)) (hk : P.underlying kt = some (.int .i64)) (h : W.heap[M]? = some (.map ⟨[⟨.int .i64 z, v, born⟩]⟩ clock)) :
    (Instr.lookup mt (.map (some M)) (.int .i64 z) false).run P W = .ok v W := by
  have hf : Instr.findNow (.int .i64) (.int .i64 z) [⟨.int .i64 z, v, born⟩] 0 = some (some (0, v)) := by
    unfold Instr.findNow
    simp [Instr.sameNow]
  unfold Instr.lookup
  simp [Sem.run_bind, run_underlying hm, Go.MapKept.run_getObj_map h, Go.MapKept.run_checkKey (e := false) (n := 9999) hk (show Go.MapKept.IsKey (.int .i64) (.int .i64 z) by simp [Go.MapKept.IsKey]), Go.MapKept.run_findKey hk hf]
end Go.Proofs.YtnfmgkkhejminaaGreatDoor

namespace Go.Proofs.YtnfmgkkhejminaaGreatDoor
open Go Go.RowKit Wi
theorem wpList_lookup_go {P : Program} {W : World} {ops : Array Oper} {rest : List Oper} {o : Oper} {a : Act} {Q : Exit → Act → World → Prop} (hg : o.guard = none) (t : TypeId) (m k : Operand) (ho : o.op = .lookup t m k false) {mv kv v : Value} (hmv : a.eval m = mv) (hkv : a.eval k = kv) (hr : (Instr.lookup t mv kv false).run P W = .ok v W)
    (h : wpList P ops Q rest (a.put o.dst v) W) : wpList P ops Q (o :: rest) a W := by
  refine wpList_plain hg fun K hK => ?_
  unfold Oper.wp
  simp [execOp, ho, hmv, hkv, hr, Result.andThen]
  exact hK _ _ h
def ResRet (w : World) (e : Ending) (w' : World) : Prop := (∃ (u : Int) (s : ByteArray) (q : Bool), e = .returned (.tuple #[.int .i64 u, .string s, .bool q])) ∧ Below w.heap.size w w'
def RngRet (w : World) (e : Ending) (w' : World) : Prop := (∃ (u v : Int), e = .returned (.tuple #[.int .i64 u, .int .i64 v])) ∧ Below w.heap.size w w'
/-- a record of a call, of which the district and the tick are known -/
def RecV (v : Value) : Prop := ∃ (c i u : Int) (s : ByteArray) (b o n cap : Nat) (q : Bool), v = .agg #[.int .i64 c, .int .i64 i, .int .i64 u, .string s, .slice (some ⟨b, o, none⟩) n cap, .int .i64 1, .int .i64 5, .bool q]
def SumRet (w : World) (e : Ending) (w' : World) : Prop := (∃ v, e = .returned v ∧ RecV v) ∧ Below w.heap.size w w'
def ListRet (w : World) (e : Ending) (w' : World) : Prop := (∃ b o n c, e = .returned (.slice (some ⟨b, o, none⟩) n c) ∧ (n : Int) ≤ 9) ∧ Below w.heap.size w w'
theorem z8 {w W : World} (hW : Below (w.alloc (.cells #[.int .i64 0, .int .i64 0, .int .i64 0, .string ⟨#[]⟩, .slice none 0 0, .int .i64 0, .int .i64 0, .bool false] 40)).heap.size (w.alloc (.cells #[.int .i64 0, .int .i64 0, .int .i64 0, .string ⟨#[]⟩, .slice none 0 0, .int .i64 0, .int .i64 0, .bool false] 40)) W) :
    W.heap[w.heap.size]? = some (.cells #[.int .i64 0, .int .i64 0, .int .i64 0, .string ⟨#[]⟩, .slice none 0 0, .int .i64 0, .int .i64 0, .bool false] 40) := by
  rw [hW.block _ (by simp)]; show (w.heap.push _)[w.heap.size]? = _; simp
theorem z8c {W : World} {N : Nat} (hq : W.heap[N]? = some (.cells #[.int .i64 0, .int .i64 0, .int .i64 0, .string ⟨#[]⟩, .slice none 0 0, .int .i64 0, .int .i64 0, .bool false] 40)) :
    (W.cell? ⟨N, 0, none⟩ = some (.int .i64 0) ∧ W.cell? ⟨N, 1, none⟩ = some (.int .i64 0) ∧ W.cell? ⟨N, 2, none⟩ = some (.int .i64 0) ∧ W.cell? ⟨N, 3, none⟩ = some (.string ⟨#[]⟩) ∧ W.cell? ⟨N, 4, none⟩ = some (.slice none 0 0) ∧ W.cell? ⟨N, 5, none⟩ = some (.int .i64 0) ∧ W.cell? ⟨N, 6, none⟩ = some (.int .i64 0) ∧ W.cell? ⟨N, 7, none⟩ = some (.bool false)) ∧
    (W.frozen? ⟨N, 0, none⟩ = false ∧ W.frozen? ⟨N, 1, none⟩ = false ∧ W.frozen? ⟨N, 2, none⟩ = false ∧ W.frozen? ⟨N, 3, none⟩ = false ∧ W.frozen? ⟨N, 4, none⟩ = false ∧ W.frozen? ⟨N, 5, none⟩ = false ∧ W.frozen? ⟨N, 6, none⟩ = false ∧ W.frozen? ⟨N, 7, none⟩ = false) := by
  simp [World.cell?, World.frozen?, hq]
theorem below_set8 {N : Nat} {a W : World} {B : Nat} (h : Below N a W) (hN : N ≤ B) (v0 v1 v2 v3 v4 v5 v6 v7 : Value) : Below N a ((((((((W.setCell ⟨B, 0, none⟩ v0).setCell ⟨B, 1, none⟩ v1).setCell ⟨B, 2, none⟩ v2).setCell ⟨B, 3, none⟩ v3).setCell ⟨B, 4, none⟩ v4).setCell ⟨B, 5, none⟩ v5).setCell ⟨B, 6, none⟩ v6).setCell ⟨B, 7, none⟩ v7) :=
  (((((((h.setCell (p := ⟨B, 0, none⟩) hN _).setCell (p := ⟨B, 1, none⟩) hN _).setCell (p := ⟨B, 2, none⟩) hN _).setCell (p := ⟨B, 3, none⟩) hN _).setCell (p := ⟨B, 4, none⟩) hN _).setCell (p := ⟨B, 5, none⟩) hN _).setCell (p := ⟨B, 6, none⟩) hN _).setCell (p := ⟨B, 7, none⟩) hN _
set_option maxHeartbeats 4000000 in
set_option maxRecDepth 100000 in
theorem summary_is (X xo L lo G go Ib Io : Nat) (w : World) (h0 : w.cell? ⟨X, xo, none⟩ = some (.pointer (some ⟨L, lo, none⟩))) (h1 : w.cell? ⟨X, xo + 1, none⟩ = some (.int .i64 1)) (h2 : w.cell? ⟨X, xo + 2, none⟩ = some (.int .i64 5)) (h3 : w.cell? ⟨X, xo + 3, none⟩ = some (.pointer (some ⟨G, go, none⟩))) (h4 : w.cell? ⟨X, xo + 4, none⟩ = some (.pointer (some ⟨Ib, Io, none⟩)))
    (hL : w.cell? ⟨L, lo, none⟩ = some (.int .i64 7)) (hRES : ∀ W, Below w.heap.size w W → Calls Tryz.prog 91 #[.pointer (some ⟨Ib, Io, none⟩)] W (ResRet W)) (hRNG : ∀ W, Below w.heap.size w W → Calls Tryz.prog 92 #[.pointer (some ⟨Ib, Io, none⟩)] W (RngRet W))
    (hLST : ∀ W, Below w.heap.size w W → Calls Tryz.prog 93 #[.agg #[.pointer (some ⟨G, go, none⟩)]] W (ListRet W)) : Calls Tryz.prog 38 #[.pointer (some ⟨X, xo, none⟩)] w (SumRet w) := by
  have HRES := Lib.hid hRES
  have HRNG := Lib.hid hRNG
  have HLST := Lib.hid hLST
  have hXs := World.block_lt_of_cell? _ _ h0
  have hLs := World.block_lt_of_cell? _ _ hL
  have HC0 := Lib.hid (show ∀ W, Below w.heap.size w W → W.cell? ⟨X, xo, none⟩ = some (.pointer (some ⟨L, lo, none⟩)) ∧ W.cell? ⟨X, xo + 1, none⟩ = some (.int .i64 1) ∧ W.cell? ⟨X, xo + 2, none⟩ = some (.int .i64 5) ∧ W.cell? ⟨X, xo + 3, none⟩ = some (.pointer (some ⟨G, go, none⟩)) ∧ W.cell? ⟨X, xo + 4, none⟩ = some (.pointer (some ⟨Ib, Io, none⟩)) ∧ W.cell? ⟨L, lo, none⟩ = some (.int .i64 7) from fun W hb =>
    ⟨(hb.cell hXs).trans h0, (hb.cell (p := ⟨X, xo + 1, none⟩) hXs).trans h1, (hb.cell (p := ⟨X, xo + 2, none⟩) hXs).trans h2, (hb.cell (p := ⟨X, xo + 3, none⟩) hXs).trans h3, (hb.cell (p := ⟨X, xo + 4, none⟩) hXs).trans h4, (hb.cell hLs).trans hL⟩)
  clear h0 h1 h2 h3 h4 hL hRES hRNG hLST hXs hLs
  obtain ⟨w1, hw1⟩ : ∃ W, W = w.alloc (.cells #[.int .i64 0, .int .i64 0, .int .i64 0, .string ⟨#[]⟩, .slice none 0 0, .int .i64 0, .int .i64 0, .bool false] 40) := ⟨_, rfl⟩
  have hb1 : Below w.heap.size w w1 := by rw [hw1]; exact (Below.refl _ _).alloc (Nat.le_refl _) _
  have HZ := Lib.hid (show ∀ W, Below w1.heap.size w1 W → W.heap[w.heap.size]? = some (.cells #[.int .i64 0, .int .i64 0, .int .i64 0, .string ⟨#[]⟩, .slice none 0 0, .int .i64 0, .int .i64 0, .bool false] 40) by rw [hw1]; exact fun W h => z8 h)
  have HB1 := Lib.hid hb1
  have HW1 := Lib.hid hw1
  obtain ⟨k0, k1, k2, k3, k4, k5⟩ := HC0.out w1 hb1
  rw [hw1] at k0 k4
  clear hb1 hw1 k1 k2 k3 k5
  go_enter Tryz.func38, Tryz.ntmps38
  go_wp2_with (first
    | (go_at_call 91; go_loud (rw [← HW1.out]; refine (HRES.out _ HB1.out).mono ?_; rintro e W2 ⟨⟨u, s, q, rfl⟩, hb2⟩; have HB2 := Lib.hid (HB1.out.trans (hb2.mono HB1.out.size)); have HA2 := Lib.hid hb2; obtain ⟨j0, j1, j2, j3, j4, j5⟩ := HC0.out W2 HB2.out; clear hb2 k0 k4 j1 j2 j5; cases q))
    | (go_at_call 92; go_loud (refine (HRNG.out _ HB2.out).mono ?_; rintro e W3 ⟨⟨u2, v2, rfl⟩, hb3⟩; have HB3 := Lib.hid (HB2.out.trans (hb3.mono HB2.out.size)); have HA3 := Lib.hid (HA2.out.trans (hb3.mono HA2.out.size)); obtain ⟨i0, i1, i2, i3, i4, i5⟩ := HC0.out W3 HB3.out; clear hb3 j0 j3 j4 i1 i2 i4 i5 HB2 HA2; have HB2 := HB3; have HA2 := HA3; clear HB3 HA3))
    | (go_at_call 93; go_loud (refine (HLST.out _ HB2.out).mono ?_; rintro e W4 ⟨⟨b4, o4, n4, c4, rfl, hn4⟩, hb4⟩; have HB4 := Lib.hid (HB2.out.trans (hb4.mono HB2.out.size)); have HA4 := Lib.hid (HA2.out.trans (hb4.mono HA2.out.size)); obtain ⟨t0, t1, t2, t3, t4, t5⟩ := HC0.out W4 HB4.out; clear hb4)))
  all_goals
    go_still_tail 17, (by kernel_rfl)
    still_call (lineCall_is L lo 7 _ t5)
    repeat still_step
    try refine wpStill_nil ?_
    change wpList _ _ _ _ _ W4.drew
    have hq : W4.drew.heap[w.heap.size]? = _ := HZ.out W4 HA4.out
    have hb5 : Below w.heap.size w W4.drew := HB4.out.drew
    clear t0 t1 t2 t3 t4 t5
    generalize W4.drew = W5 at hq hb5 ⊢
    obtain ⟨⟨y0, y1, y2, y3, y4, y5, y6, y7⟩, x0, x1, x2, x3, x4, x5, x6, x7⟩ := z8c hq
    go_wp2
    refine bodyPost_ret (by simp [results, Tryz.results38, go_sem, y0, y1, y2, y3, y4, y5, y6, y7]; exact ⟨rfl, rfl, rfl, rfl, ⟨⟨rfl, rfl⟩, rfl, rfl⟩, rfl⟩) rfl ⟨⟨_, rfl, _, _, _, _, _, _, _, _, _, rfl⟩, below_set8 hb5 (Nat.le_refl _) _ _ _ _ _ _ _ _⟩
def CallRet (w : World) (e : Ending) (w' : World) : Prop := (∃ (v : Value) (ep : Int) (q : Bool), e = .returned (.tuple #[v, .int .i64 ep, .bool q]) ∧ RecV v) ∧ Below w.heap.size w w'
theorem underlying85 : ∃ kt et, Tryz.prog.underlying 85 = some (.map kt et) ∧ Tryz.prog.underlying kt = some (.int .i64) := ⟨_, _, Tryz.underlying85, by kernel_rfl⟩
set_option maxHeartbeats 4000000 in
set_option maxRecDepth 100000 in
theorem call_walk (d dp M X xo L lo : Nat) (w : World) (hd : w.cell? ⟨d, dp + 6, none⟩ = some (.map (some M))) (hM : w.heap[M]? = some (.map ⟨[⟨.int .i64 7, .pointer (some ⟨X, xo, none⟩), 0⟩]⟩ 1)) (h0 : w.cell? ⟨X, xo, none⟩ = some (.pointer (some ⟨L, lo, none⟩))) (h3 : w.cell? ⟨L, lo + 3, none⟩ = some (.int .i64 0)) (h4 : w.cell? ⟨L, lo + 4, none⟩ = some (.int .i64 1))
    (hSUM : ∀ W, Below w.heap.size w W → Calls Tryz.prog 38 #[.pointer (some ⟨X, xo, none⟩)] W (SumRet W)) : Calls Tryz.prog 11 #[.pointer (some ⟨d, dp, none⟩), .int .i64 7] w (CallRet w) := by
  have HSUM := Lib.hid hSUM
  obtain ⟨kt, et, hu1, hu2⟩ := underlying85
  have hMs : M < w.heap.size := (Array.getElem?_eq_some_iff.1 hM).1
  have HLK := Lib.hid (fun W (hb : Below w.heap.size w W) => run_lookup1 (P := Tryz.prog) hu1 hu2 ((hb.block M hMs).trans hM))
  have hds := World.block_lt_of_cell? _ _ hd
  have hXs := World.block_lt_of_cell? _ _ h0
  have hLs := World.block_lt_of_cell? _ _ h3
  have HEP := Lib.hid (show ∀ W, Below w.heap.size w W → Calls Tryz.prog 28 #[.pointer (some ⟨X, xo, none⟩)] W (Gives (.int .i64 1) W) from fun W hb => epoch_is X xo L lo 0 1 W ((hb.cell hXs).trans h0) ((hb.cell (p := ⟨L, lo + 3, none⟩) hLs).trans h3) ((hb.cell (p := ⟨L, lo + 4, none⟩) hLs).trans h4))
  obtain ⟨w1, hw1⟩ : ∃ W, W = w.alloc (.cells #[.int .i64 0, .int .i64 0, .int .i64 0, .string ⟨#[]⟩, .slice none 0 0, .int .i64 0, .int .i64 0, .bool false] 40) := ⟨_, rfl⟩
  have hb1 : Below w.heap.size w w1 := by rw [hw1]; exact (Below.refl _ _).alloc (Nat.le_refl _) _
  have HZ := Lib.hid (show ∀ W, Below w1.heap.size w1 W → W.heap[w.heap.size]? = some (.cells #[.int .i64 0, .int .i64 0, .int .i64 0, .string ⟨#[]⟩, .slice none 0 0, .int .i64 0, .int .i64 0, .bool false] 40) by rw [hw1]; exact fun W h => z8 h)
  have HB1 := Lib.hid hb1
  have HW1 := Lib.hid hw1
  have k6 := (hb1.cell (p := ⟨d, dp + 6, none⟩) hds).trans hd
  rw [hw1] at k6
  have HL1 := Lib.hid (HLK.out w1 hb1)
  rw [hw1] at HL1
  clear hd hM h0 h3 h4 hSUM hu1 hu2 hMs hds hXs hLs hb1 hw1
  go_enter Tryz.func11, Tryz.ntmps11
  go_wp2_with (first
    | (refine wpList_lookup_go rfl 85 (.tmp 11) (.tmp 12) rfl (mv := .map (some M)) (kv := .int .i64 7) rfl rfl HL1.out ?_)
    | (go_at_call 38; go_loud (rw [← HW1.out]; refine (HSUM.out _ HB1.out).mono ?_; rintro e W2 ⟨⟨v, rfl, hrec⟩, hb2⟩; obtain ⟨rc, ri, ru, rs, rb, ro, rn, rcap, rq, rfl⟩ := hrec; have HB2 := Lib.hid (HB1.out.trans (hb2.mono HB1.out.size)); have HA2 := Lib.hid hb2; clear hb2 k6))
    | (go_at_call 28; go_loud (refine (HEP.out _ HB2.out).mono ?_; rintro e W3 ⟨rfl, hb3⟩; have HB3 := Lib.hid (HB2.out.trans (hb3.mono HB2.out.size)); have HA3 := Lib.hid (HA2.out.trans (hb3.mono HA2.out.size)); clear hb3; obtain ⟨⟨y0, y1, y2, y3, y4, y5, y6, y7⟩, x0, x1, x2, x3, x4, x5, x6, x7⟩ := z8c (HZ.out W3 HA3.out))))
  refine bodyPost_ret (v := .tuple #[.agg #[.int .i64 rc, .int .i64 ri, .int .i64 ru, .string rs, .slice (some ⟨rb, ro, none⟩) rn rcap, .int .i64 1, .int .i64 5, .bool rq], .int .i64 1, .bool true]) (by simp [results, Tryz.results11, go_sem, y0, y1, y2, y3, y4, y5, y6, y7]) rfl ⟨⟨_, _, _, rfl, _, _, _, _, _, _, _, _, _, rfl⟩, below_set8 HB3.out (Nat.le_refl _) _ _ _ _ _ _ _ _⟩
end Go.Proofs.YtnfmgkkhejminaaGreatDoor
