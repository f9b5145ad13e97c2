/-
  CalltakerAcknowledgements answers true for every argument within the reach; its first argument opened.
-/
import Derived.Test.YtnfmgkkhejminaaGreatDoorAwakeAckRa
import Derived.Test.YtnfmgkkhejminaaGreatDoorAwakeAckRc
import Derived.Test.YtnfmgkkhejminaaGreatDoorAwakeAckRe
import Derived.Test.YtnfmgkkhejminaaGreatDoorAwakeAckRg
import Derived.Test.YtnfmgkkhejminaaGreatDoorAwakeAckRi
import Derived.Test.YtnfmgkkhejminaaGreatDoorAwakeAckRk
import Derived.Test.YtnfmgkkhejminaaGreatDoorAwakeAckRm
import Derived.Test.YtnfmgkkhejminaaGreatDoorAwakeAckT
import Derived.Test.YtnfmgkkhejminaaGreatDoorAwakeAckZ
import Derived.Test.YtnfmgkkhejminaaGreatDoorEvLift
import Derived.ProofKit
import Derived.Deep.Slices
import Derived.SizedLaws
namespace Go.Proofs.YtnfmgkkhejminaaGreatDoor
open Go Go.RowKit Go.Ev
def Pick (h : Bool) (k : Nat) (v0 v1 : Int) : Prop := ∃ a b c, okK h k a b c = true ∧ ((k ≠ 0 → (a = 0 → v0 = 0) ∧ (a = 1 → v0 = 1)) ∧ (2 ≤ k → (b = 0 → v1 = 0) ∧ (b = 1 → v1 = 1))) ∧ (c = 1 → 2 ≤ v0) ∧ (c ≠ 0 → c ≠ 1 → 2 ≤ v1)
theorem pick0 {h : Bool} {v0 v1 : Int} (r : okK h 0 0 0 0 = true) : Pick h 0 v0 v1 := ⟨0, 0, 0, r, by omega, by omega, by omega⟩
theorem pick1 {h : Bool} {v0 v1 : Int} (h0 : 0 ≤ v0) (r1 : okK h 1 0 0 0 = true) (r2 : okK h 1 1 0 0 = true) (r3 : okK h 1 2 0 1 = true) : Pick h 1 v0 v1 := by
  by_cases e0 : v0 = 0
  · exact ⟨0, 0, 0, r1, by omega, by omega, by omega⟩
  · by_cases e1 : v0 = 1
    · exact ⟨1, 0, 0, r2, by omega, by omega, by omega⟩
    · exact ⟨2, 0, 1, r3, by omega, by omega, by omega⟩
theorem pick2 {h : Bool} {k : Nat} {v0 v1 : Int} (h0 : 0 ≤ v0) (h1 : 0 ≤ v1) (r1 : okK h k 0 2 0 = true) (r2 : okK h k 1 0 0 = true) (r3 : okK h k 1 1 0 = true) (r4 : okK h k 1 2 2 = true) (r5 : okK h k 2 2 1 = true) : Pick h k v0 v1 := by
  by_cases e0 : v0 = 0
  · exact ⟨0, 2, 0, r1, by omega, by omega, by omega⟩
  · by_cases e1 : v0 = 1
    · by_cases f0 : v1 = 0
      · exact ⟨1, 0, 0, r2, by omega, by omega, by omega⟩
      · by_cases f1 : v1 = 1
        · exact ⟨1, 1, 0, r3, by omega, by omega, by omega⟩
        · exact ⟨1, 2, 2, r4, by omega, by omega, by omega⟩
    · exact ⟨2, 2, 1, r5, by omega, by omega, by omega⟩
theorem pick_true {k : Nat} (hk : k ≤ 10) {v0 v1 : Int} (h0 : 0 ≤ v0) (h1 : 0 ≤ v1) : Pick true k v0 v1 := by
  match k, hk with
  | 0, _ => exact pick0 runK_t0_00
  | 1, _ => exact pick1 h0 runK_t1_00 runK_t1_10 runK_t1_20
  | 2, _ => exact pick2 h0 h1 runK_t2_02 runK_t2_10 runK_t2_11 runK_t2_12 runK_t2_22
  | 3, _ => exact pick2 h0 h1 runK_t3_02 runK_t3_10 runK_t3_11 runK_t3_12 runK_t3_22
  | 4, _ => exact pick2 h0 h1 runK_t4_02 runK_t4_10 runK_t4_11 runK_t4_12 runK_t4_22
  | 5, _ => exact pick2 h0 h1 runK_t5_02 runK_t5_10 runK_t5_11 runK_t5_12 runK_t5_22
  | 6, _ => exact pick2 h0 h1 runK_t6_02 runK_t6_10 runK_t6_11 runK_t6_12 runK_t6_22
  | 7, _ => exact pick2 h0 h1 runK_t7_02 runK_t7_10 runK_t7_11 runK_t7_12 runK_t7_22
  | 8, _ => exact pick2 h0 h1 runK_t8_02 runK_t8_10 runK_t8_11 runK_t8_12 runK_t8_22
  | 9, _ => exact pick2 h0 h1 runK_t9_02 runK_t9_10 runK_t9_11 runK_t9_12 runK_t9_22
  | 10, _ => exact pick2 h0 h1 runK_t10_02 runK_t10_10 runK_t10_11 runK_t10_12 runK_t10_22
theorem pick_false {k : Nat} (hk : k ≤ 10) {v0 v1 : Int} (h0 : 0 ≤ v0) (h1 : 0 ≤ v1) : Pick false k v0 v1 := by
  match k, hk with
  | 0, _ => exact pick0 runK_f0_00
  | 1, _ => exact pick1 h0 runK_f1_00 runK_f1_10 runK_f1_20
  | 2, _ => exact pick2 h0 h1 runK_f2_02 runK_f2_10 runK_f2_11 runK_f2_12 runK_f2_22
  | 3, _ => exact pick2 h0 h1 runK_f3_02 runK_f3_10 runK_f3_11 runK_f3_12 runK_f3_22
  | 4, _ => exact pick2 h0 h1 runK_f4_02 runK_f4_10 runK_f4_11 runK_f4_12 runK_f4_22
  | 5, _ => exact pick2 h0 h1 runK_f5_02 runK_f5_10 runK_f5_11 runK_f5_12 runK_f5_22
  | 6, _ => exact pick2 h0 h1 runK_f6_02 runK_f6_10 runK_f6_11 runK_f6_12 runK_f6_22
  | 7, _ => exact pick2 h0 h1 runK_f7_02 runK_f7_10 runK_f7_11 runK_f7_12 runK_f7_22
  | 8, _ => exact pick2 h0 h1 runK_f8_02 runK_f8_10 runK_f8_11 runK_f8_12 runK_f8_22
  | 9, _ => exact pick2 h0 h1 runK_f9_02 runK_f9_10 runK_f9_11 runK_f9_12 runK_f9_22
  | 10, _ => exact pick2 h0 h1 runK_f10_02 runK_f10_10 runK_f10_11 runK_f10_12 runK_f10_22
theorem pick_any (h : Bool) {k : Nat} (hk : k ≤ 10) {v0 v1 : Int} (h0 : 0 ≤ v0) (h1 : 0 ≤ v1) : Pick h k v0 v1 := by
  cases h
  · exact pick_false hk h0 h1
  · exact pick_true hk h0 h1
theorem tabIn_below {W W' : World} (h : t64.In W) (hb : Go.RowKit.Below W.heap.size W W') : t64.In W' := by
  obtain ⟨arr, e, lo, hi, h1, h2⟩ := h
  exact ⟨arr, e, lo, hi, (hb.block _ (Array.getElem?_eq_some_iff.1 h1).1).trans h1, h2⟩
/-- the law answers true, whatever was said -/
theorem law_some (g off cap : Nat) (l : List Int) (h : Bool) (now : Int) (w : World) (hw : 2 ≤ w.heap.size) (hT : t64.In w) (hS : SaidAt w g off cap l) (hI : ∀ x ∈ l, I64 x) : Calls Tryz.prog 4 #[.slice (some ⟨g, off, none⟩) l.length cap, .bool h, .int .i64 now] w (True1 w) := by
  by_cases hlen : l.length ≤ 10
  · by_cases hsm : small l
    · obtain ⟨a, b, c, r, hc, h1, h2⟩ := pick_any h hlen (small_at hsm 0).1 (small_at hsm 1).1
      exact said_run r hw hT hS rfl hlen hsm hc h1 h2
    · have hbad : ∃ x ∈ l, ¬ (0 ≤ x ∧ x ≤ 15) := by
        unfold small at hsm
        rw [Classical.not_forall] at hsm
        obtain ⟨x, hx⟩ := hsm
        rw [Classical.not_imp] at hx
        exact ⟨x, hx.1, hx.2⟩
      have hne : l ≠ [] := by
        rintro rfl
        obtain ⟨x, hx, _⟩ := hbad
        cases hx
      have hin : IntsIn w (some ⟨g, off, none⟩) l := fun k hk => by
        obtain ⟨_, arr, e, lo, hi, q1, _, _, q4⟩ := hS.2 hne
        refine ⟨g, off, rfl, hS.1, ?_⟩
        simp only [World.cell?, q1]
        exact q4 k hk
      have hwk : ∀ W, Below w.heap.size w W → Calls Tryz.prog 5 #[] W (True1 W) := fun W hb => wakes_calls (Nat.le_trans hw hb.size) (tabIn_below hT hb)
      have hst : ∀ W, Below w.heap.size w W → Calls Tryz.prog 7 #[] W (StartRet W) := fun W hb => start_calls (Nat.le_trans hw hb.size) (tabIn_below hT hb)
      cases h
      · exact law_bad _ _ cap l now w rfl hlen hin hI hbad hwk hst
      · exact law_bad_hung _ _ cap l now w rfl hlen hin hI hbad hwk hst
  · exact law_long _ _ cap h now w (by omega) fun W hb => wakes_calls (Nat.le_trans hw hb.size) (tabIn_below hT hb)
theorem law_none (h : Bool) (now : Int) (w : World) (hw : 2 ≤ w.heap.size) (hT : t64.In w) : Calls Tryz.prog 4 #[.slice none 0 0, .bool h, .int .i64 now] w (True1 w) := by
  cases h
  · exact none_run runN_f hw hT
  · exact none_run runN_t hw hT
end Go.Proofs.YtnfmgkkhejminaaGreatDoor

namespace Go.Proofs.YtnfmgkkhejminaaGreatDoor
open Go Go.RowKit Go.ChangeShapes Go.WideShapes Go.Ev
theorem cellsOf3 : Tryz.prog.cellsOf 3 = 1 := by kernel_rfl
set_option maxRecDepth 10000 in
theorem choose_list {α : Type} {len : Nat} {p : Nat → α → Prop} (h : ∀ i, i < len → ∃ x, p i x) : ∃ L : List α, L.length = len ∧ ∀ (i : Nat) x, L[i]? = some x → p i x := by
  induction len with
  | zero => exact ⟨[], rfl, fun i x hx => by simp at hx⟩
  | succ k ih =>
    obtain ⟨L, hl, hL⟩ := ih fun i hi => h i (by omega)
    obtain ⟨x, hx⟩ := h k (by omega)
    refine ⟨L ++ [x], by simp [hl], fun i y hy => ?_⟩
    by_cases hi : i < k
    · rw [List.getElem?_append_left (by omega)] at hy
      exact hL i y hy
    · have : i = k := by
        have := (List.getElem?_eq_some_iff.1 hy).1
        simp [hl] at this
        omega
      subst this
      rw [List.getElem?_append_right (by omega), hl] at hy
      simp at hy
      subst hy
      exact hx
/-- a listed table fills its block -/
theorem tab_whole {P : Program} {W : World} {name : String} {k : IntKind} {zs : List Int} {rest : List (String × DataW Unit)} {g : Nat} {t e : TypeId} {n : Nat}
    (hg : P.globalNamed name = some g) (hty : (P.globals[g]?).map (·.type) = some t) (ht : P.underlying t = some (.array n e)) (he : P.underlying e = some (.int k)) (hce : P.cellsOf e = 1) (hct : P.cellsOf t = n)
    (hz : 0 < zs.length) (h : laidMet P ((name, Lib.tabData k zs) :: rest) W) : ∃ t2, W.heap[g]? = some (.cells ⟨zs.map (Value.int k)⟩ t2) := by
  obtain ⟨ps, ⟨g', t', cs, fuel, p, q, h1, h2, h3, h4, h5, rfl⟩, _, hpl⟩ := h
  obtain rfl := Option.some.inj (hg.symm.trans h1)
  obtain rfl := Option.some.inj (hty.symm.trans h2)
  have hcs := Lib.cells_of_tab ht he hce hct h4
  obtain ⟨cs⟩ := cs
  have hcs : cs = zs.map fun z => Value.int k z := hcs
  subst hcs
  have hin : MemPlace.cell g 0 ∈ MemPlace.row ⟨g, 0, none⟩ (zs.map fun z => Value.int k z).length ++ p ++ q := by
    simp only [MemPlace.row, List.mem_append, List.mem_map, List.mem_range]
    exact .inl (.inl ⟨0, by simpa using hz, rfl⟩)
  obtain ⟨⟨c, t2, hc⟩, _⟩ := hpl g 0 hin
  have hv : W.var? P name = some c := by simp [World.var?, h1, hc]
  rw [hv] at h3
  cases h3
  exact ⟨t2, hc⟩
/-- the listed table fills its block -/
def Tab0 (W : World) : Prop := ∃ t2, W.heap[0]? = some (.cells ⟨tab64.map (Value.int .u8)⟩ t2)
theorem tab0_cell {W : World} (h : Tab0 W) {off : Nat} {z : Int} (hc : W.cell? ⟨0, off, none⟩ = some (.int .i64 z)) : False := by
  obtain ⟨t2, h⟩ := h
  simp only [World.cell?, h] at hc
  simp at hc
theorem add_mid (g off i : Nat) : (⟨g, off, none⟩ : Addr).add i = ⟨g, off + i, none⟩ := by
  unfold Addr.add
  by_cases hi : i = 0 <;> simp [hi]
section
variable {H : Type} {enc : TypeId × Value → H} {W : World}
set_option maxRecDepth 100000 in
theorem open_said {r : Reach} {b0 : Nat} {v : Value} {d : DataW H} {p : List MemPlace} (hT : Tab0 W) (hv : Value.okWide Tryz.prog W r b0 22 v) (h : DataW.Trod enc Tryz.prog W 0 (fun _ => true) true 22 v d p) :
    v = .slice none 0 0 ∨ ∃ g off cap l, v = .slice (some ⟨g, off, none⟩) (List.length l) cap ∧ SaidAt W g off cap l ∧ ∀ x ∈ l, I64 x := by
  obtain ⟨a0, len0, cap0, rfl⟩ := okWide_slice Tryz.underlying22 hv
  obtain ⟨fuel, hf⟩ := h
  have hf' : DataW.trod enc Tryz.prog W 0 (fun _ => true) true fuel 22 [.slice a0 len0 cap0] = some (d, p) := hf
  rcases Deep.open_slice1 Tryz.underlying22 cellsOf3 hf' with ⟨e, _⟩ | ⟨a, len, cap, m, n', V, D, Pl, e, _, hl, hm, hmm, hx, hi⟩
  · exact .inl (by simpa using e)
  · have hm' : m = cap := by simpa using hmm
    subst hm'
    obtain ⟨rfl, rfl, rfl⟩ : a0 = some a ∧ len0 = len ∧ cap0 = m := by simpa using e
    right
    have hv' : Cell.ok Tryz.prog W r b0 22 (.slice (some a) len0 cap0) := by
      unfold Value.okWide at hv
      rw [Tryz.underlying22] at hv
      unfold Cell.okWide at hv
      rw [Tryz.underlying22] at hv
      exact hv
    unfold Cell.ok at hv'
    rw [Tryz.underlying22] at hv'
    obtain ⟨_, _, _, hsp, row, cells, hsh, _⟩ := hv'
    obtain ⟨g, off, spot⟩ := a
    obtain rfl : spot = none := hsp
    have hg : g < W.heap.size := by
      unfold World.shape? at hsh
      cases hh : W.heap[g]? with
      | none => rw [hh] at hsh; cases hsh
      | some o => exact (Array.getElem?_eq_some_iff.1 hh).1
    have hcell : ∀ i, i < cap0 → ∃ z, W.cell? ⟨g, off + i, none⟩ = some (.int .i64 z) ∧ I64 z := fun i hlt => by
      obtain ⟨h1, h2⟩ := hi i hlt
      obtain ⟨z, e1, _, hwf⟩ := DataW.trod_int Tryz.underlying3 h2
      have e1' : V i = .int .i64 z := by simpa using e1
      rw [add_mid, e1'] at h1
      refine ⟨z, h1, ?_⟩
      simp [Lit.wf, IntKind.min, IntKind.max, IntKind.signed, IntKind.bits] at hwf
      exact ⟨by omega, by omega⟩
    obtain ⟨L, hL, hat⟩ := choose_list (len := len0) (p := fun i z => W.cell? ⟨g, off + i, none⟩ = some (.int .i64 z) ∧ I64 z) fun i hlt => hcell i (by omega)
    refine ⟨g, off, cap0, L, by rw [hL], ⟨hg, fun hne => ?_⟩, fun x hx => ?_⟩
    · have hpos : 0 < len0 := by rw [← hL]; exact List.length_pos_iff.2 hne
      obtain ⟨z0, hz0, _⟩ := hcell 0 (by omega)
      obtain ⟨z1, hz1, _⟩ := hcell (cap0 - 1) (by omega)
      have hne0 : g ≠ 0 := by
        rintro rfl
        exact tab0_cell hT hz0
      cases hh : W.heap[g]? with
      | none => simp only [World.cell?, hh] at hz0; cases hz0
      | some o =>
        cases o with
        | cells arr e fr =>
          obtain ⟨lo, hi'⟩ := fr
          refine ⟨hne0, arr, e, lo, hi', rfl, ?_, by omega, fun i hi2 => ?_⟩
          · simp only [World.cell?, hh] at hz1
            have := (Array.getElem?_eq_some_iff.1 hz1).1
            omega
          · have h3 := (hat i (L[i]'hi2) (List.getElem?_eq_getElem hi2)).1
            simp only [World.cell?, hh] at h3
            have h4 : arr[off + i]? = some (.int .i64 (L[i]'hi2)) := h3
            rw [h4, List.getD_eq_getElem?_getD, List.getElem?_eq_getElem hi2]
            rfl
        | _ => simp only [World.cell?, hh] at hz0; cases hz0
    · obtain ⟨i, hi2⟩ := List.getElem?_of_mem hx
      exact (hat i x hi2).2
end
end Go.Proofs.YtnfmgkkhejminaaGreatDoor
