/-
  CalltakerStaleOffers answers true, whatever was said and whatever the sources are; the arguments opened.
-/
import Derived.Test.YtnfmgkkhejminaaGreatDoorStLocF
import Derived.Test.YtnfmgkkhejminaaGreatDoorStStaE
import Derived.ProofKit
import Derived.Deep.Slices
import Derived.SizedLaws
import Derived.Test.YtnfmgkkhejminaaGreatDoorStStaV
import Derived.Test.YtnfmgkkhejminaaGreatDoorStEvCall
namespace Go.Proofs.YtnfmgkkhejminaaGreatDoor
open Go Go.RowKit Go.ChangeShapes Go.WideShapes
/-! ## the sources, as they come -/
theorem add_add' (a : Addr) (i j : Nat) : (a.add i).add j = a.add (i + j) := by
  unfold Addr.add
  by_cases hi : i = 0 <;> by_cases hj : j = 0 <;> simp [hi, hj, Nat.add_assoc]
theorem add_midS (g off i : Nat) : (⟨g, off, none⟩ : Addr).add i = ⟨g, off + i, none⟩ := by
  unfold Addr.add
  by_cases hi : i = 0 <;> simp [hi]
theorem cellsS3 : Tryz.prog.cellsOf 3 = 1 := by kernel_rfl
theorem cellsS22 : Tryz.prog.cellsOf 22 = 1 := by kernel_rfl
theorem cellsS73 : Tryz.prog.cellsOf 73 = 2 := by kernel_rfl
theorem bytesS3 : Tryz.prog.bytesOf 3 = 8 := by kernel_rfl
theorem bytesS73 : Tryz.prog.bytesOf 73 = 32 := by kernel_rfl
theorem reach_leS : reachBytes ≤ 140737488355328 := by decide
theorem plain_intS {W : World} {a : Addr} {k : IntKind} {z : Int} (h : W.cell? a = some (.int k z)) : a.spot = none := by
  cases hs : a.spot with
  | none => rfl
  | some q =>
    unfold World.cell? at h
    rw [hs] at h
    split at h <;> simp at h
set_option maxRecDepth 10000 in
theorem choose_listS {α : Type} {len : Nat} {p : Nat → α → Prop} (h : ∀ i, i < len → ∃ x, p i x) : ∃ L : List α, L.length = len ∧ ∀ (i : Nat) x, L[i]? = some x → p i x := by
  induction len with
  | zero => exact ⟨[], rfl, fun i x hx => by simp at hx⟩
  | succ k ih =>
    obtain ⟨L, hl, hL⟩ := ih fun i hi => h i (by omega)
    obtain ⟨x, hx⟩ := h k (by omega)
    refine ⟨L ++ [x], by simp [hl], fun i y hy => ?_⟩
    by_cases hi : i < k
    · rw [List.getElem?_append_left (by omega)] at hy
      exact hL i y hy
    · have : i = k := by
        have := (List.getElem?_eq_some_iff.1 hy).1
        simp [hl] at this
        omega
      subst this
      rw [List.getElem?_append_right (by omega), hl] at hy
      simp at hy
      subst hy
      exact hx
section
variable {H : Type} {enc : TypeId × Value → H} {W : World} {n : Nat}
theorem field_oneS {t : TypeId} {cs : List Value} {o : Nat} {v : Value} (hc : Tryz.prog.cellsOf t = 1) (e : List.take (Tryz.prog.cellsOf t) (List.drop o cs) = [v]) : cs[o]? = some v := by
  have := congrArg (·[0]?) e
  simp only [hc, List.getElem?_take, List.getElem?_drop] at this
  simpa using this
theorem open_ints {cs : List Value} {y : DataW H × List MemPlace} (h : DataW.trod enc Tryz.prog W 0 (fun _ => true) true n 22 cs = some y)
    (hw : ∀ m ∈ y.1.weights Tryz.prog 22, m ≤ reachBytes) : ∃ A c xs, cs = [.slice A (List.length xs) c] ∧ IntsIn W A xs ∧ xs.length ≤ 140737488355328 ∧ (A = none → xs.length = 0 ∧ c = 0) := by
  rcases Deep.open_slice1 Tryz.underlying22 cellsS3 h with ⟨e, _⟩ | ⟨a, len, cap, m, n', V, D, Pl, e, _, hl, hm, hmm, hx, hi⟩
  · exact ⟨none, 0, [], e, (fun k hk => by simp at hk), Nat.zero_le _, fun _ => ⟨rfl, rfl⟩⟩
  · have hm' : m = cap := by simpa using hmm
    obtain ⟨L, hL, hat⟩ := choose_listS (len := len) (p := fun i z => W.cell? (a.add i) = some (.int .i64 z)) fun i hlt => by
      obtain ⟨h1, h2⟩ := hi i (by omega)
      obtain ⟨z, e1, _, _⟩ := DataW.trod_int Tryz.underlying3 h2
      exact ⟨z, by rw [h1]; simpa using e1⟩
    refine ⟨some a, cap, L, by rw [hL]; exact e, fun k hk => ?_, ?_, fun h => by cases h⟩
    · obtain ⟨z0, hz0⟩ : ∃ z0, L[0]? = some z0 := ⟨L[0]'(by omega), List.getElem?_eq_getElem _⟩
      have e0 : W.cell? a = some (.int .i64 z0) := hat 0 z0 hz0
      have hplain := plain_intS e0
      have hb := World.block_lt_of_cell? _ _ e0
      obtain ⟨b, off, spot⟩ := a
      simp only at hplain hb
      subst hplain
      refine ⟨b, off, rfl, hb, ?_⟩
      have := hat k (L[k]'hk) (List.getElem?_eq_getElem hk)
      rw [add_midS] at this
      rw [this, List.getD_eq_getElem?_getD, List.getElem?_eq_getElem hk]
      rfl
    · rw [hL]
      have hh := hw ((len + (m - len)) * Tryz.prog.bytesOf 3) (by rw [hx]; simp [DataW.weights, Tryz.underlying22])
      rw [bytesS3] at hh
      have := reach_leS
      omega
set_option maxRecDepth 100000 in
theorem open_source {cs : List Value} {x : DataW H × List MemPlace} (h : DataW.trod enc Tryz.prog W 0 (fun _ => true) true n 73 cs = some x) (hw : ∀ m ∈ x.1.weights Tryz.prog 73, m ≤ reachBytes) :
    ∃ (p : Int × List Int) (K : Option Addr) (c : Nat), cs = [.int .i64 p.1, .slice K p.2.length c] ∧ IntsIn W K p.2 ∧ p.2.length ≤ 140737488355328 ∧ (K = none → p.2.length = 0 ∧ c = 0) := by
  obtain ⟨xs, n1, _, rfl, hcl, hxl, hg⟩ := DataW.trod_struct Tryz.underlying73 h
  rw [cellsS73] at hcl
  have hxl : xs.length = 2 := hxl
  have ok : ∀ j, j < 2 → (xs[j]?).isSome = true := fun j hj => by rw [List.getElem?_eq_getElem (by omega)]; rfl
  have wt : ∀ (j : Nat) (t : TypeId) (y : DataW H × List MemPlace), [3, 22][j]? = some t → xs[j]? = some y → ∀ m ∈ y.1.weights Tryz.prog t, m ≤ reachBytes := fun j t y hj hy m hm => hw m (by
    show m ∈ DataW.weights Tryz.prog 73 (.agg (xs.map (·.1)))
    unfold DataW.weights
    rw [Tryz.underlying73]
    exact DataW.weights_mem_each (j := j) (t := t) (d := y.1) hj (by rw [List.getElem?_map, hy]; rfl) m hm)
  obtain ⟨y0, q0⟩ := Option.isSome_iff_exists.1 (ok 0 (by omega))
  have g0 := hg 0 _ rfl
  rw [q0] at g0
  obtain ⟨z, e0, _, _⟩ := DataW.trod_int Tryz.underlying3 g0
  obtain ⟨y1, q1⟩ := Option.isSome_iff_exists.1 (ok 1 (by omega))
  have g1 := hg 1 _ rfl
  rw [q1] at g1
  obtain ⟨K, c, ks, e1, hK, hkl, hnone⟩ := open_ints g1 (wt 1 22 y1 rfl q1)
  have k0 := field_oneS cellsS3 e0
  have k1 := field_oneS cellsS22 e1
  match cs, hcl with
  | [u, v], _ =>
    simp at k0 k1
    exact ⟨⟨z, ks⟩, K, c, by rw [k0, k1], hK, hkl, hnone⟩
theorem weightsAll_memS {P : Program} {e : TypeId} : ∀ {l : List (DataW H)} {d : DataW H} {m : Nat}, d ∈ l → m ∈ d.weights P e → m ∈ DataW.weightsAll P e l
  | x :: l, d, m, hd, hm => by
    simp only [DataW.weightsAll, List.mem_append]
    rcases List.mem_cons.1 hd with rfl | hd
    · exact .inl hm
    · exact .inr (weightsAll_memS hd hm)
set_option maxRecDepth 100000 in
theorem open_sources {cs : List Value} {y : DataW H × List MemPlace} (h : DataW.trod enc Tryz.prog W 0 (fun _ => true) true n 23 cs = some y)
    (hw : ∀ m ∈ y.1.weights Tryz.prog 23, m ≤ reachBytes) : ∃ A c L, cs = [.slice A (List.length L) c] ∧ Srcs W A L ∧ L.length ≤ 140737488355328 ∧ ∀ x ∈ L, x.2.length ≤ 140737488355328 := by
  rcases Deep.open_slice Tryz.underlying23 h with ⟨e, _⟩ | ⟨a, len, cap, m, n', D, Pl, e, _, hl, hm, hmm, hx, hi⟩
  · exact ⟨none, 0, [], e, (fun k z hz => by simp at hz), Nat.zero_le _, fun x hx => by cases hx⟩
  · have hm' : m = cap := by simpa using hmm
    have hd : y.1 = .slice ((List.range len).map D) ((List.range (m - len)).map fun j => D (len + j)) := congrArg (·.1) hx
    have hW : DataW.weights Tryz.prog 23 y.1 = (((List.range len).map D).length + ((List.range (m - len)).map fun j => D (len + j)).length) * Tryz.prog.bytesOf 73 :: (DataW.weightsAll Tryz.prog 73 ((List.range len).map D) ++ DataW.weightsAll Tryz.prog 73 ((List.range (m - len)).map fun j => D (len + j))) := by
      rw [hd]
      simp [DataW.weights, Tryz.underlying23]
    obtain ⟨L, hL, hat⟩ := choose_listS (len := len) (p := fun i (p : Int × List Int) => ∃ K c, W.cell? (a.add (i * 2)) = some (.int .i64 p.1) ∧ W.cell? (a.add (i * 2 + 1)) = some (.slice K p.2.length c) ∧ IntsIn W K p.2 ∧ p.2.length ≤ 140737488355328 ∧ (K = none → p.2.length = 0 ∧ c = 0)) fun i hlt => by
      obtain ⟨cs', hc, htr⟩ := hi i (by omega)
      rw [cellsS73] at hc
      obtain ⟨_, _, hat⟩ := World.cells?_some hc
      obtain ⟨p, K, c, rfl, h3⟩ := open_source htr (fun m' hm2 => hw m' (by
        rw [hW]
        exact List.mem_cons_of_mem _ (List.mem_append_left _ (weightsAll_memS (List.mem_map.2 ⟨i, by simpa using hlt, rfl⟩) hm2))))
      have h0 := hat 0 (by omega)
      have h1 := hat 1 (by omega)
      rw [add_add'] at h0 h1
      exact ⟨p, K, c, h0, h1, h3⟩
    refine ⟨some a, cap, L, by rw [hL]; exact e, fun k z hz => ?_, ?_, fun x hx => ?_⟩
    · have hk : k < len := by have := (List.getElem?_eq_some_iff.1 hz).1; omega
      obtain ⟨z0, hz0⟩ : ∃ z0, L[0]? = some z0 := ⟨L[0]'(by omega), List.getElem?_eq_getElem _⟩
      obtain ⟨_, _, e0, _⟩ := hat 0 z0 hz0
      have e0' : W.cell? a = some (.int .i64 z0.1) := e0
      have hplain := plain_intS e0'
      have hb := World.block_lt_of_cell? _ _ e0'
      obtain ⟨b, off, spot⟩ := a
      simp only at hplain hb
      subst hplain
      obtain ⟨K, c, h0, h1, h2, _, h3⟩ := hat k z hz
      rw [add_midS] at h0 h1
      exact ⟨b, off, K, c, rfl, hb, h0, h1, h2, h3⟩
    · have hh := hw _ (by rw [hW]; exact List.mem_cons_self)
      rw [bytesS73] at hh
      simp at hh
      have := reach_leS
      omega
    · obtain ⟨k, hk⟩ := List.getElem?_of_mem hx
      obtain ⟨_, _, _, _, _, h, _⟩ := hat k x hk
      exact h
set_option maxRecDepth 100000 in
/-- the argument -/
theorem open_srcs {r : Reach} {b0 : Nat} {v : Value} {d : DataW H} {p : List MemPlace} (hv : Value.okWide Tryz.prog W r b0 23 v) (h : DataW.Trod enc Tryz.prog W 0 (fun _ => true) true 23 v d p) (hw : ∀ m ∈ d.weights Tryz.prog 23, m ≤ reachBytes) :
    ∃ A c L, v = .slice A (List.length L) c ∧ Srcs W A L ∧ L.length ≤ 140737488355328 ∧ ∀ x ∈ L, x.2.length ≤ 140737488355328 := by
  obtain ⟨a0, len0, cap0, rfl⟩ := okWide_slice Tryz.underlying23 hv
  obtain ⟨fuel, hf⟩ := h
  have hf' : DataW.trod enc Tryz.prog W 0 (fun _ => true) true fuel 23 [.slice a0 len0 cap0] = some (d, p) := hf
  obtain ⟨A, c, L, e, h2⟩ := open_sources hf' hw
  exact ⟨A, c, L, by simpa using e, h2⟩
end
/-! ## the sources' numbers are few -/
theorem wrap64_few {z : Int} {m : Nat} (h0 : 0 ≤ z) (h1 : z ≤ 300) (hm : m ≤ 140737488355328) : wrap64 (wrap64 (z + m) + 1) = z + m + 1 := by
  unfold wrap64
  omega
theorem smallGo_cons {m : Nat} {M : List Nat} {z : Int} (h : smallGo (m :: M) z = true) (h0 : 0 ≤ z) (h1 : z ≤ 300) (hm : m ≤ 140737488355328) : z + m + 1 ≤ 300 ∧ smallGo M (z + m + 1) = true := by
  have e : smallGo (m :: M) z = if 300 < wrap64 (wrap64 (z + m) + 1) then false else smallGo M (wrap64 (wrap64 (z + m) + 1)) := rfl
  rw [e, wrap64_few h0 h1 hm] at h
  by_cases h3 : 300 < z + m + 1
  · rw [if_pos h3] at h; cases h
  · rw [if_neg h3] at h
    exact ⟨by omega, h⟩
theorem smallGo_le : ∀ (M : List Nat) (z : Int), smallGo M z = true → 0 ≤ z → z ≤ 300 → (∀ m ∈ M, m ≤ 140737488355328) → ∀ m ∈ M, m ≤ 300 := by
  intro M
  induction M with
  | nil => intro z _ _ _ _ m hm; cases hm
  | cons m M ih =>
    intro z h h0 h1 hb m' hm'
    obtain ⟨q1, q2⟩ := smallGo_cons h h0 h1 (hb m List.mem_cons_self)
    rcases List.mem_cons.1 hm' with e | hm'
    · omega
    · exact ih _ q2 (by omega) q1 (fun m hm => hb m (List.mem_cons_of_mem _ hm)) m' hm'
theorem srcAt_of {w : World} {A : Option Addr} {L : List (Int × List Int)} (h : Srcs w A L) : SrcAt w A (L.map fun x => x.2.length) := fun k m hm => by
  rw [List.getElem?_map] at hm
  obtain ⟨x, hx, rfl⟩ := Option.map_eq_some_iff.1 hm
  obtain ⟨b, off, B, cc, e, h1, h2, h3, _⟩ := h k x hx
  exact ⟨b, off, x.1, B, cc, e, h1, h2, h3⟩
theorem srcIn_of {w : World} {A : Option Addr} {L : List (Int × List Int)} (h : Srcs w A L) : SrcIn w A L.length := fun k hk => by
  obtain ⟨b, off, B, cc, e, h1, h2, h3, _⟩ := h k _ (List.getElem?_eq_getElem hk)
  exact ⟨b, off, _, B, _, cc, e, h1, h2, h3⟩
end Go.Proofs.YtnfmgkkhejminaaGreatDoor

namespace Go.Proofs.YtnfmgkkhejminaaGreatDoor
open Go Go.RowKit Go.ChangeShapes Go.WideShapes Go.Ev
theorem cellsOf3 : Tryz.prog.cellsOf 3 = 1 := by kernel_rfl
set_option maxRecDepth 10000 in
theorem choose_list {α : Type} {len : Nat} {p : Nat → α → Prop} (h : ∀ i, i < len → ∃ x, p i x) : ∃ L : List α, L.length = len ∧ ∀ (i : Nat) x, L[i]? = some x → p i x := by
  induction len with
  | zero => exact ⟨[], rfl, fun i x hx => by simp at hx⟩
  | succ k ih =>
    obtain ⟨L, hl, hL⟩ := ih fun i hi => h i (by omega)
    obtain ⟨x, hx⟩ := h k (by omega)
    refine ⟨L ++ [x], by simp [hl], fun i y hy => ?_⟩
    by_cases hi : i < k
    · rw [List.getElem?_append_left (by omega)] at hy
      exact hL i y hy
    · have : i = k := by
        have := (List.getElem?_eq_some_iff.1 hy).1
        simp [hl] at this
        omega
      subst this
      rw [List.getElem?_append_right (by omega), hl] at hy
      simp at hy
      subst hy
      exact hx
/-- a listed table fills its block -/
theorem tab_whole {P : Program} {W : World} {name : String} {k : IntKind} {zs : List Int} {rest : List (String × DataW Unit)} {g : Nat} {t e : TypeId} {n : Nat}
    (hg : P.globalNamed name = some g) (hty : (P.globals[g]?).map (·.type) = some t) (ht : P.underlying t = some (.array n e)) (he : P.underlying e = some (.int k)) (hce : P.cellsOf e = 1) (hct : P.cellsOf t = n)
    (hz : 0 < zs.length) (h : laidMet P ((name, Lib.tabData k zs) :: rest) W) : ∃ t2, W.heap[g]? = some (.cells ⟨zs.map (Value.int k)⟩ t2) := by
  obtain ⟨ps, ⟨g', t', cs, fuel, p, q, h1, h2, h3, h4, h5, rfl⟩, _, hpl⟩ := h
  obtain rfl := Option.some.inj (hg.symm.trans h1)
  obtain rfl := Option.some.inj (hty.symm.trans h2)
  have hcs := Lib.cells_of_tab ht he hce hct h4
  obtain ⟨cs⟩ := cs
  have hcs : cs = zs.map fun z => Value.int k z := hcs
  subst hcs
  have hin : MemPlace.cell g 0 ∈ MemPlace.row ⟨g, 0, none⟩ (zs.map fun z => Value.int k z).length ++ p ++ q := by
    simp only [MemPlace.row, List.mem_append, List.mem_map, List.mem_range]
    exact .inl (.inl ⟨0, by simpa using hz, rfl⟩)
  obtain ⟨⟨c, t2, hc⟩, _⟩ := hpl g 0 hin
  have hv : W.var? P name = some c := by simp [World.var?, h1, hc]
  rw [hv] at h3
  cases h3
  exact ⟨t2, hc⟩
/-- the listed table fills its block -/
def Tab0 (W : World) : Prop := ∃ t2, W.heap[0]? = some (.cells ⟨tab64.map (Value.int .u8)⟩ t2)
theorem tab0_cell {W : World} (h : Tab0 W) {off : Nat} {z : Int} (hc : W.cell? ⟨0, off, none⟩ = some (.int .i64 z)) : False := by
  obtain ⟨t2, h⟩ := h
  simp only [World.cell?, h] at hc
  simp at hc
theorem add_mid (g off i : Nat) : (⟨g, off, none⟩ : Addr).add i = ⟨g, off + i, none⟩ := by
  unfold Addr.add
  by_cases hi : i = 0 <;> simp [hi]
section
variable {H : Type} {enc : TypeId × Value → H} {W : World}
set_option maxRecDepth 100000 in
theorem open_said {r : Reach} {b0 : Nat} {v : Value} {d : DataW H} {p : List MemPlace} (hT : Tab0 W) (hv : Value.okWide Tryz.prog W r b0 22 v) (h : DataW.Trod enc Tryz.prog W 0 (fun _ => true) true 22 v d p) :
    v = .slice none 0 0 ∨ ∃ g off cap l, v = .slice (some ⟨g, off, none⟩) (List.length l) cap ∧ SaidAt W g off cap l ∧ ∀ x ∈ l, I64 x := by
  obtain ⟨a0, len0, cap0, rfl⟩ := okWide_slice Tryz.underlying22 hv
  obtain ⟨fuel, hf⟩ := h
  have hf' : DataW.trod enc Tryz.prog W 0 (fun _ => true) true fuel 22 [.slice a0 len0 cap0] = some (d, p) := hf
  rcases Deep.open_slice1 Tryz.underlying22 cellsOf3 hf' with ⟨e, _⟩ | ⟨a, len, cap, m, n', V, D, Pl, e, _, hl, hm, hmm, hx, hi⟩
  · exact .inl (by simpa using e)
  · have hm' : m = cap := by simpa using hmm
    subst hm'
    obtain ⟨rfl, rfl, rfl⟩ : a0 = some a ∧ len0 = len ∧ cap0 = m := by simpa using e
    right
    have hv' : Cell.ok Tryz.prog W r b0 22 (.slice (some a) len0 cap0) := by
      unfold Value.okWide at hv
      rw [Tryz.underlying22] at hv
      unfold Cell.okWide at hv
      rw [Tryz.underlying22] at hv
      exact hv
    unfold Cell.ok at hv'
    rw [Tryz.underlying22] at hv'
    obtain ⟨_, _, _, hsp, row, cells, hsh, _⟩ := hv'
    obtain ⟨g, off, spot⟩ := a
    obtain rfl : spot = none := hsp
    have hg : g < W.heap.size := by
      unfold World.shape? at hsh
      cases hh : W.heap[g]? with
      | none => rw [hh] at hsh; cases hsh
      | some o => exact (Array.getElem?_eq_some_iff.1 hh).1
    have hcell : ∀ i, i < cap0 → ∃ z, W.cell? ⟨g, off + i, none⟩ = some (.int .i64 z) ∧ I64 z := fun i hlt => by
      obtain ⟨h1, h2⟩ := hi i hlt
      obtain ⟨z, e1, _, hwf⟩ := DataW.trod_int Tryz.underlying3 h2
      have e1' : V i = .int .i64 z := by simpa using e1
      rw [add_mid, e1'] at h1
      refine ⟨z, h1, ?_⟩
      simp [Lit.wf, IntKind.min, IntKind.max, IntKind.signed, IntKind.bits] at hwf
      exact ⟨by omega, by omega⟩
    obtain ⟨L, hL, hat⟩ := choose_list (len := len0) (p := fun i z => W.cell? ⟨g, off + i, none⟩ = some (.int .i64 z) ∧ I64 z) fun i hlt => hcell i (by omega)
    refine ⟨g, off, cap0, L, by rw [hL], ⟨hg, fun hne => ?_⟩, fun x hx => ?_⟩
    · have hpos : 0 < len0 := by rw [← hL]; exact List.length_pos_iff.2 hne
      obtain ⟨z0, hz0, _⟩ := hcell 0 (by omega)
      obtain ⟨z1, hz1, _⟩ := hcell (cap0 - 1) (by omega)
      have hne0 : g ≠ 0 := by
        rintro rfl
        exact tab0_cell hT hz0
      cases hh : W.heap[g]? with
      | none => simp only [World.cell?, hh] at hz0; cases hz0
      | some o =>
        cases o with
        | cells arr e fr =>
          obtain ⟨lo, hi'⟩ := fr
          refine ⟨hne0, arr, e, lo, hi', rfl, ?_, by omega, fun i hi2 => ?_⟩
          · simp only [World.cell?, hh] at hz1
            have := (Array.getElem?_eq_some_iff.1 hz1).1
            omega
          · have h3 := (hat i (L[i]'hi2) (List.getElem?_eq_getElem hi2)).1
            simp only [World.cell?, hh] at h3
            have h4 : arr[off + i]? = some (.int .i64 (L[i]'hi2)) := h3
            rw [h4, List.getD_eq_getElem?_getD, List.getElem?_eq_getElem hi2]
            rfl
        | _ => simp only [World.cell?, hh] at hz0; cases hz0
    · obtain ⟨i, hi2⟩ := List.getElem?_of_mem hx
      exact (hat i x hi2).2
end
end Go.Proofs.YtnfmgkkhejminaaGreatDoor

namespace Go.Proofs.YtnfmgkkhejminaaGreatDoor
open Go Go.RowKit Go.Ev Wi
theorem tabU8_of {W : World} (h : Tab0 W) : TabU8 W := fun off v hc => by
  obtain ⟨t2, h⟩ := h
  simp only [World.cell?, h] at hc
  simp at hc
  obtain ⟨z, _, rfl⟩ := hc
  exact ⟨z, rfl⟩
section
variable {A0 : Option Addr} {C : Nat} {L : List (Int × List Int)} {kk : Int} {w : World}
theorem ints_said {g off cap : Nat} {l : List Int} (hS : SaidAt w g off cap l) : IntsIn w (some ⟨g, off, none⟩) l := fun k hk => by
  obtain ⟨_, arr, e, lo, hi, q1, _, _, q4⟩ := hS.2 (by rintro rfl; simp at hk)
  refine ⟨g, off, rfl, hS.1, ?_⟩
  simp only [World.cell?, q1]
  exact q4 k hk
theorem bad_of {l : List Int} (h : ¬ small l) : ∃ x ∈ l, ¬ (0 ≤ x ∧ x ≤ 15) := by
  unfold small at h
  rw [Classical.not_forall] at h
  obtain ⟨x, hx⟩ := h
  rw [Classical.not_imp] at hx
  exact ⟨x, hx.1, hx.2⟩
set_option maxRecDepth 100000 in
/-- the law, whatever was said and whatever the sources are -/
theorem law3_some (g off cap : Nat) (l : List Int) (hw : 2 ≤ w.heap.size) (hT : t64.In w) (hU : TabU8 w) (hS : SaidAt w g off cap l) (hI : ∀ x ∈ l, I64 x) (hSr : Srcs w A0 L) (hL : L.length ≤ 140737488355328) (hL2 : ∀ x ∈ L, x.2.length ≤ 140737488355328) (hkk0 : 0 ≤ kk) (hkk1 : kk < 256) :
    Calls Tryz.prog 3 #[.slice (some ⟨g, off, none⟩) l.length cap, .slice A0 L.length C, .int .u8 kk] w (True1 w) := by
  have hwk : ∀ W, Below w.heap.size w W → Calls Tryz.prog 5 #[] W (True1 W) := fun W hb => wakes_calls (Nat.le_trans hw hb.size) (tabIn_below hT hb)
  have hst : ∀ W, Below w.heap.size w W → Calls Tryz.prog 7 #[] W (StartRet W) := fun W hb => start_calls (Nat.le_trans hw hb.size) (tabIn_below hT hb)
  have hsmq : ∀ W, Below w.heap.size w W → Calls Tryz.prog 6 #[.slice A0 L.length C] W (Says (smallQ (L.map fun x => x.2.length)) W) := fun W hb => small_is A0 L.length C _ W (by simp) (srcAt_of (hSr.below hb)) hL
  by_cases hlen : l.length ≤ 10
  · cases hq : smallQ (L.map fun x => x.2.length) with
    | false =>
      rw [hq] at hsmq
      exact law3_large _ _ _ _ _ w hlen hwk fun W hb => hsmq W hb
    | true =>
      rw [hq] at hsmq
      by_cases hsm : small l
      · unfold smallQ at hq
        rw [Bool.and_eq_true, decide_eq_true_eq, List.length_map] at hq
        have h300 := smallGo_le _ 0 hq.1 (by omega) (by omega) (fun m hm => by
          obtain ⟨x, hx, rfl⟩ := List.mem_map.1 hm
          exact hL2 x hx)
        obtain ⟨a, b, c, hc2, r, hc, h1, h2⟩ := pickS hlen (small_at hsm 0).1 (small_at hsm 1).1
        have := law3_in (nl := false) (g := g) (off := off) (cap := cap) (A0 := A0) (N := L.length) (C := C) (kk := kk) (w := w) r (fun h => by cases h) hc2 rfl hlen hsm hc h1 h2 hw hT hU hS hSr rfl (by omega) (fun x hx => by
          have := h300 x.2.length (List.mem_map.2 ⟨x, hx, rfl⟩)
          omega) hsmq hkk0 hkk1
        rw [bsel_false] at this
        exact this
      · exact law3_bad _ _ cap l _ _ _ kk w rfl hlen (ints_said hS) hI (bad_of hsm) (srcIn_of hSr) hL hwk hst
  · exact law3_long _ _ _ _ _ w (by omega) hwk
set_option maxRecDepth 100000 in
theorem law3_none (hw : 2 ≤ w.heap.size) (hT : t64.In w) (hU : TabU8 w) (hSr : Srcs w A0 L) (hL : L.length ≤ 140737488355328) (hL2 : ∀ x ∈ L, x.2.length ≤ 140737488355328) (hkk0 : 0 ≤ kk) (hkk1 : kk < 256) :
    Calls Tryz.prog 3 #[.slice none 0 0, .slice A0 L.length C, .int .u8 kk] w (True1 w) := by
  have hwk : ∀ W, Below w.heap.size w W → Calls Tryz.prog 5 #[] W (True1 W) := fun W hb => wakes_calls (Nat.le_trans hw hb.size) (tabIn_below hT hb)
  have hsmq : ∀ W, Below w.heap.size w W → Calls Tryz.prog 6 #[.slice A0 L.length C] W (Says (smallQ (L.map fun x => x.2.length)) W) := fun W hb => small_is A0 L.length C _ W (by simp) (srcAt_of (hSr.below hb)) hL
  cases hq : smallQ (L.map fun x => x.2.length) with
  | false =>
    rw [hq] at hsmq
    exact law3_large _ _ _ _ _ w (by omega) hwk fun W hb => hsmq W hb
  | true =>
    rw [hq] at hsmq
    unfold smallQ at hq
    rw [Bool.and_eq_true, decide_eq_true_eq, List.length_map] at hq
    have h300 := smallGo_le _ 0 hq.1 (by omega) (by omega) (fun m hm => by
      obtain ⟨x, hx, rfl⟩ := List.mem_map.1 hm
      exact hL2 x hx)
    have := law3_in (l := []) (nl := true) (g := 0) (off := 0) (cap := 0) (A0 := A0) (N := L.length) (C := C) (kk := kk) (w := w) runZ_nil (fun _ => rfl) (by omega) rfl (by simp) (fun x hx => by cases hx) ⟨fun h => absurd rfl h, fun h => by omega⟩ (by omega) (by omega) hw hT hU ⟨by omega, fun h => absurd rfl h⟩ hSr rfl (by omega) (fun x hx => by
      have := h300 x.2.length (List.mem_map.2 ⟨x, hx, rfl⟩)
      omega) hsmq hkk0 hkk1
    rw [bsel_true] at this
    exact this
end
end Go.Proofs.YtnfmgkkhejminaaGreatDoor
