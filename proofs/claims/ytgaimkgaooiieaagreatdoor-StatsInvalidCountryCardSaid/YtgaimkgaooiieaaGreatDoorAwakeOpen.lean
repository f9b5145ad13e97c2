/-
  An argument of type api.Config: its value and its cells, for every such argument that can be read, within the reach.
-/
import Derived.Test.YtgaimkgaooiieaaGreatDoorAwakeCfgA
import Derived.ProofKit
import Derived.Deep.Slices
import Derived.SizedLaws
namespace Go.Proofs.YtgaimkgaooiieaaGreatDoor
open Go Go.RowKit Go.ChangeShapes Go.WideShapes

theorem add_add' (a : Addr) (i j : Nat) : (a.add i).add j = a.add (i + j) := by
  unfold Addr.add
  by_cases hi : i = 0 <;> by_cases hj : j = 0 <;> simp [hi, hj, Nat.add_assoc]
theorem cellsOf2 : Tryz.prog.cellsOf 2 = 1 := by kernel_rfl
theorem cellsOf3 : Tryz.prog.cellsOf 3 = 1 := by kernel_rfl
theorem cellsOf9 : Tryz.prog.cellsOf 9 = 1 := by kernel_rfl
theorem cellsOf22 : Tryz.prog.cellsOf 22 = 1 := by kernel_rfl
theorem cellsOf23 : Tryz.prog.cellsOf 23 = 1 := by kernel_rfl
theorem cellsOf24 : Tryz.prog.cellsOf 24 = 1 := by kernel_rfl
theorem cellsOf25 : Tryz.prog.cellsOf 25 = 1 := by kernel_rfl
theorem cellsOf27 : Tryz.prog.cellsOf 27 = 15 := by kernel_rfl
theorem cellsOf76 : Tryz.prog.cellsOf 76 = 3 := by kernel_rfl
theorem cellsOf85 : Tryz.prog.cellsOf 85 = 3 := by kernel_rfl
theorem cellsOf88 : Tryz.prog.cellsOf 88 = 3 := by kernel_rfl
theorem bytesOf3 : Tryz.prog.bytesOf 3 = 8 := by kernel_rfl
theorem bytesOf76 : Tryz.prog.bytesOf 76 = 48 := by kernel_rfl
theorem bytesOf85 : Tryz.prog.bytesOf 85 = 24 := by kernel_rfl
theorem bytesOf88 : Tryz.prog.bytesOf 88 = 24 := by kernel_rfl
theorem reach_le : reachBytes ≤ 140737488355328 := by decide

theorem plain_int {W : World} {a : Addr} {k : IntKind} {z : Int} (h : W.cell? a = some (.int k z)) : a.spot = none := by
  cases hs : a.spot with
  | none => rfl
  | some q =>
    unfold World.cell? at h
    rw [hs] at h
    split at h <;> simp at h
theorem plain_string {W : World} {a : Addr} {s : ByteArray} (h : W.cell? a = some (.string s)) : a.spot = none := by
  cases hs : a.spot with
  | none => rfl
  | some q =>
    unfold World.cell? at h
    rw [hs] at h
    split at h <;> simp at h
set_option maxRecDepth 10000 in
theorem choose_list {α : Type} {len : Nat} {p : Nat → α → Prop} (h : ∀ i, i < len → ∃ x, p i x) : ∃ L : List α, L.length = len ∧ ∀ (i : Nat) x, L[i]? = some x → p i x := by
  induction len with
  | zero => exact ⟨[], rfl, fun i x hx => by simp at hx⟩
  | succ k ih =>
    obtain ⟨L, hl, hL⟩ := ih fun i hi => h i (by omega)
    obtain ⟨x, hx⟩ := h k (by omega)
    refine ⟨L ++ [x], by simp [hl], fun i y hy => ?_⟩
    by_cases hi : i < k
    · rw [List.getElem?_append_left (by omega)] at hy
      exact hL i y hy
    · have : i = k := by
        have := (List.getElem?_eq_some_iff.1 hy).1
        simp [hl] at this
        omega
      subst this
      rw [List.getElem?_append_right (by omega), hl] at hy
      simp at hy
      subst hy
      exact hx

section
variable {H : Type} {enc : TypeId × Value → H} {W : World} {n : Nat}
theorem field_one {t : TypeId} {cs : List Value} {o : Nat} {v : Value} (hc : Tryz.prog.cellsOf t = 1) (e : List.take (Tryz.prog.cellsOf t) (List.drop o cs) = [v]) : cs[o]? = some v := by
  have := congrArg (·[0]?) e
  simp only [hc, List.getElem?_take, List.getElem?_drop] at this
  simpa using this
theorem field_int {t : TypeId} {cs : List Value} {o : Nat} {y : Option (DataW H × List MemPlace)} (hu : Tryz.prog.underlying t = some (.int .i64)) (hc : Tryz.prog.cellsOf t = 1) (hy : y.isSome = true)
    (h : DataW.trod enc Tryz.prog W 0 (fun _ => true) true n t (List.take (Tryz.prog.cellsOf t) (List.drop o cs)) = y) : ∃ z, cs[o]? = some (.int .i64 z) := by
  obtain ⟨y, rfl⟩ := Option.isSome_iff_exists.1 hy
  obtain ⟨z, e, _, _⟩ := DataW.trod_int hu h
  exact ⟨z, field_one hc e⟩
/-- a slice of numbers -/
theorem open_numbers {cs : List Value} {y : DataW H × List MemPlace} (h : DataW.trod enc Tryz.prog W 0 (fun _ => true) true n 22 cs = some y)
    (hw : ∀ m ∈ y.1.weights Tryz.prog 22, m ≤ reachBytes) : ∃ A c xs, cs = [.slice A (List.length xs) c] ∧ IntsAt W W.heap.size A xs ∧ xs.length ≤ 140737488355328 := by
  rcases Deep.open_slice1 Tryz.underlying22 cellsOf3 h with ⟨e, _⟩ | ⟨a, len, cap, m, n', V, D, Pl, e, _, hl, hm, hmm, hx, hi⟩
  · exact ⟨none, 0, [], e, (fun k z hz => by simp at hz), Nat.zero_le _⟩
  · have hm' : m = cap := by simpa using hmm
    obtain ⟨L, hL, hat⟩ := choose_list (len := len) (p := fun i z => W.cell? (a.add i) = some (.int .i64 z)) fun i hlt => by
      obtain ⟨h1, h2⟩ := hi i (by omega)
      obtain ⟨z, e1, _, _⟩ := DataW.trod_int Tryz.underlying3 h2
      exact ⟨z, by rw [h1]; simpa using e1⟩
    refine ⟨some a, cap, L, by rw [hL]; exact e, fun k z hz => ?_, ?_⟩
    · have hk : k < len := by have := (List.getElem?_eq_some_iff.1 hz).1; omega
      obtain ⟨z0, hz0⟩ : ∃ z0, L[0]? = some z0 := ⟨L[0]'(by omega), List.getElem?_eq_getElem _⟩
      have e0 : W.cell? a = some (.int .i64 z0) := hat 0 z0 hz0
      have hplain := plain_int e0
      have hb := World.block_lt_of_cell? _ _ e0
      obtain ⟨b, off, spot⟩ := a
      simp only at hplain hb
      subst hplain
      refine ⟨b, off, rfl, hb, ?_⟩
      rw [← Addr.add_mid]
      exact hat k z hz
    · rw [hL]
      have hh := hw ((len + (m - len)) * Tryz.prog.bytesOf 3) (by rw [hx]; simp [DataW.weights, Tryz.underlying22])
      rw [bytesOf3] at hh
      have := reach_le
      omega
theorem three {cs : List Value} (h : cs.length = 3) : ∃ a b c, cs = [a, b, c] := by
  match cs, h with
  | [a, b, c], _ => exact ⟨a, b, c, rfl⟩
/-- a slice of records of three numbers -/
theorem open_tris {t e : TypeId} {cs : List Value} {y : DataW H × List MemPlace} (ht : Tryz.prog.underlying t = some (.slice e)) (he : Tryz.prog.cellsOf e = 3) (hby : Tryz.prog.bytesOf e = 24)
    (ho : ∀ {n : Nat} {cs : List Value} {x : DataW H × List MemPlace}, DataW.trod enc Tryz.prog W 0 (fun _ => true) true n e cs = some x → ∃ t : TriD, cs = [.int .i64 t.x, .int .i64 t.y, .int .i64 t.z])
    (h : DataW.trod enc Tryz.prog W 0 (fun _ => true) true n t cs = some y)
    (hw : ∀ m ∈ y.1.weights Tryz.prog t, m ≤ reachBytes) : ∃ A c xs, cs = [.slice A (List.length xs) c] ∧ TrisAt W W.heap.size A xs ∧ xs.length ≤ 140737488355328 := by
  rcases Deep.open_slice ht h with ⟨ee, _⟩ | ⟨a, len, cap, m, n', D, Pl, ee, _, hl, hm, hmm, hx, hi⟩
  · exact ⟨none, 0, [], ee, (fun k z hz => by simp at hz), Nat.zero_le _⟩
  · have hm' : m = cap := by simpa using hmm
    obtain ⟨L, hL, hat⟩ := choose_list (len := len) (p := fun i (t : TriD) => W.cell? (a.add (i * 3)) = some (.int .i64 t.x) ∧ W.cell? (a.add (i * 3 + 1)) = some (.int .i64 t.y) ∧ W.cell? (a.add (i * 3 + 2)) = some (.int .i64 t.z)) fun i hlt => by
      obtain ⟨cs', hc, htr⟩ := hi i (by omega)
      rw [he] at hc
      obtain ⟨_, _, hat⟩ := World.cells?_some hc
      obtain ⟨t, rfl⟩ := ho htr
      have h0 := hat 0 (by omega)
      have h1 := hat 1 (by omega)
      have h2 := hat 2 (by omega)
      rw [add_add'] at h0 h1 h2
      exact ⟨t, h0, h1, h2⟩
    refine ⟨some a, cap, L, by rw [hL]; exact ee, fun k z hz => ?_, ?_⟩
    · have hk : k < len := by have := (List.getElem?_eq_some_iff.1 hz).1; omega
      obtain ⟨z0, hz0⟩ : ∃ z0, L[0]? = some z0 := ⟨L[0]'(by omega), List.getElem?_eq_getElem _⟩
      have e0 : W.cell? a = some (.int .i64 z0.x) := (hat 0 z0 hz0).1
      have hplain := plain_int e0
      have hb := World.block_lt_of_cell? _ _ e0
      obtain ⟨b, off, spot⟩ := a
      simp only at hplain hb
      subst hplain
      obtain ⟨h0, h1, h2⟩ := hat k z hz
      refine ⟨b, off, rfl, hb, ?_, ?_, ?_⟩
      · rw [← Addr.add_mid]; exact h0
      · rw [Nat.add_assoc, ← Addr.add_mid]; exact h1
      · rw [Nat.add_assoc, ← Addr.add_mid]; exact h2
    · rw [hL]
      have hh := hw ((len + (m - len)) * Tryz.prog.bytesOf e) (by rw [hx]; simp [DataW.weights, ht])
      rw [hby] at hh
      have := reach_le
      omega
theorem open_edge {cs : List Value} {x : DataW H × List MemPlace} (h : DataW.trod enc Tryz.prog W 0 (fun _ => true) true n 85 cs = some x) : ∃ t : TriD, cs = [.int .i64 t.x, .int .i64 t.y, .int .i64 t.z] := by
  obtain ⟨xs, n1, _, _, hcl, hxl, hg⟩ := DataW.trod_struct Tryz.underlying85 h
  rw [cellsOf85] at hcl
  have hxl : xs.length = 3 := hxl
  have ok : ∀ j, j < 3 → (xs[j]?).isSome = true := fun j hj => by rw [List.getElem?_eq_getElem (by omega)]; rfl
  obtain ⟨z0, k0⟩ := field_int Tryz.underlying3 cellsOf3 (ok 0 (by omega)) (hg 0 _ rfl)
  obtain ⟨z1, k1⟩ := field_int Tryz.underlying3 cellsOf3 (ok 1 (by omega)) (hg 1 _ rfl)
  obtain ⟨z2, k2⟩ := field_int Tryz.underlying2 cellsOf2 (ok 2 (by omega)) (hg 2 _ rfl)
  obtain ⟨a, b, c, rfl⟩ := three hcl
  simp at k0 k1 k2
  exact ⟨⟨z0, z1, z2⟩, by rw [k0, k1, k2]⟩
theorem open_unit {cs : List Value} {x : DataW H × List MemPlace} (h : DataW.trod enc Tryz.prog W 0 (fun _ => true) true n 88 cs = some x) : ∃ t : TriD, cs = [.int .i64 t.x, .int .i64 t.y, .int .i64 t.z] := by
  obtain ⟨xs, n1, _, _, hcl, hxl, hg⟩ := DataW.trod_struct Tryz.underlying88 h
  rw [cellsOf88] at hcl
  have hxl : xs.length = 3 := hxl
  have ok : ∀ j, j < 3 → (xs[j]?).isSome = true := fun j hj => by rw [List.getElem?_eq_getElem (by omega)]; rfl
  obtain ⟨z0, k0⟩ := field_int Tryz.underlying3 cellsOf3 (ok 0 (by omega)) (hg 0 _ rfl)
  obtain ⟨z1, k1⟩ := field_int Tryz.underlying3 cellsOf3 (ok 1 (by omega)) (hg 1 _ rfl)
  obtain ⟨z2, k2⟩ := field_int Tryz.underlying3 cellsOf3 (ok 2 (by omega)) (hg 2 _ rfl)
  obtain ⟨a, b, c, rfl⟩ := three hcl
  simp at k0 k1 k2
  exact ⟨⟨z0, z1, z2⟩, by rw [k0, k1, k2]⟩
set_option maxRecDepth 100000 in
theorem open_plan {cs : List Value} {x : DataW H × List MemPlace} (h : DataW.trod enc Tryz.prog W 0 (fun _ => true) true n 76 cs = some x) (hw : ∀ m ∈ x.1.weights Tryz.prog 76, m ≤ reachBytes) :
    ∃ (p : PlD) (K : Option Addr) (c : Nat), cs = [.string p.code, .int .i64 p.urg, .slice K p.kinds.length c] ∧ IntsAt W W.heap.size K p.kinds ∧ p.kinds.length ≤ 140737488355328 ∧ p.code.size ≤ 140737488355328 := by
  obtain ⟨xs, n1, _, rfl, hcl, hxl, hg⟩ := DataW.trod_struct Tryz.underlying76 h
  rw [cellsOf76] at hcl
  have hxl : xs.length = 3 := hxl
  have ok : ∀ j, j < 3 → (xs[j]?).isSome = true := fun j hj => by rw [List.getElem?_eq_getElem (by omega)]; rfl
  have wt : ∀ (j : Nat) (t : TypeId) (y : DataW H × List MemPlace), [9, 3, 22][j]? = some t → xs[j]? = some y → ∀ m ∈ y.1.weights Tryz.prog t, m ≤ reachBytes := fun j t y hj hy m hm => hw m (by
    show m ∈ DataW.weights Tryz.prog 76 (.agg (xs.map (·.1)))
    unfold DataW.weights
    rw [Tryz.underlying76]
    exact DataW.weights_mem_each (j := j) (t := t) (d := y.1) hj (by rw [List.getElem?_map, hy]; rfl) m hm)
  obtain ⟨y0, q0⟩ := Option.isSome_iff_exists.1 (ok 0 (by omega))
  have g0 := hg 0 _ rfl
  rw [q0] at g0
  obtain ⟨s, e0, d0, _⟩ := DataW.trod_string Tryz.underlying9 g0
  obtain ⟨z1, k1⟩ := field_int Tryz.underlying3 cellsOf3 (ok 1 (by omega)) (hg 1 _ rfl)
  obtain ⟨y2, q2⟩ := Option.isSome_iff_exists.1 (ok 2 (by omega))
  have g2 := hg 2 _ rfl
  rw [q2] at g2
  obtain ⟨K, c, ks, e2, hK, hkl⟩ := open_numbers g2 (wt 2 22 y2 rfl q2)
  have k0 := field_one cellsOf9 e0
  have k2 := field_one cellsOf22 e2
  have hs : s.size ≤ 140737488355328 := by
    have := wt 0 9 y0 rfl q0 s.size (by rw [d0]; simp [DataW.weights])
    have := reach_le
    omega
  obtain ⟨a, b, d, rfl⟩ := three hcl
  simp at k0 k1 k2
  exact ⟨⟨s, z1, ks⟩, K, c, by rw [k0, k1, k2], hK, hkl, hs⟩
theorem weightsAll_mem {P : Program} {e : TypeId} : ∀ {l : List (DataW H)} {d : DataW H} {m : Nat}, d ∈ l → m ∈ d.weights P e → m ∈ DataW.weightsAll P e l
  | x :: l, d, m, hd, hm => by
    simp only [DataW.weightsAll, List.mem_append]
    rcases List.mem_cons.1 hd with rfl | hd
    · exact .inl hm
    · exact .inr (weightsAll_mem hd hm)
set_option maxRecDepth 100000 in
theorem open_plans {cs : List Value} {y : DataW H × List MemPlace} (h : DataW.trod enc Tryz.prog W 0 (fun _ => true) true n 25 cs = some y)
    (hw : ∀ m ∈ y.1.weights Tryz.prog 25, m ≤ reachBytes) : ∃ A c xs, cs = [.slice A (List.length xs) c] ∧ PlansAt W W.heap.size A xs ∧ xs.length ≤ c ∧ c ≤ 140737488355328 := by
  rcases Deep.open_slice Tryz.underlying25 h with ⟨e, _⟩ | ⟨a, len, cap, m, n', D, Pl, e, _, hl, hm, hmm, hx, hi⟩
  · exact ⟨none, 0, [], e, (fun k z hz => by simp at hz), Nat.le_refl _, Nat.zero_le _⟩
  · have hm' : m = cap := by simpa using hmm
    have hd : y.1 = .slice ((List.range len).map D) ((List.range (m - len)).map fun j => D (len + j)) := congrArg (·.1) hx
    have hW : DataW.weights Tryz.prog 25 y.1 = (((List.range len).map D).length + ((List.range (m - len)).map fun j => D (len + j)).length) * Tryz.prog.bytesOf 76 :: (DataW.weightsAll Tryz.prog 76 ((List.range len).map D) ++ DataW.weightsAll Tryz.prog 76 ((List.range (m - len)).map fun j => D (len + j))) := by
      rw [hd]
      simp [DataW.weights, Tryz.underlying25]
    obtain ⟨L, hL, hat⟩ := choose_list (len := len) (p := fun i (p : PlD) => ∃ K c, W.cell? (a.add (i * 3)) = some (.string p.code) ∧ W.cell? (a.add (i * 3 + 1)) = some (.int .i64 p.urg) ∧ W.cell? (a.add (i * 3 + 2)) = some (.slice K p.kinds.length c) ∧ IntsAt W W.heap.size K p.kinds ∧ p.kinds.length ≤ 140737488355328 ∧ p.code.size ≤ 140737488355328) fun i hlt => by
      obtain ⟨cs', hc, htr⟩ := hi i (by omega)
      rw [cellsOf76] at hc
      obtain ⟨_, _, hat⟩ := World.cells?_some hc
      obtain ⟨p, K, c, rfl, h3⟩ := open_plan htr (fun m' hm2 => hw m' (by
        rw [hW]
        exact List.mem_cons_of_mem _ (List.mem_append_left _ (weightsAll_mem (List.mem_map.2 ⟨i, by simpa using hlt, rfl⟩) hm2))))
      have h0 := hat 0 (by omega)
      have h1 := hat 1 (by omega)
      have h2 := hat 2 (by omega)
      rw [add_add'] at h0 h1 h2
      exact ⟨p, K, c, h0, h1, h2, h3⟩
    refine ⟨some a, cap, L, by rw [hL]; exact e, fun k z hz => ?_, by omega, ?_⟩
    · have hk : k < len := by have := (List.getElem?_eq_some_iff.1 hz).1; omega
      obtain ⟨z0, hz0⟩ : ∃ z0, L[0]? = some z0 := ⟨L[0]'(by omega), List.getElem?_eq_getElem _⟩
      obtain ⟨_, _, e0, _⟩ := hat 0 z0 hz0
      have e0' : W.cell? a = some (.string z0.code) := e0
      have hplain := plain_string e0'
      have hb := World.block_lt_of_cell? _ _ e0'
      obtain ⟨b, off, spot⟩ := a
      simp only at hplain hb
      subst hplain
      obtain ⟨K, c, h0, h1, h2, h3⟩ := hat k z hz
      refine ⟨b, off, K, c, rfl, hb, ?_, ?_, ?_, h3⟩
      · rw [← Addr.add_mid]; exact h0
      · rw [Nat.add_assoc, ← Addr.add_mid]; exact h1
      · rw [Nat.add_assoc, ← Addr.add_mid]; exact h2
    · have hh := hw _ (by rw [hW]; exact List.mem_cons_self)
      rw [bytesOf76] at hh
      simp at hh
      have := reach_le
      omega
theorem fifteen {cs : List Value} (h : cs.length = 15) : ∃ a0 a1 a2 a3 a4 a5 a6 a7 a8 a9 a10 a11 a12 a13 a14, cs = [a0, a1, a2, a3, a4, a5, a6, a7, a8, a9, a10, a11, a12, a13, a14] := by
  match cs, h with
  | [a0, a1, a2, a3, a4, a5, a6, a7, a8, a9, a10, a11, a12, a13, a14], _ => exact ⟨_, _, _, _, _, _, _, _, _, _, _, _, _, _, _, rfl⟩
set_option maxRecDepth 100000 in
theorem open_config {r : Reach} {b0 : Nat} {v : Value} {d : DataW H} {p : List MemPlace}
    (hv : Value.okWide Tryz.prog W r b0 27 v) (h : DataW.Trod enc Tryz.prog W 0 (fun _ => true) true 27 v d p) (hw : ∀ m ∈ d.weights Tryz.prog 27, m ≤ reachBytes) :
    ∃ (c : CfD) (P : CfP), v = .agg (cfCells c P) ∧ CfAt W W.heap.size c P := by
  obtain ⟨ar, rfl, _⟩ := okWide_struct Tryz.underlying27 hv
  obtain ⟨fuel, hf'⟩ := h
  have hf : DataW.trod enc Tryz.prog W 0 (fun _ => true) true fuel 27 ar.toList = some (d, p) := hf'
  obtain ⟨xs, n1, _, hxd, hcl, hxl, hg⟩ := DataW.trod_struct Tryz.underlying27 hf
  rw [cellsOf27] at hcl
  have hd : d = .agg (xs.map (·.1)) := congrArg (·.1) hxd
  subst hd
  have hxl : xs.length = 15 := hxl
  have ok : ∀ j, j < 15 → (xs[j]?).isSome = true := fun j hj => by rw [List.getElem?_eq_getElem (by omega)]; rfl
  have wt : ∀ (j : Nat) (t : TypeId) (y : DataW H × List MemPlace), [3, 22, 23, 24, 25, 2, 2, 2, 2, 2, 2, 2, 2, 3, 3][j]? = some t → xs[j]? = some y → ∀ m ∈ y.1.weights Tryz.prog t, m ≤ reachBytes := fun j t y hj hy m hm => hw m (by
    unfold DataW.weights
    rw [Tryz.underlying27]
    exact DataW.weights_mem_each (j := j) (t := t) (d := y.1) hj (by rw [List.getElem?_map, hy]; rfl) m hm)
  obtain ⟨z0, k0⟩ := field_int Tryz.underlying3 cellsOf3 (ok 0 (by omega)) (hg 0 _ rfl)
  obtain ⟨y1, q1⟩ := Option.isSome_iff_exists.1 (ok 1 (by omega))
  have g1 := hg 1 _ rfl
  rw [q1] at g1
  obtain ⟨Ad, dc, ds, e1, hD, hdl⟩ := open_numbers g1 (wt 1 22 y1 rfl q1)
  obtain ⟨y2, q2⟩ := Option.isSome_iff_exists.1 (ok 2 (by omega))
  have g2 := hg 2 _ rfl
  rw [q2] at g2
  obtain ⟨Ae, ec, es, e2, hE, hel⟩ := open_tris Tryz.underlying23 cellsOf85 bytesOf85 open_edge g2 (wt 2 23 y2 rfl q2)
  obtain ⟨y3, q3⟩ := Option.isSome_iff_exists.1 (ok 3 (by omega))
  have g3 := hg 3 _ rfl
  rw [q3] at g3
  obtain ⟨Au, uc, us, e3, hU, hul⟩ := open_tris Tryz.underlying24 cellsOf88 bytesOf88 open_unit g3 (wt 3 24 y3 rfl q3)
  obtain ⟨y4, q4⟩ := Option.isSome_iff_exists.1 (ok 4 (by omega))
  have g4 := hg 4 _ rfl
  rw [q4] at g4
  obtain ⟨Ap, pc, ps, e4, hP, hpc, hpl⟩ := open_plans g4 (wt 4 25 y4 rfl q4)
  have k1 := field_one cellsOf22 e1
  have k2 := field_one cellsOf23 e2
  have k3 := field_one cellsOf24 e3
  have k4 := field_one cellsOf25 e4
  obtain ⟨n0, k5⟩ := field_int Tryz.underlying2 cellsOf2 (ok 5 (by omega)) (hg 5 _ rfl)
  obtain ⟨n1, k6⟩ := field_int Tryz.underlying2 cellsOf2 (ok 6 (by omega)) (hg 6 _ rfl)
  obtain ⟨n2, k7⟩ := field_int Tryz.underlying2 cellsOf2 (ok 7 (by omega)) (hg 7 _ rfl)
  obtain ⟨n3, k8⟩ := field_int Tryz.underlying2 cellsOf2 (ok 8 (by omega)) (hg 8 _ rfl)
  obtain ⟨n4, k9⟩ := field_int Tryz.underlying2 cellsOf2 (ok 9 (by omega)) (hg 9 _ rfl)
  obtain ⟨n5, k10⟩ := field_int Tryz.underlying2 cellsOf2 (ok 10 (by omega)) (hg 10 _ rfl)
  obtain ⟨n6, k11⟩ := field_int Tryz.underlying2 cellsOf2 (ok 11 (by omega)) (hg 11 _ rfl)
  obtain ⟨n7, k12⟩ := field_int Tryz.underlying2 cellsOf2 (ok 12 (by omega)) (hg 12 _ rfl)
  obtain ⟨n8, k13⟩ := field_int Tryz.underlying3 cellsOf3 (ok 13 (by omega)) (hg 13 _ rfl)
  obtain ⟨n9, k14⟩ := field_int Tryz.underlying3 cellsOf3 (ok 14 (by omega)) (hg 14 _ rfl)
  obtain ⟨a0, a1, a2, a3, a4, a5, a6, a7, a8, a9, a10, a11, a12, a13, a14, hcs⟩ := fifteen hcl
  rw [hcs] at k0 k1 k2 k3 k4 k5 k6 k7 k8 k9 k10 k11 k12 k13 k14
  simp at k0 k1 k2 k3 k4 k5 k6 k7 k8 k9 k10 k11 k12 k13 k14
  subst k0 k1 k2 k3 k4 k5 k6 k7 k8 k9 k10 k11 k12 k13 k14
  refine ⟨⟨z0, ds, es, us, ps, n0, n1, n2, n3, n4, n5, n6, n7, n8, n9⟩, ⟨Ad, dc, Ae, ec, Au, uc, Ap, pc⟩, ?_, ⟨hD, hE, hU, hP, hdl, hel, hul, Nat.le_trans hpc hpl, hpc, hpl⟩⟩
  rw [show ar = ar.toList.toArray by simp, hcs]
  rfl
end
end Go.Proofs.YtgaimkgaooiieaaGreatDoor
