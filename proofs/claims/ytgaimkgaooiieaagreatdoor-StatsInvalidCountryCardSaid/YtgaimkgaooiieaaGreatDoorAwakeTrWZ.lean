/-
  An argument of type []api.Event: its value and its cells, for every such argument that can be read, within the reach. Printed by mkopen55.py.
  StatsInvalidCountry of samaritanlaw55 answers true for every trace within the reach, where the fixed example does. Printed by mklaw55.py.
-/
import Derived.Test.YtgaimkgaooiieaaGreatDoorAwakeTrAC
import Derived.Test.YtgaimkgaooiieaaGreatDoorAwakeOpen
import Derived.Test.YtgaimkgaooiieaaGreatDoorAwakeTrJL
import Derived.Test.YtgaimkgaooiieaaGreatDoorAwakeTrTV
import Derived.Laws.OwnMore
import Derived.Deep.Cut
import Derived.Deep.RegionHeld3
namespace Go.Proofs.YtgaimkgaooiieaaGreatDoor
open Go Go.RowKit Go.ChangeShapes Go.WideShapes

theorem cellsOf5 : Tryz.prog.cellsOf 5 = 1 := by kernel_rfl
theorem cellsOf59 : Tryz.prog.cellsOf 59 = 1 := by kernel_rfl
theorem cellsOf72 : Tryz.prog.cellsOf 72 = 5 := by kernel_rfl
theorem cellsOf98 : Tryz.prog.cellsOf 98 = 3 := by kernel_rfl
theorem cellsOf100 : Tryz.prog.cellsOf 100 = 5 := by kernel_rfl
theorem cellsOf101 : Tryz.prog.cellsOf 101 = 1 := by kernel_rfl
theorem cellsOf103 : Tryz.prog.cellsOf 103 = 8 := by kernel_rfl
theorem cellsOf105 : Tryz.prog.cellsOf 105 = 28 := by kernel_rfl
theorem cellsOf240 : Tryz.prog.cellsOf 240 = 2 := by kernel_rfl
theorem bytesOf5 : Tryz.prog.bytesOf 5 = 1 := by kernel_rfl
theorem bytesOf240 : Tryz.prog.bytesOf 240 = 32 := by kernel_rfl
theorem bytesOf105 : Tryz.prog.bytesOf 105 = 288 := by kernel_rfl
def zOf : Option Value → Int
  | some (.int _ z) => z
  | _ => 0
theorem inner {cs : List Value} {o m j : Nat} {v : Value} (h : (List.take m (List.drop o cs))[j]? = some v) : cs[o + j]? = some v := by
  rw [List.getElem?_take] at h
  split at h
  · rwa [List.getElem?_drop] at h
  · cases h
section
variable {H : Type} {enc : TypeId × Value → H} {W : World} {n : Nat}
theorem weight_field {t u : TypeId} {fs : Array Field} {xs : List (DataW H × List MemPlace)} {j : Nat} {y : DataW H × List MemPlace} {m : Nat} (hu : Tryz.prog.underlying t = some (.struct fs)) (hj : (fs.toList.map (·.type))[j]? = some u) (hy : xs[j]? = some y) (hm : m ∈ y.1.weights Tryz.prog u) : m ∈ DataW.weights Tryz.prog t (.agg (xs.map (·.1))) := by
  unfold DataW.weights
  rw [hu]
  exact DataW.weights_mem_each (j := j) (t := u) (d := y.1) hj (by rw [List.getElem?_map, hy]; rfl) m hm
/-- bytes -/
theorem open_bytes {cs : List Value} {y : DataW H × List MemPlace} (h : DataW.trod enc Tryz.prog W 0 (fun _ => true) true n 59 cs = some y)
    (hw : ∀ m ∈ y.1.weights Tryz.prog 59, m ≤ reachBytes) : ∃ A c xs, cs = [.slice A (List.length xs) c] ∧ BytsAt W W.heap.size A xs ∧ xs.length ≤ 140737488355328 := by
  rcases Deep.open_slice1 Tryz.underlying59 cellsOf5 h with ⟨e, _⟩ | ⟨a, len, cap, m, n', V, D, Pl, e, _, hl, hm, hmm, hx, hi⟩
  · exact ⟨none, 0, [], e, BytsAt.nil _ _ _, Nat.zero_le _⟩
  · have hm' : m = cap := by simpa using hmm
    have each : ∀ i, i < len → ∃ z, W.cell? (a.add i) = some (.int .u8 z) := fun i hlt => by
      obtain ⟨h1, h2⟩ := hi i (by omega)
      obtain ⟨z, e1, _, _⟩ := DataW.trod_int Tryz.underlying5 h2
      exact ⟨z, by rw [h1]; simpa using e1⟩
    have hlen : ((List.range len).map fun i => zOf (W.cell? (a.add i))).length = len := by simp
    refine ⟨some a, cap, (List.range len).map fun i => zOf (W.cell? (a.add i)), by rw [hlen]; exact e, fun h0 => ?_, ?_⟩
    · rw [hlen] at h0
      obtain ⟨z0, e0⟩ := each 0 h0
      have e0' : W.cell? a = some (.int .u8 z0) := e0
      have hplain := plain_int e0'
      obtain ⟨b, off, spot⟩ := a
      simp only at hplain
      subst hplain
      have hb : b < W.heap.size := World.block_lt_of_cell? _ _ e0'
      refine ⟨b, off, rfl, hb, fun i hlt => ?_⟩
      rw [hlen] at hlt
      obtain ⟨z, e1⟩ := each i hlt
      rw [← Addr.add_mid, e1]
      simp [List.getD, hlt, e1, zOf]
    · rw [hlen]
      have hh := hw ((len + (m - len)) * Tryz.prog.bytesOf 5) (by rw [hx]; simp [DataW.weights, Tryz.underlying59])
      rw [bytesOf5] at hh
      have := reach_le
      omega
theorem two_list {cs : List Value} (h : cs.length = 2) : ∃ a b, cs = [a, b] := by
  match cs, h with
  | [a, b], _ => exact ⟨a, b, rfl⟩
theorem five_list {cs : List Value} (h : cs.length = 5) : ∃ a b c d e, cs = [a, b, c, d, e] := by
  match cs, h with
  | [a, b, c, d, e], _ => exact ⟨a, b, c, d, e, rfl⟩
theorem eight_list {cs : List Value} (h : cs.length = 8) : ∃ a b c d e f g i, cs = [a, b, c, d, e, f, g, i] := by
  match cs, h with
  | [a, b, c, d, e, f, g, i], _ => exact ⟨a, b, c, d, e, f, g, i, rfl⟩
set_option maxRecDepth 100000 in
theorem open_source {cs : List Value} {x : DataW H × List MemPlace} (h : DataW.trod enc Tryz.prog W 0 (fun _ => true) true n 240 cs = some x) (hw : ∀ m ∈ x.1.weights Tryz.prog 240, m ≤ reachBytes) :
    ∃ (p : SrcD) (K : Option Addr) (c : Nat), cs = [.int .i64 p.kind, .slice K p.nodes.length c] ∧ IntsAt W W.heap.size K p.nodes ∧ p.nodes.length ≤ 140737488355328 := by
  obtain ⟨xs, n1, _, rfl, hcl, hxl, hg⟩ := DataW.trod_struct Tryz.underlying240 h
  rw [cellsOf240] at hcl
  have hxl : xs.length = 2 := hxl
  have ok : ∀ j, j < 2 → (xs[j]?).isSome = true := fun j hj => by rw [List.getElem?_eq_getElem (by omega)]; rfl
  obtain ⟨z0, k0⟩ := field_int Tryz.underlying3 cellsOf3 (ok 0 (by omega)) (hg 0 _ rfl)
  obtain ⟨y1, q1⟩ := Option.isSome_iff_exists.1 (ok 1 (by omega))
  have g1 := hg 1 _ rfl
  rw [q1] at g1
  obtain ⟨K, c, ks, e1, hK, hkl⟩ := open_numbers g1 (fun m hm => hw m (weight_field (j := 1) Tryz.underlying240 rfl q1 hm))
  have k1 := field_one cellsOf22 e1
  obtain ⟨a, b, rfl⟩ := two_list hcl
  simp at k0 k1
  exact ⟨⟨z0, ks⟩, K, c, by rw [k0, k1], hK, hkl⟩
set_option maxRecDepth 100000 in
theorem open_sources {cs : List Value} {y : DataW H × List MemPlace} (h : DataW.trod enc Tryz.prog W 0 (fun _ => true) true n 101 cs = some y)
    (hw : ∀ m ∈ y.1.weights Tryz.prog 101, m ≤ reachBytes) : ∃ A c xs, cs = [.slice A (List.length xs) c] ∧ SrcsAt W W.heap.size A xs ∧ xs.length ≤ 140737488355328 := by
  rcases Deep.open_slice Tryz.underlying101 h with ⟨e, _⟩ | ⟨a, len, cap, m, n', D, Pl, e, _, hl, hm, hmm, hx, hi⟩
  · exact ⟨none, 0, [], e, (fun k z hz => by simp at hz), Nat.zero_le _⟩
  · have hm' : m = cap := by simpa using hmm
    have hd : y.1 = .slice ((List.range len).map D) ((List.range (m - len)).map fun j => D (len + j)) := congrArg (·.1) hx
    have hW : DataW.weights Tryz.prog 101 y.1 = (((List.range len).map D).length + ((List.range (m - len)).map fun j => D (len + j)).length) * Tryz.prog.bytesOf 240 :: (DataW.weightsAll Tryz.prog 240 ((List.range len).map D) ++ DataW.weightsAll Tryz.prog 240 ((List.range (m - len)).map fun j => D (len + j))) := by
      rw [hd]
      simp [DataW.weights, Tryz.underlying101]
    obtain ⟨L, hL, hat⟩ := choose_list (len := len) (p := fun i (p : SrcD) => ∃ K c, W.cell? (a.add (i * 2)) = some (.int .i64 p.kind) ∧ W.cell? (a.add (i * 2 + 1)) = some (.slice K p.nodes.length c) ∧ IntsAt W W.heap.size K p.nodes ∧ p.nodes.length ≤ 140737488355328) fun i hlt => by
      obtain ⟨cs', hc, htr⟩ := hi i (by omega)
      rw [cellsOf240] at hc
      obtain ⟨_, _, hat⟩ := World.cells?_some hc
      obtain ⟨p, K, c, rfl, h3⟩ := open_source htr (fun m' hm2 => hw m' (by
        rw [hW]
        exact List.mem_cons_of_mem _ (List.mem_append_left _ (weightsAll_mem (List.mem_map.2 ⟨i, by simpa using hlt, rfl⟩) hm2))))
      have h0 := hat 0 (by omega)
      have h1 := hat 1 (by omega)
      rw [add_add'] at h0 h1
      exact ⟨p, K, c, h0, h1, h3⟩
    refine ⟨some a, cap, L, by rw [hL]; exact e, fun k z hz => ?_, ?_⟩
    · have hk : k < len := by have := (List.getElem?_eq_some_iff.1 hz).1; omega
      obtain ⟨z0, hz0⟩ : ∃ z0, L[0]? = some z0 := ⟨L[0]'(by omega), List.getElem?_eq_getElem _⟩
      obtain ⟨_, _, e0, _⟩ := hat 0 z0 hz0
      have e0' : W.cell? a = some (.int .i64 z0.kind) := e0
      have hplain := plain_int e0'
      have hb := World.block_lt_of_cell? _ _ e0'
      obtain ⟨b, off, spot⟩ := a
      simp only at hplain hb
      subst hplain
      obtain ⟨K, c, h0, h1, h3⟩ := hat k z hz
      refine ⟨b, off, K, c, rfl, hb, ?_, ?_, h3⟩
      · rw [← Addr.add_mid]; exact h0
      · rw [Nat.add_assoc, ← Addr.add_mid]; exact h1
    · rw [hL]
      have hh := hw _ (by rw [hW]; exact List.mem_cons_self)
      rw [bytesOf240] at hh
      simp at hh
      have := reach_le
      omega
theorem open_five100 {cs : List Value} {x : DataW H × List MemPlace} (h : DataW.trod enc Tryz.prog W 0 (fun _ => true) true n 100 cs = some x) : ∃ a b c d e : Int, cs = [.int .i64 a, .int .i64 b, .int .i64 c, .int .i64 d, .int .i64 e] := by
  obtain ⟨xs, n1, _, _, hcl, hxl, hg⟩ := DataW.trod_struct Tryz.underlying100 h
  rw [cellsOf100] at hcl
  have hxl : xs.length = 5 := hxl
  have ok : ∀ j, j < 5 → (xs[j]?).isSome = true := fun j hj => by rw [List.getElem?_eq_getElem (by omega)]; rfl
  obtain ⟨z0, k0⟩ := field_int Tryz.underlying3 cellsOf3 (ok 0 (by omega)) (hg 0 _ rfl)
  obtain ⟨z1, k1⟩ := field_int Tryz.underlying2 cellsOf2 (ok 1 (by omega)) (hg 1 _ rfl)
  obtain ⟨z2, k2⟩ := field_int Tryz.underlying3 cellsOf3 (ok 2 (by omega)) (hg 2 _ rfl)
  obtain ⟨z3, k3⟩ := field_int Tryz.underlying2 cellsOf2 (ok 3 (by omega)) (hg 3 _ rfl)
  obtain ⟨z4, k4⟩ := field_int Tryz.underlying3 cellsOf3 (ok 4 (by omega)) (hg 4 _ rfl)
  obtain ⟨a, b, c, d, e, rfl⟩ := five_list hcl
  simp at k0 k1 k2 k3 k4
  exact ⟨z0, z1, z2, z3, z4, by rw [k0, k1, k2, k3, k4]⟩
theorem open_five72 {cs : List Value} {x : DataW H × List MemPlace} (h : DataW.trod enc Tryz.prog W 0 (fun _ => true) true n 72 cs = some x) : ∃ a b c d e : Int, cs = [.int .i64 a, .int .i64 b, .int .i64 c, .int .i64 d, .int .i64 e] := by
  obtain ⟨xs, n1, _, _, hcl, hxl, hg⟩ := DataW.trod_struct Tryz.underlying72 h
  rw [cellsOf72] at hcl
  have hxl : xs.length = 5 := hxl
  have ok : ∀ j, j < 5 → (xs[j]?).isSome = true := fun j hj => by rw [List.getElem?_eq_getElem (by omega)]; rfl
  obtain ⟨z0, k0⟩ := field_int Tryz.underlying3 cellsOf3 (ok 0 (by omega)) (hg 0 _ rfl)
  obtain ⟨z1, k1⟩ := field_int Tryz.underlying2 cellsOf2 (ok 1 (by omega)) (hg 1 _ rfl)
  obtain ⟨z2, k2⟩ := field_int Tryz.underlying3 cellsOf3 (ok 2 (by omega)) (hg 2 _ rfl)
  obtain ⟨z3, k3⟩ := field_int Tryz.underlying3 cellsOf3 (ok 3 (by omega)) (hg 3 _ rfl)
  obtain ⟨z4, k4⟩ := field_int Tryz.underlying2 cellsOf2 (ok 4 (by omega)) (hg 4 _ rfl)
  obtain ⟨a, b, c, d, e, rfl⟩ := five_list hcl
  simp at k0 k1 k2 k3 k4
  exact ⟨z0, z1, z2, z3, z4, by rw [k0, k1, k2, k3, k4]⟩
set_option maxRecDepth 100000 in
theorem open_entry {cs : List Value} {x : DataW H × List MemPlace} (h : DataW.trod enc Tryz.prog W 0 (fun _ => true) true n 98 cs = some x) (hw : ∀ m ∈ x.1.weights Tryz.prog 98, m ≤ reachBytes) :
    ∃ (t k : Int) (A : Option Addr) (c : Nat) (b : List Int), cs = [.int .i64 t, .int .i64 k, .slice A b.length c] ∧ BytsAt W W.heap.size A b ∧ b.length ≤ 140737488355328 := by
  obtain ⟨xs, n1, _, rfl, hcl, hxl, hg⟩ := DataW.trod_struct Tryz.underlying98 h
  rw [cellsOf98] at hcl
  have hxl : xs.length = 3 := hxl
  have ok : ∀ j, j < 3 → (xs[j]?).isSome = true := fun j hj => by rw [List.getElem?_eq_getElem (by omega)]; rfl
  obtain ⟨z0, k0⟩ := field_int Tryz.underlying2 cellsOf2 (ok 0 (by omega)) (hg 0 _ rfl)
  obtain ⟨z1, k1⟩ := field_int Tryz.underlying3 cellsOf3 (ok 1 (by omega)) (hg 1 _ rfl)
  obtain ⟨y2, q2⟩ := Option.isSome_iff_exists.1 (ok 2 (by omega))
  have g2 := hg 2 _ rfl
  rw [q2] at g2
  obtain ⟨A, c, b, e2, hB, hbl⟩ := open_bytes g2 (fun m hm => hw m (weight_field (j := 2) Tryz.underlying98 rfl q2 hm))
  have k2 := field_one cellsOf59 e2
  obtain ⟨a0, a1, a2, rfl⟩ := three hcl
  simp at k0 k1 k2
  exact ⟨z0, z1, A, c, b, by rw [k0, k1, k2], hB, hbl⟩
set_option maxRecDepth 100000 in
theorem open_action {cs : List Value} {x : DataW H × List MemPlace} (h : DataW.trod enc Tryz.prog W 0 (fun _ => true) true n 103 cs = some x) (hw : ∀ m ∈ x.1.weights Tryz.prog 103, m ≤ reachBytes) :
    ∃ (a : ActD) (P : ActP), cs = (actCells a P).toList ∧ ActAt W W.heap.size a P := by
  obtain ⟨xs, n1, _, rfl, hcl, hxl, hg⟩ := DataW.trod_struct Tryz.underlying103 h
  rw [cellsOf103] at hcl
  have hxl : xs.length = 8 := hxl
  have ok : ∀ j, j < 8 → (xs[j]?).isSome = true := fun j hj => by rw [List.getElem?_eq_getElem (by omega)]; rfl
  obtain ⟨z0, k0⟩ := field_int Tryz.underlying3 cellsOf3 (ok 0 (by omega)) (hg 0 _ rfl)
  obtain ⟨z1, k1⟩ := field_int Tryz.underlying3 cellsOf3 (ok 1 (by omega)) (hg 1 _ rfl)
  obtain ⟨z2, k2⟩ := field_int Tryz.underlying2 cellsOf2 (ok 2 (by omega)) (hg 2 _ rfl)
  obtain ⟨z3, k3⟩ := field_int Tryz.underlying2 cellsOf2 (ok 3 (by omega)) (hg 3 _ rfl)
  obtain ⟨z4, k4⟩ := field_int Tryz.underlying2 cellsOf2 (ok 4 (by omega)) (hg 4 _ rfl)
  obtain ⟨z5, k5⟩ := field_int Tryz.underlying3 cellsOf3 (ok 5 (by omega)) (hg 5 _ rfl)
  obtain ⟨y6, q6⟩ := Option.isSome_iff_exists.1 (ok 6 (by omega))
  have g6 := hg 6 _ rfl
  rw [q6] at g6
  obtain ⟨S, sc, ss, e6, hS, hsl⟩ := open_sources g6 (fun m hm => hw m (weight_field (j := 6) Tryz.underlying103 rfl q6 hm))
  obtain ⟨y7, q7⟩ := Option.isSome_iff_exists.1 (ok 7 (by omega))
  have g7 := hg 7 _ rfl
  rw [q7] at g7
  obtain ⟨G, gc, gs, e7, hG, hgl⟩ := open_numbers g7 (fun m hm => hw m (weight_field (j := 7) Tryz.underlying103 rfl q7 hm))
  have k6 := field_one cellsOf101 e6
  have k7 := field_one cellsOf22 e7
  obtain ⟨a0, a1, a2, a3, a4, a5, a6, a7, rfl⟩ := eight_list hcl
  simp at k0 k1 k2 k3 k4 k5 k6 k7
  exact ⟨⟨z0, z1, z2, z3, z4, z5, ss, gs⟩, ⟨S, sc, G, gc⟩, by rw [k0, k1, k2, k3, k4, k5, k6, k7]; rfl, hS, hG, hsl, hgl⟩
set_option maxRecDepth 100000 in
theorem open_event {cs : List Value} {y : DataW H × List MemPlace} (ht : DataW.trod enc Tryz.prog W 0 (fun _ => true) true n 105 cs = some y) (hw : ∀ m ∈ y.1.weights Tryz.prog 105, m ≤ reachBytes) :
    ∃ (x : EvD) (P : EvP), cs = evCells x P ∧ EvAt W W.heap.size x P := by
  obtain ⟨xs, n1, _, rfl, hcl, hxl, hg⟩ := DataW.trod_struct Tryz.underlying105 ht
  rw [cellsOf105] at hcl
  have hxl : xs.length = 11 := hxl
  have ok : ∀ j, j < 11 → (xs[j]?).isSome = true := fun j hj => by rw [List.getElem?_eq_getElem (by omega)]; rfl
  obtain ⟨z0, k0⟩ := field_int Tryz.underlying3 cellsOf3 (ok 0 (by omega)) (hg 0 _ rfl)
  obtain ⟨z1, k1⟩ := field_int Tryz.underlying2 cellsOf2 (ok 1 (by omega)) (hg 1 _ rfl)
  obtain ⟨z2, k2⟩ := field_int Tryz.underlying3 cellsOf3 (ok 2 (by omega)) (hg 2 _ rfl)
  obtain ⟨z3, k3⟩ := field_int Tryz.underlying2 cellsOf2 (ok 3 (by omega)) (hg 3 _ rfl)
  obtain ⟨z4, k4⟩ := field_int Tryz.underlying2 cellsOf2 (ok 4 (by omega)) (hg 4 _ rfl)
  obtain ⟨z5, k5⟩ := field_int Tryz.underlying2 cellsOf2 (ok 5 (by omega)) (hg 5 _ rfl)
  obtain ⟨y6, q6⟩ := Option.isSome_iff_exists.1 (ok 6 (by omega))
  have g6 := hg 6 _ rfl
  rw [q6] at g6
  obtain ⟨y7, q7⟩ := Option.isSome_iff_exists.1 (ok 7 (by omega))
  have g7 := hg 7 _ rfl
  rw [q7] at g7
  obtain ⟨y8, q8⟩ := Option.isSome_iff_exists.1 (ok 8 (by omega))
  have g8 := hg 8 _ rfl
  rw [q8] at g8
  obtain ⟨y9, q9⟩ := Option.isSome_iff_exists.1 (ok 9 (by omega))
  have g9 := hg 9 _ rfl
  rw [q9] at g9
  obtain ⟨y10, q10⟩ := Option.isSome_iff_exists.1 (ok 10 (by omega))
  have g10 := hg 10 _ rfl
  rw [q10] at g10
  obtain ⟨et, ek, B, bc, body, e6, hB, hbl⟩ := open_entry g6 (fun m hm => hw m (weight_field (j := 6) Tryz.underlying105 rfl q6 hm))
  obtain ⟨o0, o1, o2, o3, o4, e7⟩ := open_five100 g7
  obtain ⟨t0, t1, t2, t3, t4, e8⟩ := open_five72 g8
  obtain ⟨a, AP, e9, hA⟩ := open_action g9 (fun m hm => hw m (weight_field (j := 9) Tryz.underlying105 rfl q9 hm))
  obtain ⟨Y, yc, ys, e10, hY, hyl⟩ := open_bytes g10 (fun m hm => hw m (weight_field (j := 10) Tryz.underlying105 rfl q10 hm))
  have k6 := inner (j := 0) ((congrArg (·[0]?) e6).trans rfl)
  have k7 := inner (j := 1) ((congrArg (·[1]?) e6).trans rfl)
  have k8 := inner (j := 2) ((congrArg (·[2]?) e6).trans rfl)
  have k9 := inner (j := 0) ((congrArg (·[0]?) e7).trans rfl)
  have k10 := inner (j := 1) ((congrArg (·[1]?) e7).trans rfl)
  have k11 := inner (j := 2) ((congrArg (·[2]?) e7).trans rfl)
  have k12 := inner (j := 3) ((congrArg (·[3]?) e7).trans rfl)
  have k13 := inner (j := 4) ((congrArg (·[4]?) e7).trans rfl)
  have k14 := inner (j := 0) ((congrArg (·[0]?) e8).trans rfl)
  have k15 := inner (j := 1) ((congrArg (·[1]?) e8).trans rfl)
  have k16 := inner (j := 2) ((congrArg (·[2]?) e8).trans rfl)
  have k17 := inner (j := 3) ((congrArg (·[3]?) e8).trans rfl)
  have k18 := inner (j := 4) ((congrArg (·[4]?) e8).trans rfl)
  have k19 := inner (j := 0) ((congrArg (·[0]?) e9).trans rfl)
  have k20 := inner (j := 1) ((congrArg (·[1]?) e9).trans rfl)
  have k21 := inner (j := 2) ((congrArg (·[2]?) e9).trans rfl)
  have k22 := inner (j := 3) ((congrArg (·[3]?) e9).trans rfl)
  have k23 := inner (j := 4) ((congrArg (·[4]?) e9).trans rfl)
  have k24 := inner (j := 5) ((congrArg (·[5]?) e9).trans rfl)
  have k25 := inner (j := 6) ((congrArg (·[6]?) e9).trans rfl)
  have k26 := inner (j := 7) ((congrArg (·[7]?) e9).trans rfl)
  have k27 := inner (j := 0) ((congrArg (·[0]?) e10).trans rfl)
  refine ⟨⟨z0, z1, z2, z3, z4, z5, et, ek, body, o0, o1, o2, o3, o4, t0, t1, t2, t3, t4, a, ys⟩, ⟨B, bc, AP, Y, yc⟩, ?_, ⟨hB, hbl, hA, hY, hyl⟩⟩
  apply List.ext_getElem?
  intro i
  match i with
  | 0 => exact k0
  | 1 => exact k1
  | 2 => exact k2
  | 3 => exact k3
  | 4 => exact k4
  | 5 => exact k5
  | 6 => exact k6
  | 7 => exact k7
  | 8 => exact k8
  | 9 => exact k9
  | 10 => exact k10
  | 11 => exact k11
  | 12 => exact k12
  | 13 => exact k13
  | 14 => exact k14
  | 15 => exact k15
  | 16 => exact k16
  | 17 => exact k17
  | 18 => exact k18
  | 19 => exact k19
  | 20 => exact k20
  | 21 => exact k21
  | 22 => exact k22
  | 23 => exact k23
  | 24 => exact k24
  | 25 => exact k25
  | 26 => exact k26
  | 27 => exact k27
  | i + 28 =>
    rw [List.getElem?_eq_none (by omega), List.getElem?_eq_none (by simp [evCells])]
set_option maxRecDepth 100000 in
theorem open_trace {r : Reach} {b0 : Nat} {v : Value} {d : DataW H} {p : List MemPlace}
    (hv : Value.okWide Tryz.prog W r b0 40 v) (h : DataW.Trod enc Tryz.prog W 0 (fun _ => true) true 40 v d p) (hw : ∀ m ∈ d.weights Tryz.prog 40, m ≤ reachBytes) :
    ∃ (A : Option Addr) (c : Nat) (L : List EvD), v = .slice A L.length c ∧ TrAt W W.heap.size A L ∧ L.length ≤ 140737488355328 := by
  obtain ⟨a0, len, cap, rfl⟩ := okWide_slice Tryz.underlying40 hv
  obtain ⟨fuel, hf⟩ := h
  rcases Deep.open_slice Tryz.underlying40 hf with ⟨hcs, _⟩ | ⟨a, len', cap', m, n, D, Pl, hcs, _, hl, hm, hmm, hx, hi⟩
  · have e : Value.slice a0 len cap = .slice none 0 0 := by simpa [Value.cells] using hcs
    rw [e]
    exact ⟨none, 0, [], rfl, fun k x hx => by simp at hx, Nat.zero_le _⟩
  · have e : Value.slice a0 len cap = .slice (some a) len' cap' := by simpa [Value.cells] using hcs
    rw [e]
    have hm' : m = cap' := by simpa using hmm
    have hd : d = .slice ((List.range len').map D) ((List.range (m - len')).map fun j => D (len' + j)) := congrArg (·.1) hx
    have hW : DataW.weights Tryz.prog 40 d = (((List.range len').map D).length + ((List.range (m - len')).map fun j => D (len' + j)).length) * Tryz.prog.bytesOf 105 :: (DataW.weightsAll Tryz.prog 105 ((List.range len').map D) ++ DataW.weightsAll Tryz.prog 105 ((List.range (m - len')).map fun j => D (len' + j))) := by
      rw [hd]
      simp [DataW.weights, Tryz.underlying40]
    have hlen : len' ≤ 140737488355328 := by
      have := hw _ (by rw [hW]; exact List.mem_cons_self)
      rw [bytesOf105] at this
      simp at this
      have := reach_le
      omega
    obtain ⟨L, hL, hat⟩ := choose_list (len := len') (p := fun i (x : EvD) => ∃ P, (∀ j, j < 28 → W.cell? ((a.add (i * 28)).add j) = (evCells x P)[j]?) ∧ EvAt W W.heap.size x P) fun i hlt => by
      obtain ⟨cs', hc, ht⟩ := hi i (by omega)
      rw [cellsOf105] at hc
      obtain ⟨_, _, hat⟩ := World.cells?_some hc
      obtain ⟨x, P, rfl, hE⟩ := open_event ht (fun m' hm' => hw m' (by
        rw [hW]
        exact List.mem_cons_of_mem _ (List.mem_append_left _ (weightsAll_mem (List.mem_map.2 ⟨i, by simpa using hlt, rfl⟩) hm'))))
      exact ⟨x, P, hat, hE⟩
    refine ⟨some a, cap', L, by rw [hL], fun k x hx => ?_, by rw [hL]; exact hlen⟩
    have hk : k < len' := by have := (List.getElem?_eq_some_iff.1 hx).1; omega
    obtain ⟨x0, hx0⟩ : ∃ z0, L[0]? = some z0 := ⟨L[0]'(by omega), List.getElem?_eq_getElem _⟩
    obtain ⟨P0, hat0, _⟩ := hat 0 x0 hx0
    have c0 := hat0 0 (by omega)
    rw [add_add'] at c0
    have e0' : W.cell? a = some (.int .i64 x0.kind) := c0
    have hplain := plain_int e0'
    have hb := World.block_lt_of_cell? _ _ e0'
    obtain ⟨P, hat1, hE⟩ := hat k x hx
    obtain ⟨b, off, spot⟩ := a
    simp only at hplain hb
    subst hplain
    refine ⟨b, off, P, rfl, hb, fun j v hv => ?_, hE⟩
    have hj : j < 28 := by have := (List.getElem?_eq_some_iff.1 hv).1; simpa [evCells] using this
    have := hat1 j hj
    rw [add_add', Addr.add_mid] at this
    rw [show off + k * 28 + j = off + (k * 28 + j) by omega, this]
    exact hv
end
end Go.Proofs.YtgaimkgaooiieaaGreatDoor

namespace Go.Proofs.YtgaimkgaooiieaaGreatDoor
open Go Go.RowKit

def TrueL (w : World) (e : Ending) (w' : World) : Prop := e = .returned (.bool true) ∧ Below w.heap.size w w'
/-- the configuration that Conf hands back, with no heartbeat interval -/
theorem conf_ref (w : World) (hw : 2 ≤ w.heap.size) : Calls Tryz.prog 13 #[] w fun e w' => ∃ ca : Array Value, e = .returned (.agg ca) ∧ ca.size = 15 ∧ ca.all (·.oneCell') = true ∧ Below w.heap.size w w' ∧ Ref w' (ca.setIfInBounds 5 (.int .i64 0)) := by
  refine (conf_any w hw).mono ?_
  rintro e w' ⟨cs, rfl, h1, h2, hb, key⟩
  have ho : (⟨cs⟩ : Array Value).all (·.oneCell') = true := all_oneCell_toArray h2
  have hs : (⟨cs⟩ : Array Value).setIfInBounds 5 (.int .i64 0) = ⟨cs.set 5 (.int .i64 0)⟩ := by simp
  refine ⟨⟨cs⟩, rfl, h1, ho, hb, ⟨fun W hW => by rw [hs]; exact key W hW, by simpa using h1, ?_⟩⟩
  rw [hs]
  refine all_oneCell_toArray (fun v hv => ?_)
  rcases List.mem_or_eq_of_mem_set hv with h | h
  · exact h2 v h
  · rw [h]; rfl
theorem store_five (W3 : World) (ca cb : Array Value) (hc : ca.size = 15) (hcb : cb = ca.setIfInBounds 5 (.int .i64 0)) : (Instr.storeAt 2 (.pointer (some ⟨W3.heap.size, 5, none⟩)) (.int .i64 0)).run Tryz.prog (W3.alloc (.cells ca 27)) = .ok () (W3.alloc (.cells cb 27)) := by
  subst hcb
  obtain ⟨v5, h5⟩ : ∃ v, ca[5]? = some v := ⟨_, Array.getElem?_eq_getElem (by omega)⟩
  have hh := heap_alloc_last W3 (.cells ca 27)
  have s1 : (W3.alloc (.cells ca 27)).cell? ⟨W3.heap.size, 5, none⟩ = some v5 := by
    unfold World.cell?
    simp only [hh]
    exact h5
  have fr : (W3.alloc (.cells ca 27)).frozen? ⟨W3.heap.size, 5, none⟩ = false := frozen_of hh 5
  go_simp
/-- a store at the operation -/
theorem wpList_store_run {P : Program} {W W' : World} {ops : Array Oper} {rest : List Oper} {o : Oper} {a : Act} {Q : Exit → Act → World → Prop} (hg : o.guard = none) (t : TypeId) (x y : Operand) (ho : o.op = .store t x y) {xv yv : Value} (hx : a.eval x = xv) (hy : a.eval y = yv) (hr : (Instr.storeAt t xv yv).run P W = .ok () W')
    (h : wpList P ops Q rest (a.put o.dst undef) W') : wpList P ops Q (o :: rest) a W := by
  refine wpList_plain hg fun K hK => ?_
  unfold Oper.wp
  simp [execOp, ho, hx, hy, hr, Result.andThen]
  exact hK _ _ h
theorem info4 : (Tryz.prog.info? 4).map (fun i => (i.zero, i.size, i.bytes)) = some (some (.bool false), 1, 1) := by kernel_rfl
theorem info2 : (Tryz.prog.info? 2).map (fun i => (i.zero, i.size, i.bytes)) = some (some (.int .i64 0), 1, 8) := by kernel_rfl
theorem make48 (n : Nat) (hn : n ≤ 60) : ∀ W : World, (Instr.makeSlice 48 (.int .i64 (n : Int)) (.int .i64 (n : Int))).run Tryz.prog W = .ok (.slice (some ⟨W.heap.size, 0, none⟩) n n) (W.alloc (.cells (madeCells #[.bool false] n) 4)) := fun W => by
  obtain ⟨i, hi, hz, hs, hb⟩ := info_parts info4
  have h := run_make (P := Tryz.prog) W 48 4 i (.bool false) Tryz.underlying48 hi hz .i64 .i64 n n (by omega) (Int.le_refl _) (by rw [hb]; omega) (by omega)
  rw [hs] at h
  simpa [Value.cells] using h
theorem make37 (n : Nat) (hn : n ≤ 60) : ∀ W : World, (Instr.makeSlice 37 (.int .i64 (n : Int)) (.int .i64 (n : Int))).run Tryz.prog W = .ok (.slice (some ⟨W.heap.size, 0, none⟩) n n) (W.alloc (.cells (madeCells #[.int .i64 0] n) 2)) := fun W => by
  obtain ⟨i, hi, hz, hs, hb⟩ := info_parts info2
  have h := run_make (P := Tryz.prog) W 37 2 i (.int .i64 0) Tryz.underlying37 hi hz .i64 .i64 n n (by omega) (Int.le_refl _) (by rw [hb]; omega) (by omega)
  rw [hs] at h
  simpa [Value.cells] using h
theorem made_at {z : Value} {n i : Nat} (h : i < n) : (madeCells #[z] n)[i]? = some z := by
  rw [← Array.getElem?_toList, toList_madeCells_one]
  simp [h]
set_option maxRecDepth 100000 in
theorem eq52 (a0 a1 a2 a3 a4 a5 a6 a7 a8 a9 : Int) (w : World) : (Op.equalIn 10000 52 (.agg #[.int .i64 a0, .int .i64 a1, .int .i64 a2, .int .i64 a3, .int .i64 a4, .int .i64 a5, .int .i64 a6, .int .i64 a7, .int .i64 a8, .int .i64 a9]) (.agg #[.int .i64 a0, .int .i64 a1, .int .i64 a2, .int .i64 a3, .int .i64 a4, .int .i64 a5, .int .i64 a6, .int .i64 a7, .int .i64 a8, .int .i64 a9])).run Tryz.prog w = .ok true w := by
  have u3 := Tryz.underlying3
  have u2 := Tryz.underlying2
  have a3' := Tryz.isAgg3
  have a2' := Tryz.isAgg2
  have hS : Tryz.prog.underlying 52 = some (.struct (Tryz.prog.fieldsOf 52)) := by kernel_rfl
  have hp : Tryz.prog.stoodInHeld 52 = false := by kernel_rfl
  rw [show (10000 : Nat) = 9999 + 1 from rfl, run_equalIn_agg w 9999 52 _ _ hS hp]
  simp only [Program.fieldsOf, Tryz.underlying52]
  go_simp
theorem yields_eqs {P : Program} {ops : Array Oper} {S : World → Prop} {o : Oper} {a : Act} (hg : Region.wanted o (yielded ops a.tmps) = true) (t u : TypeId) (x y : Operand) (ho : o.op = .binOp .eql t x y u)
    {xs ys : Array Value} (hx : a.eval x = .agg xs) (hy : a.eval y = .agg ys) (hm : P.eqGuardType P.depth t = false) {v : Bool} (hr : ∀ W, (Op.equalIn 10000 t (.agg xs) (.agg ys)).run P W = .ok v W) : YieldsIf P ops S o (.bool v) a :=
  .inl ⟨hg, fun W _ => by
    have h1 := run_eqGuard_agg (P := P) (w := W) .eql t x y xs ys hm
    have h2 := run_eql_struct (P := P) (w := W) t xs ys
    rw [hr W] at h2
    simp [execOp, ho, hx, hy, h1, h2, Result.andThen]⟩
theorem new_three (W : World) (a b c : Obj) : (((W.alloc a).alloc b).alloc c).drew.heap[W.heap.size]? = some a ∧ (((W.alloc a).alloc b).alloc c).drew.heap[W.heap.size + 1]? = some b ∧ (((W.alloc a).alloc b).alloc c).drew.heap[W.heap.size + 1 + 1]? = some c ∧ Below W.heap.size W (((W.alloc a).alloc b).alloc c).drew := by
  refine ⟨?_, ?_, ?_, ((((Below.refl _ W).alloc (Nat.le_refl _) _).alloc (by simp) _).alloc (by simp; omega) _).drew⟩
  · show (((W.heap.push a).push b).push c)[W.heap.size]? = _
    rw [Array.getElem?_push, if_neg (by simp; omega), Array.getElem?_push, if_neg (by simp), Array.getElem?_push, if_pos rfl]
  · show (((W.heap.push a).push b).push c)[W.heap.size + 1]? = _
    rw [Array.getElem?_push, if_neg (by simp), Array.getElem?_push, if_pos (by simp)]
  · show (((W.heap.push a).push b).push c)[W.heap.size + 1 + 1]? = _
    rw [Array.getElem?_push, if_pos (by simp)]
theorem way9 {W8 V : World} {g s n : Nat} {T : Option Addr} (hg : V.heap[g]? = some (.cells #[.slice (some ⟨s, 0, none⟩) n n, .slice T n n, .int .i64 0, .int .i64 0] 50)) (hs : V.heap[s]? = some (.cells (madeCells #[.bool false] n) 4)) (hb : Below W8.heap.size W8 V) :
    ∃ g' S T' cs ct, Value.pointer (some ⟨g, 0, none⟩) = .pointer (some ⟨g', 0, none⟩) ∧ V.rangeAt g' 0 [.slice S n cs, .slice T' n ct, .int .i64 0, .int .i64 0] ∧ g' < V.heap.size ∧ NoneAt V V.heap.size S n ∧ Below W8.heap.size W8 V :=
  ⟨g, some ⟨s, 0, none⟩, T, n, n, rfl, rangeAt_new hg, (Array.getElem?_eq_some_iff.1 hg).1, fun i hi => ⟨s, 0, rfl, (Array.getElem?_eq_some_iff.1 hs).1, by
    unfold World.cell?
    simp only [hs]
    rw [Nat.zero_add]
    exact made_at hi⟩, hb⟩
theorem yields_load_arr {P : Program} {ops : Array Oper} {S : World → Prop} {op : Oper} {a : Act} (hw : Region.wanted op (yielded ops a.tmps) = true) (ty : TypeId) (x : Operand) (ho : op.op = .load ty x)
    (b o : Nat) (hx : a.eval x = .pointer (some ⟨b, o, none⟩)) (cs : Array Value) (d : TypeDesc) (hS : ∀ w, S w → w.rangeAt b o cs.toList)
    (hu : P.underlying ty = some d) (hd : d.isRow = true) (hi : (P.info? ty).map (·.size) = some cs.toList.length) : YieldsIf P ops S op (.agg cs) a := by
  have h := yieldsIf_load_mid (P := P) (ops := ops) (S := S) hw ty x ho b o hx cs.toList d hS hu hd hi
  rwa [toList_toArray'] at h
theorem size50 : (Tryz.prog.info? 50).map (·.size) = some 4 := by kernel_rfl
theorem none_at_new {W W' : World} {n g : Nat} (hh : W'.heap[g]? = some (.cells (madeCells #[.bool false] n) 4)) (hg : g < W.heap.size) (e : W'.heap = W.heap) : NoneAt W W.heap.size (some ⟨g, 0, none⟩) n := fun i hi => ⟨g, 0, rfl, hg, by
  unfold World.cell?
  rw [← e]
  simp only [hh]
  rw [Nat.zero_add]
  exact made_at hi⟩


set_option maxHeartbeats 16000000 in
set_option maxRecDepth 100000 in
theorem law55_any (A : Option Addr) (c : Nat) (L : List EvD) (w : World) (hL : TrAt w w.heap.size A L) (hlen : L.length ≤ 140737488355328) (hw : 2 ≤ w.heap.size) (hwk : Calls Tryz.prog 11 #[] w (TrueL w)) :
    Calls Tryz.prog 4 #[.slice A L.length c] w (TrueL w) := by
  obtain ⟨arr, harr⟩ : ∃ arr, arr = ofArr L L.length (callK L L.length).length (applK L L.length).length := ⟨_, rfl⟩
  have HL := Lib.hid hL
  have HW := Lib.hid hw
  have HARR := Lib.hid harr
  have H10 := Lib.hid (show (Tryz.prog.info? 44).map (·.size) = some arr.size by rw [harr]; exact size44)
  have H10L := Lib.hid (show (Tryz.prog.info? 44).map (·.size) = some arr.toList.length by rw [harr]; exact size44)
  have HT10 := Lib.hid (show (10 : Nat) = arr.size by rw [harr]; rfl)
  have HO10 := Lib.hid (show arr.all (·.oneCell') = true by rw [harr]; simp [ofArr, Value.oneCell'])
  have HWK := Lib.hid hwk
  have HTW := Lib.hid (fun W (hW : Below w.heap.size w W) => (hL.below hW).mono hW.size)
  have HSM := Lib.hid (fun W (hW : Below w.heap.size w W) => small_any A c L W ((hL.below hW).mono hW.size) hlen (Nat.le_trans hw hW.size))
  have HCF := Lib.hid (fun W (hW : Below w.heap.size w W) => conf_ref W (Nat.le_trans hw hW.size))
  have HSU := Lib.hid (fun (h60 : L.length ≤ 60) (cc : Array Value) W (hW : Below w.heap.size w W) (hr : Ref W cc) => (show Calls Tryz.prog 14 #[.agg cc, .slice A L.length c] W (fun e w' => e = .returned (.agg arr) ∧ Below W.heap.size W w') by rw [harr]; exact summarize_any A c L cc W ((hL.below hW).mono hW.size) h60 hr))
  have HBD := Lib.hid (fun (cc : Array Value) W (hr : Ref W cc) => byDistrict_any A c L.length cc W hr)
  clear hL hw hwk harr
  go_enter Tryz.func4, Tryz.ntmps4
  go_wp2_with (first
    | (go_at_call 11; go_loud (refine HWK.out.mono ?_; rintro e W1 ⟨rfl, hb1⟩; have HB1 := Lib.hid hb1; clear hb1))
    | (go_at_call 12; go_loud (refine (HSM.out W1 HB1.out).mono ?_; rintro e W2 ⟨v, ⟨rfl, hb2⟩, h60⟩; have HB2 := Lib.hid (HB1.out.trans (hb2.mono HB1.out.size)); have H60 := Lib.hid h60; clear hb2 h60; cases v))
    | (go_at_call 13; go_loud (refine (HCF.out W2 HB2.out).mono ?_; rintro e W3 ⟨ca, rfl, h15, h1, hb3, href⟩; obtain ⟨cb, hcb⟩ : ∃ cb, cb = ca.setIfInBounds 5 (.int .i64 0) := ⟨_, rfl⟩; rw [← hcb] at href; have HST := Lib.hid (store_five W3 ca cb h15 hcb); have HB3 := Lib.hid (HB2.out.trans (hb3.mono HB2.out.size)); have H15 := Lib.hid h15; have HONE := Lib.hid h1; have HREF := Lib.hid href; have HI27 := Lib.hid (show (Tryz.prog.info? 27).map (·.size) = some ca.size by rw [h15]; exact info27); have HZ15 := Lib.hid (show (15 : Nat) = ca.size from h15.symm); have hb5 : Below W3.heap.size W3 (W3.alloc (.cells cb 27)) := (Below.refl _ W3).alloc (Nat.le_refl _) _; have HB5 := Lib.hid (HB3.out.trans (hb5.mono HB3.out.size)); have HR5 := Lib.hid (href.at hb5); have HRG5 := Lib.hid (box_range W3 cb 27 _ (Below.refl _ _)); have HS15 := Lib.hid (sizeC href); clear hb3 href h1 h15 hcb))
    | (refine wpList_store_at2 rfl 27 (.tmp 3) (.tmp 13) rfl W3 _ ca rfl rfl rfl HI27.out HZ15.out HONE.out ?_)
    | (refine wpList_store_run rfl 2 (.tmp 14) (.const (.int .i64 0)) rfl rfl rfl HST.out ?_)
    | (with_reducible refine wpList_load_mid rfl 27 (.tmp 3) rfl W3.heap.size 0 rfl cb.toList _ HRG5.out Tryz.underlying27 rfl HS15.out ?_; rw [toList_toArray'])
    | (go_at_call 14; go_loud (refine (HSU.out (H60.out (by first | rfl | trivial)) _ _ HB5.out HR5.out).mono ?_; rintro e W6 ⟨rfl, hb6⟩; have hz5 : (W3.alloc (.cells cb 27)).heap.size = W3.heap.size + 1 := (by simp); have hb7 : Below W6.heap.size W6 (W6.alloc (.cells arr 44)) := (Below.refl _ W6).alloc (Nat.le_refl _) _; have h56 : Below (W3.heap.size + 1) (W3.alloc (.cells cb 27)) (W6.alloc (.cells arr 44)) := (by have h := hb6.trans (hb7.mono hb6.size); rw [hz5] at h; exact h); have HB7 := Lib.hid (HB5.out.trans (h56.mono (by have := HB3.out.size; omega))); have HR7 := Lib.hid (HR5.out.at (by rw [hz5]; exact h56)); have HRG7 := Lib.hid (box_range W3 cb 27 _ h56); have HR44 := Lib.hid (box_range W6 arr 44 _ (Below.refl _ _)); have HZ7 := Lib.hid (show (W6.alloc (.cells arr 44)).heap.size = W6.heap.size + 1 by simp); have HS36 := Lib.hid (show W3.heap.size + 1 ≤ W6.heap.size from (by have := hb6.size; rw [hz5] at this; exact this)); clear hb6 hb7 h56 hz5))
    | (refine wpList_store_at2 rfl 44 (.tmp 4) (.tmp 17) rfl W6 _ arr rfl rfl rfl H10.out HT10.out HO10.out ?_)
    | (with_reducible refine wpList_load_mid rfl 27 (.tmp 3) rfl W3.heap.size 0 rfl cb.toList _ HRG7.out Tryz.underlying27 rfl HS15.out ?_; rw [toList_toArray'])
    | (go_at_call 15; go_loud (refine (HBD.out _ _ HR7.out).mono ?_; rintro e W8 ⟨rfl, hb8⟩; have HB8 := Lib.hid (HB7.out.trans (hb8.mono HB7.out.size)); have HR8 := Lib.hid (HR7.out.at hb8); have HRG8 := Lib.hid (show W8.rangeAt W3.heap.size 0 cb.toList from fun j v hv => (hb8.cell (p := ⟨W3.heap.size, 0 + j, none⟩) (by rw [HZ7.out]; have := HS36.out; simp; omega)).trans (HRG7.out j v hv)); have HR48 := Lib.hid (show W8.rangeAt W6.heap.size 0 arr.toList from fun j v hv => (hb8.cell (p := ⟨W6.heap.size, 0 + j, none⟩) (by rw [HZ7.out]; simp)).trans (HR44.out j v hv)); have HL8 := Lib.hid (show W6.heap.size + 1 ≤ W8.heap.size from (by have := hb8.size; rw [HZ7.out] at this; exact this)); clear hb8)))
  · go_ret
    exact ⟨rfl, HB2.out⟩
  have h60 : L.length ≤ 60 := H60.out (by first | rfl | trivial)
  have hm48 := make48 L.length h60
  have hm37 := make37 L.length h60
  have hk0 : (0 : Int) ≤ (L.length : Int) := by omega
  go_cut [7] from 24 (fun v W => ∃ g S T cs ct, v = .pointer (some ⟨g, 0, none⟩) ∧ W.rangeAt g 0 [.slice S L.length cs, .slice T L.length ct, .int .i64 0, .int .i64 0] ∧ g < W.heap.size ∧ NoneAt W W.heap.size S L.length ∧ Below W8.heap.size W8 W)
  case first =>
    go_region
    all_goals go_wp2
    all_goals go_meet
    all_goals first
      | exact way9 (new_three W8 _ _ _).2.2.1 (new_three W8 _ _ _).1 (new_three W8 _ _ _).2.2.2
      | exact way9 (new_three W8 _ _ _).2.1 (new_three W8 _ _ _).1 (new_three W8 _ _ _).2.2.2
      | exact way9 (new_three W8 _ _ _).2.2.1 (new_three W8 _ _ _).2.1 (new_three W8 _ _ _).2.2.2
      | exact way9 (new_three W8 _ _ _).2.1 (new_three W8 _ _ _).2.2.1 (new_three W8 _ _ _).2.2.2
      | exact way9 (new_three W8 _ _ _).1 (new_three W8 _ _ _).2.1 (new_three W8 _ _ _).2.2.2
      | exact way9 (new_three W8 _ _ _).1 (new_three W8 _ _ _).2.2.1 (new_three W8 _ _ _).2.2.2
  case rest =>
    obtain ⟨g7, S, T, cs, ct, rfl, hr7, hg7, hn7, hb7⟩ := hcut
    have HB9 := Lib.hid (HB8.out.trans (hb7.mono HB8.out.size))
    have HR9 := Lib.hid (HR8.out.at hb7)
    have h36 := HS36.out
    have h8 := HL8.out
    have h7 := hb7.size
    have hq3 : wc.rangeAt W3.heap.size 0 cb.toList := fun j v hv => (hb7.cell (p := ⟨W3.heap.size, 0 + j, none⟩) (by simp; omega)).trans (HRG8.out j v hv)
    have hq4 : wc.rangeAt W6.heap.size 0 arr.toList := fun j v hv => (hb7.cell (p := ⟨W6.heap.size, 0 + j, none⟩) (by simp; omega)).trans (HR48.out j v hv)
    have HK := Lib.hid (show ∀ W, Below wc.heap.size wc W → W.rangeAt W6.heap.size 0 arr.toList ∧ W.rangeAt g7 0 [.slice S L.length cs, .slice T L.length ct, .int .i64 0, .int .i64 0] ∧ W.rangeAt W3.heap.size 0 cb.toList ∧ Below wc.heap.size wc W from fun W hb => ⟨fun j v hv => (hb.cell (p := ⟨W6.heap.size, 0 + j, none⟩) (by simp; omega)).trans (hq4 j v hv), fun j v hv => (hb.cell (p := ⟨g7, 0 + j, none⟩) hg7).trans (hr7 j v hv), fun j v hv => (hb.cell (p := ⟨W3.heap.size, 0 + j, none⟩) (by simp; omega)).trans (hq3 j v hv), hb⟩)
    have HT := Lib.hid (show ∀ W W', Below wc.heap.size wc W → Below W.heap.size W W' → Below wc.heap.size wc W' from fun W W' a b => a.trans (b.mono a.size))
    have H16 := Lib.hid (show ∀ W, Calls Tryz.prog 16 #[.agg arr] W (fun e w' => e = .returned (.agg arr) ∧ Below W.heap.size W w') from fun W => by rw [HARR.out]; exact sum_any L L.length _ _ W)
    have H17 := Lib.hid (show ∀ W, Below wc.heap.size wc W → Calls Tryz.prog 17 #[.slice A L.length c, .agg #[.slice S L.length cs, .slice T L.length ct, .int .i64 0, .int .i64 0]] W (fun e w' => e = .returned (.agg arr) ∧ Below W.heap.size W w') from fun W hb => by
      rw [HARR.out]
      exact of_any A S T c cs ct L W (HTW.out W (HB9.out.trans (hb.mono HB9.out.size))) h60 ((hn7.below hb).mono hb.size))
    have H18 := Lib.hid (show ∀ W, Below wc.heap.size wc W → Calls Tryz.prog 18 #[.agg cb, .slice A L.length c] W (fun e w' => e = .returned (.slice none 0 0) ∧ Below W.heap.size W w') from fun W hb => waits_any A c L cb W (HTW.out W (HB9.out.trans (hb.mono HB9.out.size))) h60 (HR9.out.at hb) (Nat.le_trans HW.out (HB9.out.trans (hb.mono HB9.out.size)).size))
    have heq : ∀ W, (Op.equalIn 10000 52 (.agg arr) (.agg arr)).run Tryz.prog W = .ok true W := fun W => by rw [HARR.out]; exact eq52 _ _ _ _ _ _ _ _ _ _ W
    have hg52 : Tryz.prog.eqGuardType Tryz.prog.depth 52 = false := by kernel_rfl
    have L50 : (Tryz.prog.info? 50).map (·.size) = some (#[.slice S L.length cs, .slice T L.length ct, .int .i64 0, .int .i64 0] : Array Value).toList.length := size50
    have HEQ := Lib.hid heq
    clear heq hq3 hq4 hr7 hg7 hn7 hm48 hm37 hk0 h36 h8 h7 HSM HCF HSU HBD
    go_upto_region 10 with fail
    have hS0 : wc.drew.rangeAt W6.heap.size 0 arr.toList ∧ wc.drew.rangeAt g7 0 [.slice S L.length cs, .slice T L.length ct, .int .i64 0, .int .i64 0] ∧ wc.drew.rangeAt W3.heap.size 0 cb.toList ∧ Below wc.heap.size wc wc.drew := HK.out _ (Below.refl _ _).drew
    refine wp_region_held_drew (S := fun W => W.rangeAt W6.heap.size 0 arr.toList ∧ W.rangeAt g7 0 [.slice S L.length cs, .slice T L.length ct, .int .i64 0, .int .i64 0] ∧ W.rangeAt W3.heap.size 0 cb.toList ∧ Below wc.heap.size wc W) (by kernel_rfl) hS0 (fun _ => ?_)
    refine wpAnyH_take (i := 0) (v := .agg arr) rfl (by kernel_rfl) (by kernel_rfl) (by kernel_rfl) (fun _ _ _ h => h) (yields_load_arr (by rfl) 44 (.tmp 4) rfl W6.heap.size 0 rfl arr _ (fun _ h => h.1) Tryz.underlying44 rfl H10L.out) hS0 ?_
    change wpAnyH _ _ _ _ _ _ _ (Act.put _ (some 31) _) _
    try simp only [Act.put, List.setIfInBounds_toArray, List.set_cons_zero, List.set_cons_succ]
    refine wpAnyH_take (i := 2) (v := .slice A L.length c) rfl (by kernel_rfl) (by kernel_rfl) (by kernel_rfl) (fun _ _ _ h => h) (Or.inl ⟨by rfl, fun W hW => by go_simp⟩) hS0 ?_
    change wpAnyH _ _ _ _ _ _ _ (Act.put _ (some 33) _) _
    try simp only [Act.put, List.setIfInBounds_toArray, List.set_cons_zero, List.set_cons_succ]
    refine wpAnyH_take (i := 3) (v := .agg #[.slice S L.length cs, .slice T L.length ct, .int .i64 0, .int .i64 0]) rfl (by kernel_rfl) (by kernel_rfl) (by kernel_rfl) (fun _ _ _ h => h) (yields_load_arr (by rfl) 50 (.tmp 7) rfl g7 0 rfl #[.slice S L.length cs, .slice T L.length ct, .int .i64 0, .int .i64 0] _ (fun _ h => h.2.1) Tryz.underlying50 rfl L50) hS0 ?_
    change wpAnyH _ _ _ _ _ _ _ (Act.put _ (some 34) _) _
    try simp only [Act.put, List.setIfInBounds_toArray, List.set_cons_zero, List.set_cons_succ]
    refine wpAnyH_ready (rs := [1]) (by kernel_rfl) (by simp) ?_
    refine AllReadyH.cons (o := _) rfl (fun K hK => ?_) AllReadyH.nil
    go_simp
    go_at_call 16
    refine (H16.out _).mono ?_
    rintro x V1 ⟨rfl, hb1⟩
    have hS1 : V1.rangeAt W6.heap.size 0 arr.toList ∧ V1.rangeAt g7 0 [.slice S L.length cs, .slice T L.length ct, .int .i64 0, .int .i64 0] ∧ V1.rangeAt W3.heap.size 0 cb.toList ∧ Below wc.heap.size wc V1 := HK.out _ (HT.out _ _ hS0.2.2.2 hb1)
    refine hK.out _ _ hS1 (fun _ => ?_)
    clear hK K
    try simp only [Act.put, List.setIfInBounds_toArray, List.set_cons_zero, List.set_cons_succ]
    refine wpAnyH_ready (rs := [4]) (by kernel_rfl) (by simp) ?_
    refine AllReadyH.cons (o := _) rfl (fun K hK => ?_) AllReadyH.nil
    go_simp
    go_at_call 17
    refine (H17.out _ hS1.2.2.2).mono ?_
    rintro x V2 ⟨rfl, hb2⟩
    have hS2 : V2.rangeAt W6.heap.size 0 arr.toList ∧ V2.rangeAt g7 0 [.slice S L.length cs, .slice T L.length ct, .int .i64 0, .int .i64 0] ∧ V2.rangeAt W3.heap.size 0 cb.toList ∧ Below wc.heap.size wc V2 := HK.out _ (HT.out _ _ hS1.2.2.2 hb2)
    refine hK.out _ _ hS2 (fun _ => ?_)
    clear hK K
    try simp only [Act.put, List.setIfInBounds_toArray, List.set_cons_zero, List.set_cons_succ]
    refine wpAnyH_take (i := 5) (v := .bool true) rfl (by kernel_rfl) (by kernel_rfl) (by kernel_rfl) (fun _ _ _ h => h) (yields_eqs (by rfl) 52 52 (.tmp 32) (.tmp 35) rfl rfl rfl hg52 HEQ.out) hS2 ?_
    change wpAnyH _ _ _ _ _ _ _ (Act.put _ (some 36) _) _
    try simp only [Act.put, List.setIfInBounds_toArray, List.set_cons_zero, List.set_cons_succ]
    refine wpAnyH_take (i := 6) (v := .bool true) rfl (by kernel_rfl) (by kernel_rfl) (by kernel_rfl) (fun _ _ _ h => h) (Or.inl ⟨by rfl, fun W hW => by go_simp⟩) hS2 ?_
    change wpAnyH _ _ _ _ _ _ _ (Act.put _ (some 37) _) _
    try simp only [Act.put, List.setIfInBounds_toArray, List.set_cons_zero, List.set_cons_succ]
    refine wpAnyH_take (i := 7) (v := .agg cb) rfl (by kernel_rfl) (by kernel_rfl) (by kernel_rfl) (fun _ _ _ h => h) (yields_load_arr (by rfl) 27 (.tmp 3) rfl W3.heap.size 0 rfl cb _ (fun _ h => h.2.2.1) Tryz.underlying27 rfl HS15.out) hS2 ?_
    change wpAnyH _ _ _ _ _ _ _ (Act.put _ (some 38) _) _
    try simp only [Act.put, List.setIfInBounds_toArray, List.set_cons_zero, List.set_cons_succ]
    refine wpAnyH_take (i := 8) (v := .slice A L.length c) rfl (by kernel_rfl) (by kernel_rfl) (by kernel_rfl) (fun _ _ _ h => h) (Or.inl ⟨by rfl, fun W hW => by go_simp⟩) hS2 ?_
    change wpAnyH _ _ _ _ _ _ _ (Act.put _ (some 39) _) _
    try simp only [Act.put, List.setIfInBounds_toArray, List.set_cons_zero, List.set_cons_succ]
    refine wpAnyH_ready (rs := [9]) (by kernel_rfl) (by simp) ?_
    refine AllReadyH.cons (o := _) rfl (fun K hK => ?_) AllReadyH.nil
    go_simp
    go_at_call 18
    refine (H18.out _ hS2.2.2.2).mono ?_
    rintro x V3 ⟨rfl, hb3⟩
    have hS3 : V3.rangeAt W6.heap.size 0 arr.toList ∧ V3.rangeAt g7 0 [.slice S L.length cs, .slice T L.length ct, .int .i64 0, .int .i64 0] ∧ V3.rangeAt W3.heap.size 0 cb.toList ∧ Below wc.heap.size wc V3 := HK.out _ (HT.out _ _ hS2.2.2.2 hb3)
    refine hK.out _ _ hS3 (fun _ => ?_)
    clear hK K
    try simp only [Act.put, List.setIfInBounds_toArray, List.set_cons_zero, List.set_cons_succ]
    refine wpAnyH_take (i := 10) (v := .int .i64 0) rfl (by kernel_rfl) (by kernel_rfl) (by kernel_rfl) (fun _ _ _ h => h) (Or.inl ⟨by rfl, fun W hW => by go_simp⟩) hS3 ?_
    change wpAnyH _ _ _ _ _ _ _ (Act.put _ (some 41) _) _
    try simp only [Act.put, List.setIfInBounds_toArray, List.set_cons_zero, List.set_cons_succ]
    refine wpAnyH_take (i := 11) (v := .bool true) rfl (by kernel_rfl) (by kernel_rfl) (by kernel_rfl) (fun _ _ _ h => h) (Or.inl ⟨by rfl, fun W hW => by go_simp⟩) hS3 ?_
    change wpAnyH _ _ _ _ _ _ _ (Act.put _ (some 42) _) _
    try simp only [Act.put, List.setIfInBounds_toArray, List.set_cons_zero, List.set_cons_succ]
    refine wpAnyH_take (i := 12) (v := .bool true) rfl (by kernel_rfl) (by kernel_rfl) (by kernel_rfl) (fun _ _ _ h => h) (Or.inl ⟨by rfl, fun W hW => by go_simp⟩) hS3 ?_
    change wpAnyH _ _ _ _ _ _ _ (Act.put _ (some 43) _) _
    try simp only [Act.put, List.setIfInBounds_toArray, List.set_cons_zero, List.set_cons_succ]
    refine wpAnyH_take (i := 13) (v := .bool true) rfl (by kernel_rfl) (by kernel_rfl) (by kernel_rfl) (fun _ _ _ h => h) (Or.inl ⟨by rfl, fun W hW => by go_simp⟩) hS3 ?_
    change wpAnyH _ _ _ _ _ _ _ (Act.put _ (some 44) _) _
    try simp only [Act.put, List.setIfInBounds_toArray, List.set_cons_zero, List.set_cons_succ]
    refine wpAnyH_take (i := 14) (v := .slice none 0 0) rfl (by kernel_rfl) (by kernel_rfl) (by kernel_rfl) (fun _ _ _ h => h) (Or.inl ⟨by rfl, fun W hW => by go_simp⟩) hS3 ?_
    change wpAnyH _ _ _ _ _ _ _ (Act.put _ (some 45) _) _
    try simp only [Act.put, List.setIfInBounds_toArray, List.set_cons_zero, List.set_cons_succ]
    refine wpAnyH_take (i := 15) (v := .int .i64 0) rfl (by kernel_rfl) (by kernel_rfl) (by kernel_rfl) (fun _ _ _ h => h) (Or.inl ⟨by rfl, fun W hW => by go_simp⟩) hS3 ?_
    change wpAnyH _ _ _ _ _ _ _ (Act.put _ (some 46) _) _
    try simp only [Act.put, List.setIfInBounds_toArray, List.set_cons_zero, List.set_cons_succ]
    refine wpAnyH_take (i := 16) (v := .bool true) rfl (by kernel_rfl) (by kernel_rfl) (by kernel_rfl) (fun _ _ _ h => h) (Or.inl ⟨by rfl, fun W hW => by go_simp⟩) hS3 ?_
    change wpAnyH _ _ _ _ _ _ _ (Act.put _ (some 47) _) _
    try simp only [Act.put, List.setIfInBounds_toArray, List.set_cons_zero, List.set_cons_succ]
    refine wpAnyH_take (i := 17) (v := .bool true) rfl (by kernel_rfl) (by kernel_rfl) (by kernel_rfl) (fun _ _ _ h => h) (Or.inl ⟨by rfl, fun W hW => by go_simp⟩) hS3 ?_
    change wpAnyH _ _ _ _ _ _ _ (Act.put _ (some 48) _) _
    try simp only [Act.put, List.setIfInBounds_toArray, List.set_cons_zero, List.set_cons_succ]
    refine wpAnyH_take (i := 18) (v := .bool true) rfl (by kernel_rfl) (by kernel_rfl) (by kernel_rfl) (fun _ _ _ h => h) (Or.inl ⟨by rfl, fun W hW => by go_simp⟩) hS3 ?_
    change wpAnyH _ _ _ _ _ _ _ (Act.put _ (some 49) _) _
    try simp only [Act.put, List.setIfInBounds_toArray, List.set_cons_zero, List.set_cons_succ]
    refine wpAnyH_take (i := 19) (v := .slice none 0 0) rfl (by kernel_rfl) (by kernel_rfl) (by kernel_rfl) (fun _ _ _ h => h) (Or.inl ⟨by rfl, fun W hW => by go_simp⟩) hS3 ?_
    change wpAnyH _ _ _ _ _ _ _ (Act.put _ (some 50) _) _
    try simp only [Act.put, List.setIfInBounds_toArray, List.set_cons_zero, List.set_cons_succ]
    refine wpAnyH_take (i := 20) (v := .int .i64 0) rfl (by kernel_rfl) (by kernel_rfl) (by kernel_rfl) (fun _ _ _ h => h) (Or.inl ⟨by rfl, fun W hW => by go_simp⟩) hS3 ?_
    change wpAnyH _ _ _ _ _ _ _ (Act.put _ (some 51) _) _
    try simp only [Act.put, List.setIfInBounds_toArray, List.set_cons_zero, List.set_cons_succ]
    refine wpAnyH_take (i := 21) (v := .bool true) rfl (by kernel_rfl) (by kernel_rfl) (by kernel_rfl) (fun _ _ _ h => h) (Or.inl ⟨by rfl, fun W hW => by go_simp⟩) hS3 ?_
    change wpAnyH _ _ _ _ _ _ _ (Act.put _ (some 52) _) _
    try simp only [Act.put, List.setIfInBounds_toArray, List.set_cons_zero, List.set_cons_succ]
    refine wpAnyH_take (i := 22) (v := .bool true) rfl (by kernel_rfl) (by kernel_rfl) (by kernel_rfl) (fun _ _ _ h => h) (Or.inl ⟨by rfl, fun W hW => by go_simp⟩) hS3 ?_
    change wpAnyH _ _ _ _ _ _ _ (Act.put _ (some 53) _) _
    try simp only [Act.put, List.setIfInBounds_toArray, List.set_cons_zero, List.set_cons_succ]
    refine wpAnyH_take (i := 23) (v := .bool true) rfl (by kernel_rfl) (by kernel_rfl) (by kernel_rfl) (fun _ _ _ h => h) (Or.inl ⟨by rfl, fun W hW => by go_simp⟩) hS3 ?_
    change wpAnyH _ _ _ _ _ _ _ (Act.put _ (some 2) _) _
    try simp only [Act.put, List.setIfInBounds_toArray, List.set_cons_zero, List.set_cons_succ]
    refine wpAnyH_done (by kernel_rfl) ?_ _
    have hB := hS3.2.2.2
    go_wp2
    go_ret
    exact ⟨rfl, HB9.out.trans (hB.mono HB9.out.size)⟩
end Go.Proofs.YtgaimkgaooiieaaGreatDoor
