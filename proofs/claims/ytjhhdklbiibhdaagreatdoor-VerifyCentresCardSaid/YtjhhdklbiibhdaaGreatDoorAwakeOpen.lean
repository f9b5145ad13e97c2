/-
  An argument of type []api.Event: its value and its cells, for every such argument that can be read, within the reach.
-/
import Derived.Test.YtjhhdklbiibhdaaGreatDoorAwakeRowE
import Derived.ProofKit
import Derived.Deep.Slices
import Derived.SizedLaws
namespace Go.Proofs.YtjhhdklbiibhdaaGreatDoor
open Go Go.RowKit Go.ChangeShapes Go.WideShapes

def zOf : Option Value → Int
  | some (.int _ z) => z
  | _ => 0
theorem add_add' (a : Addr) (i j : Nat) : (a.add i).add j = a.add (i + j) := by
  unfold Addr.add
  by_cases hi : i = 0 <;> by_cases hj : j = 0 <;> simp [hi, hj, Nat.add_assoc]

theorem cellsOf2 : Tryz.prog.cellsOf 2 = 1 := by kernel_rfl
theorem cellsOf3 : Tryz.prog.cellsOf 3 = 1 := by kernel_rfl
theorem cellsOf5 : Tryz.prog.cellsOf 5 = 1 := by kernel_rfl
theorem cellsOf34 : Tryz.prog.cellsOf 34 = 1 := by kernel_rfl
theorem cellsOf36 : Tryz.prog.cellsOf 36 = 3 := by kernel_rfl
theorem cellsOf38 : Tryz.prog.cellsOf 38 = 5 := by kernel_rfl
theorem cellsOf40 : Tryz.prog.cellsOf 40 = 5 := by kernel_rfl
theorem cellsOf41 : Tryz.prog.cellsOf 41 = 1 := by kernel_rfl
theorem cellsOf42 : Tryz.prog.cellsOf 42 = 1 := by kernel_rfl
theorem cellsOf44 : Tryz.prog.cellsOf 44 = 8 := by kernel_rfl
theorem cellsOf46 : Tryz.prog.cellsOf 46 = 28 := by kernel_rfl
theorem bytesOf5 : Tryz.prog.bytesOf 5 = 1 := by kernel_rfl
theorem bytesOf46 : Tryz.prog.bytesOf 46 = 288 := by kernel_rfl

section
variable {H : Type} {enc : TypeId × Value → H} {W : World} {n : Nat}
theorem field_int {t : TypeId} {cs : List Value} {o : Nat} {y : Option (DataW H × List MemPlace)} (hu : Tryz.prog.underlying t = some (.int .i64)) (hc : Tryz.prog.cellsOf t = 1) (hy : y.isSome = true)
    (h : DataW.trod enc Tryz.prog W 0 (fun _ => true) true n t (List.take (Tryz.prog.cellsOf t) (List.drop o cs)) = y) : ∃ z, cs[o]? = some (.int .i64 z) := by
  obtain ⟨y, rfl⟩ := Option.isSome_iff_exists.1 hy
  obtain ⟨z, e, _, _⟩ := DataW.trod_int hu h
  have := congrArg (·[0]?) e
  simp only [hc, List.getElem?_take, List.getElem?_drop] at this
  exact ⟨z, by simpa using this⟩
theorem field_slice {t e : TypeId} {cs : List Value} {o : Nat} {y : Option (DataW H × List MemPlace)} (hu : Tryz.prog.underlying t = some (.slice e)) (hc : Tryz.prog.cellsOf t = 1) (hy : y.isSome = true)
    (h : DataW.trod enc Tryz.prog W 0 (fun _ => true) true n t (List.take (Tryz.prog.cellsOf t) (List.drop o cs)) = y) : ∃ A l c, cs[o]? = some (.slice A l c) := by
  obtain ⟨y, rfl⟩ := Option.isSome_iff_exists.1 hy
  have key : ∃ A l c, List.take (Tryz.prog.cellsOf t) (List.drop o cs) = [.slice A l c] := by
    rcases DataW.trod_slice hu h with ⟨e, _⟩ | ⟨a, len, cap, _, _, _, _, e, _⟩
    · exact ⟨_, _, _, e⟩
    · exact ⟨_, _, _, e⟩
  obtain ⟨A, l, c, e⟩ := key
  have := congrArg (·[0]?) e
  simp only [hc, List.getElem?_take, List.getElem?_drop] at this
  exact ⟨A, l, c, by simpa using this⟩
theorem inner {cs : List Value} {o m j : Nat} {v : Value} (h : (List.take m (List.drop o cs))[j]? = some v) : cs[o + j]? = some v := by
  rw [List.getElem?_take] at h
  split at h
  · rwa [List.getElem?_drop] at h
  · cases h
/-- the bytes of a slice -/
theorem field_bytes {cs : List Value} {o : Nat} {y : DataW H × List MemPlace} (h : DataW.trod enc Tryz.prog W 0 (fun _ => true) true n 34 (List.take (Tryz.prog.cellsOf 34) (List.drop o cs)) = some y)
    (hw : ∀ m ∈ y.1.weights Tryz.prog 34, m ≤ reachBytes) : ∃ A c xs, cs[o]? = some (.slice A (List.length xs) c) ∧ BytesAt 5 W W.heap.size A xs ∧ (A = none → c = 0) ∧ xs.length ≤ 140737488355328 := by
  have take0 : ∀ {v : Value}, List.take (Tryz.prog.cellsOf 34) (List.drop o cs) = [v] → cs[o]? = some v := fun e => by
    have := congrArg (·[0]?) e
    simp only [cellsOf34, List.getElem?_take, List.getElem?_drop] at this
    simpa using this
  rcases Deep.open_slice1 Tryz.underlying34 cellsOf5 h with ⟨e, _⟩ | ⟨a, len, cap, m, n', V, D, Pl, e, _, hl, hm, hmm, hx, hi⟩
  · exact ⟨none, 0, [], take0 e, (fun h => by cases h), fun _ => rfl, Nat.zero_le _⟩
  · have hm' : m = cap := by simpa using hmm
    have each : ∀ i, i < len → ∃ z, W.cell? (a.add i) = some (.int .u8 z) := fun i hlt => by
      obtain ⟨h1, h2⟩ := hi i (by omega)
      obtain ⟨z, e1, _, _⟩ := DataW.trod_int Tryz.underlying5 h2
      exact ⟨z, by rw [h1]; simpa using e1⟩
    have hlen : ((List.range len).map fun i => zOf (W.cell? (a.add i))).length = len := by simp
    refine ⟨some a, cap, (List.range len).map fun i => zOf (W.cell? (a.add i)), by rw [hlen]; exact take0 e, fun h0 => ?_, (fun e => by cases e), ?_⟩
    · rw [hlen] at h0
      obtain ⟨z0, e0⟩ := each 0 h0
      have hplain : a.spot = none := by
        cases hs : a.spot with
        | none => rfl
        | some q =>
          have e0' : W.cell? a = some (.int .u8 z0) := e0
          unfold World.cell? at e0'
          rw [hs] at e0'
          split at e0' <;> simp at e0'
      obtain ⟨b, off, spot⟩ := a
      simp only at hplain
      subst hplain
      have hb : b < W.heap.size := World.block_lt_of_cell? _ _ e0
      refine ⟨b, off, rfl, ⟨hb, .inl hb⟩, fun i hlt => ?_⟩
      rw [hlen] at hlt
      obtain ⟨z, e1⟩ := each i hlt
      rw [← Addr.add_mid, e1]
      simp [List.getD, hlt, e1, zOf]
    · rw [hlen]
      have hh := hw ((len + (m - len)) * Tryz.prog.bytesOf 5) (by rw [hx]; simp [DataW.weights, Tryz.underlying34])
      rw [bytesOf5] at hh
      have : reachBytes ≤ 140737488355328 := by decide
      omega

set_option maxRecDepth 100000 in
theorem open_event {cs : List Value} {y : DataW H × List MemPlace} (ht : DataW.trod enc Tryz.prog W 0 (fun _ => true) true n 46 cs = some y) (hw : ∀ m ∈ y.1.weights Tryz.prog 46, m ≤ reachBytes) :
    ∃ x : EvD, cs.length = 28 ∧ EvC 5 W W.heap.size x cs ∧ x.body.length ≤ 140737488355328 := by
  obtain ⟨xs, n1, _, rfl, hcl, hxl, hg⟩ := DataW.trod_struct Tryz.underlying46 ht
  rw [cellsOf46] at hcl
  have hxl : xs.length = 11 := hxl
  have ok : ∀ j, j < 11 → (xs[j]?).isSome = true := fun j hj => by rw [List.getElem?_eq_getElem (by omega)]; rfl
  obtain ⟨z0, k0⟩ := field_int Tryz.underlying3 cellsOf3 (ok 0 (by omega)) (hg 0 _ rfl)
  obtain ⟨z1, k1⟩ := field_int Tryz.underlying2 cellsOf2 (ok 1 (by omega)) (hg 1 _ rfl)
  obtain ⟨z2, k2⟩ := field_int Tryz.underlying3 cellsOf3 (ok 2 (by omega)) (hg 2 _ rfl)
  obtain ⟨z3, k3⟩ := field_int Tryz.underlying2 cellsOf2 (ok 3 (by omega)) (hg 3 _ rfl)
  obtain ⟨z4, k4⟩ := field_int Tryz.underlying2 cellsOf2 (ok 4 (by omega)) (hg 4 _ rfl)
  obtain ⟨z5, k5⟩ := field_int Tryz.underlying2 cellsOf2 (ok 5 (by omega)) (hg 5 _ rfl)
  obtain ⟨y6, h6⟩ := Option.isSome_iff_exists.1 (ok 6 (by omega))
  have g6 := hg 6 _ rfl
  rw [h6] at g6
  obtain ⟨ws, n2, _, hy6, _, hwl, hv⟩ := DataW.trod_struct Tryz.underlying36 g6
  have hwl : ws.length = 3 := hwl
  have okw : ∀ j, j < 3 → (ws[j]?).isSome = true := fun j hj => by rw [List.getElem?_eq_getElem (by omega)]; rfl
  obtain ⟨z6, k6⟩ := field_int Tryz.underlying2 cellsOf2 (okw 0 (by omega)) (hv 0 _ rfl)
  obtain ⟨z7, k7⟩ := field_int Tryz.underlying3 cellsOf3 (okw 1 (by omega)) (hv 1 _ rfl)
  obtain ⟨y8, h8⟩ := Option.isSome_iff_exists.1 (okw 2 (by omega))
  have g8 := hv 2 _ rfl
  rw [h8] at g8
  obtain ⟨B, cap, body, k8, hB, hnil, hbl⟩ := field_bytes g8 (fun m hm => hw m (by
    have w1 : m ∈ y6.1.weights Tryz.prog 36 := by
      rw [hy6]
      show m ∈ DataW.weights Tryz.prog 36 (.agg (ws.map (·.1)))
      unfold DataW.weights
      rw [Tryz.underlying36]
      exact DataW.weights_mem_each (j := 2) (t := 34) (d := y8.1) rfl (by rw [List.getElem?_map, h8]; rfl) m hm
    show m ∈ DataW.weights Tryz.prog 46 (.agg (xs.map (·.1)))
    unfold DataW.weights
    rw [Tryz.underlying46]
    exact DataW.weights_mem_each (j := 6) (t := 36) (d := y6.1) rfl (by rw [List.getElem?_map, h6]; rfl) m w1))
  replace k6 := inner k6
  replace k7 := inner k7
  replace k8 := inner k8
  obtain ⟨p7, h7'⟩ := Option.isSome_iff_exists.1 (ok 7 (by omega))
  have gg7 := hg 7 _ rfl
  rw [h7'] at gg7
  obtain ⟨vs7, _, _, _, _, vl7, hv7⟩ := DataW.trod_struct Tryz.underlying38 gg7
  have vl7 : vs7.length = 5 := vl7
  have okv7 : ∀ j, j < 5 → (vs7[j]?).isSome = true := fun j hj => by rw [List.getElem?_eq_getElem (by omega)]; rfl
  obtain ⟨z9, k9⟩ := field_int Tryz.underlying3 cellsOf3 (okv7 0 (by omega)) (hv7 0 _ rfl)
  replace k9 := inner k9
  obtain ⟨z10, k10⟩ := field_int Tryz.underlying2 cellsOf2 (okv7 1 (by omega)) (hv7 1 _ rfl)
  replace k10 := inner k10
  obtain ⟨z11, k11⟩ := field_int Tryz.underlying3 cellsOf3 (okv7 2 (by omega)) (hv7 2 _ rfl)
  replace k11 := inner k11
  obtain ⟨z12, k12⟩ := field_int Tryz.underlying2 cellsOf2 (okv7 3 (by omega)) (hv7 3 _ rfl)
  replace k12 := inner k12
  obtain ⟨z13, k13⟩ := field_int Tryz.underlying3 cellsOf3 (okv7 4 (by omega)) (hv7 4 _ rfl)
  replace k13 := inner k13
  obtain ⟨p8, h8'⟩ := Option.isSome_iff_exists.1 (ok 8 (by omega))
  have gg8 := hg 8 _ rfl
  rw [h8'] at gg8
  obtain ⟨vs8, _, _, _, _, vl8, hv8⟩ := DataW.trod_struct Tryz.underlying40 gg8
  have vl8 : vs8.length = 5 := vl8
  have okv8 : ∀ j, j < 5 → (vs8[j]?).isSome = true := fun j hj => by rw [List.getElem?_eq_getElem (by omega)]; rfl
  obtain ⟨z14, k14⟩ := field_int Tryz.underlying3 cellsOf3 (okv8 0 (by omega)) (hv8 0 _ rfl)
  replace k14 := inner k14
  obtain ⟨z15, k15⟩ := field_int Tryz.underlying2 cellsOf2 (okv8 1 (by omega)) (hv8 1 _ rfl)
  replace k15 := inner k15
  obtain ⟨z16, k16⟩ := field_int Tryz.underlying3 cellsOf3 (okv8 2 (by omega)) (hv8 2 _ rfl)
  replace k16 := inner k16
  obtain ⟨z17, k17⟩ := field_int Tryz.underlying3 cellsOf3 (okv8 3 (by omega)) (hv8 3 _ rfl)
  replace k17 := inner k17
  obtain ⟨z18, k18⟩ := field_int Tryz.underlying2 cellsOf2 (okv8 4 (by omega)) (hv8 4 _ rfl)
  replace k18 := inner k18
  obtain ⟨p9, h9'⟩ := Option.isSome_iff_exists.1 (ok 9 (by omega))
  have gg9 := hg 9 _ rfl
  rw [h9'] at gg9
  obtain ⟨vs9, _, _, _, _, vl9, hv9⟩ := DataW.trod_struct Tryz.underlying44 gg9
  have vl9 : vs9.length = 8 := vl9
  have okv9 : ∀ j, j < 8 → (vs9[j]?).isSome = true := fun j hj => by rw [List.getElem?_eq_getElem (by omega)]; rfl
  obtain ⟨z19, k19⟩ := field_int Tryz.underlying3 cellsOf3 (okv9 0 (by omega)) (hv9 0 _ rfl)
  replace k19 := inner k19
  obtain ⟨z20, k20⟩ := field_int Tryz.underlying3 cellsOf3 (okv9 1 (by omega)) (hv9 1 _ rfl)
  replace k20 := inner k20
  obtain ⟨z21, k21⟩ := field_int Tryz.underlying2 cellsOf2 (okv9 2 (by omega)) (hv9 2 _ rfl)
  replace k21 := inner k21
  obtain ⟨z22, k22⟩ := field_int Tryz.underlying2 cellsOf2 (okv9 3 (by omega)) (hv9 3 _ rfl)
  replace k22 := inner k22
  obtain ⟨z23, k23⟩ := field_int Tryz.underlying2 cellsOf2 (okv9 4 (by omega)) (hv9 4 _ rfl)
  replace k23 := inner k23
  obtain ⟨z24, k24⟩ := field_int Tryz.underlying3 cellsOf3 (okv9 5 (by omega)) (hv9 5 _ rfl)
  replace k24 := inner k24
  obtain ⟨_, _, _, k25⟩ := field_slice Tryz.underlying41 cellsOf41 (okv9 6 (by omega)) (hv9 6 _ rfl)
  replace k25 := inner k25
  obtain ⟨_, _, _, k26⟩ := field_slice Tryz.underlying42 cellsOf42 (okv9 7 (by omega)) (hv9 7 _ rfl)
  replace k26 := inner k26
  obtain ⟨_, _, _, k27⟩ := field_slice Tryz.underlying34 cellsOf34 (ok 10 (by omega)) (hg 10 _ rfl)
  have all : ∀ j, j < 19 → ∃ v, cs[9 + j]? = some v ∧ v.oneCell' = true := fun j hj => by
    match j, hj with
    | 0, _ => exact ⟨_, k9, rfl⟩
    | 1, _ => exact ⟨_, k10, rfl⟩
    | 2, _ => exact ⟨_, k11, rfl⟩
    | 3, _ => exact ⟨_, k12, rfl⟩
    | 4, _ => exact ⟨_, k13, rfl⟩
    | 5, _ => exact ⟨_, k14, rfl⟩
    | 6, _ => exact ⟨_, k15, rfl⟩
    | 7, _ => exact ⟨_, k16, rfl⟩
    | 8, _ => exact ⟨_, k17, rfl⟩
    | 9, _ => exact ⟨_, k18, rfl⟩
    | 10, _ => exact ⟨_, k19, rfl⟩
    | 11, _ => exact ⟨_, k20, rfl⟩
    | 12, _ => exact ⟨_, k21, rfl⟩
    | 13, _ => exact ⟨_, k22, rfl⟩
    | 14, _ => exact ⟨_, k23, rfl⟩
    | 15, _ => exact ⟨_, k24, rfl⟩
    | 16, _ => exact ⟨_, k25, rfl⟩
    | 17, _ => exact ⟨_, k26, rfl⟩
    | 18, _ => exact ⟨_, k27, rfl⟩
    | j + 19, h => omega
  refine ⟨⟨z0, z1, z2, z3, z4, z5, z6, z7, body⟩, hcl, ⟨B, cap, cs.drop 9, ?_, by rw [List.length_drop, hcl], fun v hv => ?_, hB, hnil⟩, hbl⟩
  · apply List.ext_getElem?
    intro i
    match i with
    | 0 => exact k0
    | 1 => exact k1
    | 2 => exact k2
    | 3 => exact k3
    | 4 => exact k4
    | 5 => exact k5
    | 6 => exact k6
    | 7 => exact k7
    | 8 => exact k8
    | i + 9 =>
      show cs[i + 9]? = (cs.drop 9)[i]?
      rw [List.getElem?_drop, Nat.add_comm]
  · obtain ⟨j, hj⟩ := List.mem_iff_getElem?.1 hv
    have hj' : j < 19 := by
      have := (List.getElem?_eq_some_iff.1 hj).1
      rw [List.length_drop, hcl] at this
      exact this
    obtain ⟨u, hu, ho⟩ := all j hj'
    rw [List.getElem?_drop, hu] at hj
    cases hj
    exact ho

theorem weightsAll_mem {P : Program} {e : TypeId} : ∀ {l : List (DataW H)} {d : DataW H} {m : Nat}, d ∈ l → m ∈ d.weights P e → m ∈ DataW.weightsAll P e l
  | x :: l, d, m, hd, hm => by
    simp only [DataW.weightsAll, List.mem_append]
    rcases List.mem_cons.1 hd with rfl | hd
    · exact .inl hm
    · exact .inr (weightsAll_mem hd hm)

set_option maxRecDepth 10000 in
theorem choose_ev {len : Nat} {p : Nat → EvD → Prop} (h : ∀ i, i < len → ∃ x, p i x) : ∃ L : List EvD, L.length = len ∧ ∀ (i : Nat) x, L[i]? = some x → p i x := by
  induction len with
  | zero => exact ⟨[], rfl, fun i x hx => by simp at hx⟩
  | succ k ih =>
    obtain ⟨L, hl, hL⟩ := ih fun i hi => h i (by omega)
    obtain ⟨x, hx⟩ := h k (by omega)
    refine ⟨L ++ [x], by simp [hl], fun i y hy => ?_⟩
    by_cases hi : i < k
    · rw [List.getElem?_append_left (by omega)] at hy
      exact hL i y hy
    · have : i = k := by
        have := (List.getElem?_eq_some_iff.1 hy).1
        simp [hl] at this
        omega
      subst this
      rw [List.getElem?_append_right (by omega), hl] at hy
      simp at hy
      subst hy
      exact hx

set_option maxRecDepth 100000 in
theorem open_events {r : Reach} {b0 : Nat} {v : Value} {d : DataW H} {p : List MemPlace}
    (hv : Value.okWide Tryz.prog W r b0 22 v) (h : DataW.Trod enc Tryz.prog W 0 (fun _ => true) true 22 v d p) (hw : ∀ m ∈ d.weights Tryz.prog 22, m ≤ reachBytes) :
    ∃ (A : Option Addr) (c : Nat) (L : List EvD), v = .slice A L.length c ∧ RowIn 5 28 (EvC 5) W A L ∧ L.length ≤ 140737488355328 ∧ ∀ x ∈ L, x.body.length ≤ 140737488355328 := by
  obtain ⟨a0, len, cap, rfl⟩ := okWide_slice Tryz.underlying22 hv
  obtain ⟨fuel, hf⟩ := h
  rcases Deep.open_slice Tryz.underlying22 hf with ⟨hcs, _⟩ | ⟨a, len', cap', m, n, D, Pl, hcs, _, hl, hm, hmm, hx, hi⟩
  · have e : Value.slice a0 len cap = .slice none 0 0 := by simpa [Value.cells] using hcs
    rw [e]
    exact ⟨none, 0, [], rfl, fun k x hx => by simp at hx, Nat.zero_le _, fun x hx => by simp at hx⟩
  · have e : Value.slice a0 len cap = .slice (some a) len' cap' := by simpa [Value.cells] using hcs
    rw [e]
    have hm' : m = cap' := by simpa using hmm
    have hd : d = .slice ((List.range len').map D) ((List.range (m - len')).map fun j => D (len' + j)) := congrArg (·.1) hx
    have hW : DataW.weights Tryz.prog 22 d = (((List.range len').map D).length + ((List.range (m - len')).map fun j => D (len' + j)).length) * Tryz.prog.bytesOf 46 :: (DataW.weightsAll Tryz.prog 46 ((List.range len').map D) ++ DataW.weightsAll Tryz.prog 46 ((List.range (m - len')).map fun j => D (len' + j))) := by
      rw [hd]
      simp [DataW.weights, Tryz.underlying22]
    have hlen : len' ≤ 140737488355328 := by
      have := hw _ (by rw [hW]; exact List.mem_cons_self)
      rw [bytesOf46] at this
      simp at this
      have hr : reachBytes ≤ 140737488355328 := by decide
      omega
    have one : ∀ i, i < len' → ∃ (x : EvD) (cs : List Value), cs.length = 28 ∧ (∀ j, j < 28 → W.cell? ((a.add (i * 28)).add j) = cs[j]?) ∧ EvC 5 W W.heap.size x cs ∧ x.body.length ≤ 140737488355328 := fun i hlt => by
      obtain ⟨cs', hc, ht⟩ := hi i (by omega)
      rw [cellsOf46] at hc
      obtain ⟨_, hcl, hat⟩ := World.cells?_some hc
      obtain ⟨x, _, hE, hb⟩ := open_event ht (fun m' hm' => hw m' (by
        rw [hW]
        exact List.mem_cons_of_mem _ (List.mem_append_left _ (weightsAll_mem (List.mem_map.2 ⟨i, by simpa using hlt, rfl⟩) hm'))))
      exact ⟨x, cs', hcl, hat, hE, hb⟩
    have each : ∀ i, i < len' → ∃ x : EvD, (∃ cs, cs.length = 28 ∧ W.rangeAt a.block (a.off + i * 28) cs ∧ EvC 5 W W.heap.size x cs ∧ a.spot = none ∧ a.block < W.heap.size) ∧ x.body.length ≤ 140737488355328 := fun i hlt => by
      have hplain : a.spot = none := by
        obtain ⟨x, cs, _, hat, ⟨_, _, _, hcs, _⟩, _⟩ := one 0 (by omega)
        have c0 := hat 0 (by omega)
        rw [add_add', hcs] at c0
        have c0' : W.cell? a = some (.int .i64 x.kind) := c0
        cases hs : a.spot with
        | none => rfl
        | some q =>
          unfold World.cell? at c0'
          rw [hs] at c0'
          split at c0' <;> simp at c0'
      obtain ⟨x, cs', hcl, hat, hE, hb⟩ := one i hlt
      obtain ⟨_, _, _, hcse, _⟩ := id hE
      obtain ⟨b, off, spot⟩ := a
      simp only at hplain
      subst hplain
      refine ⟨x, ⟨cs', hcl, fun j v hv => ?_, hE, rfl, ?_⟩, hb⟩
      · have hj : j < 28 := by have := (List.getElem?_eq_some_iff.1 hv).1; omega
        have := hat j hj
        rw [add_add', Addr.add_mid] at this
        rw [show off + i * 28 + j = off + (i * 28 + j) by omega, this]
        exact hv
      · have : W.cell? ⟨b, off + i * 28, none⟩ = some (.int .i64 x.kind) := by
          have := hat 0 (by omega)
          rw [add_add', Addr.add_mid] at this
          rw [show off + i * 28 = off + (i * 28 + 0) by omega, this, hcse]
          rfl
        exact World.block_lt_of_cell? W ⟨b, off + i * 28, none⟩ this
    obtain ⟨L, hLl, hL⟩ := choose_ev each
    refine ⟨some a, cap', L, by rw [hLl], fun k x hx => ?_, by rw [hLl]; exact hlen, fun x hx => ?_⟩
    · obtain ⟨⟨cs, h1, h2, h3, h4, h5⟩, _⟩ := hL k x hx
      obtain ⟨b, off, spot⟩ := a
      simp only at h4
      subst h4
      exact ⟨b, off, cs, rfl, h5, h1, h2, h3⟩
    · obtain ⟨j, hj⟩ := List.mem_iff_getElem?.1 hx
      exact (hL j x hj).2
end
end Go.Proofs.YtjhhdklbiibhdaaGreatDoor
