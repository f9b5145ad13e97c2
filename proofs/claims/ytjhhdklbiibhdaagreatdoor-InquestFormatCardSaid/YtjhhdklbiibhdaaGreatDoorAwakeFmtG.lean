/-
  An argument of type []inquest.Step: its value and its cells, for every such argument that can be read.
-/
import Derived.Test.YtjhhdklbiibhdaaGreatDoorAwakeFmtF
import Derived.ProofKit
import Derived.Deep.Slices
namespace Go.Proofs.YtjhhdklbiibhdaaGreatDoor
open Go Go.RowKit Go.ChangeShapes Go.WideShapes

def zOf : Option Value → Int
  | some (.int _ z) => z
  | _ => 0
def sOf : Option Value → ByteArray
  | some (.string s) => s
  | _ => ByteArray.empty
theorem cells51 : Tryz.prog.cellsOf 51 = 2 := by kernel_rfl

theorem add_add' (a : Addr) (i j : Nat) : (a.add i).add j = a.add (i + j) := by
  unfold Addr.add
  by_cases hi : i = 0 <;> by_cases hj : j = 0 <;> simp [hi, hj, Nat.add_assoc]

theorem wf_bounds {z : Int} (h : (Lit.int .i64 z).wf = true) : -9223372036854775808 ≤ z ∧ z ≤ 9223372036854775807 := by
  simp [Lit.wf, IntKind.min, IntKind.max, IntKind.signed, IntKind.bits] at h
  omega

set_option maxRecDepth 100000 in
theorem open_steps {H : Type} {enc : TypeId × Value → H} {W : World} {r : Reach} {b0 : Nat} {v : Value} {d : DataW H} {p : List MemPlace}
    (hv : Value.okWide Tryz.prog W r b0 49 v) (h : DataW.Trod enc Tryz.prog W 0 (fun _ => true) true 49 v d p) :
    ∃ (A : Option Addr) (c : Nat) (L : List (Int × ByteArray)), v = .slice A L.length c ∧ StepsIn W W.heap.size A L ∧ L.length ≤ 9223372036854775807 ∧ ∀ x ∈ L, okInt x := by
  obtain ⟨a0, len, cap, rfl⟩ := okWide_slice Tryz.underlying49 hv
  obtain ⟨fuel, hf⟩ := h
  rcases Deep.open_slice Tryz.underlying49 hf with ⟨hcs, _⟩ | ⟨a, len', cap', m, n, D, Pl, hcs, _, hl, hm, hmm, _, hi⟩
  · have e : Value.slice a0 len cap = .slice none 0 0 := by simpa [Value.cells] using hcs
    rw [e]
    exact ⟨none, 0, [], rfl, fun k x hx => by simp at hx, Nat.zero_le _, fun x hx => by simp at hx⟩
  · have e : Value.slice a0 len cap = .slice (some a) len' cap' := by simpa [Value.cells] using hcs
    rw [e]
    have hm' : m = cap' := by simpa using hmm
    have each : ∀ i, i < len' → ∃ z s, W.cell? (a.add (i * 2)) = some (.int .i64 z) ∧ W.cell? (a.add (i * 2 + 1)) = some (.string s) ∧ (Lit.int .i64 z).wf = true := fun i hlt => by
      obtain ⟨cs', hc, ht⟩ := hi i (by omega)
      rw [cells51] at hc
      obtain ⟨_, hcl, hat⟩ := World.cells?_some hc
      obtain ⟨xs, n', _, _, _, hxl, hg⟩ := DataW.trod_struct Tryz.underlying51 ht
      have g0 := hg 0 _ rfl
      have g1 := hg 1 _ rfl
      have c3 : Tryz.prog.cellsOf 3 = 1 := by kernel_rfl
      have c9 : Tryz.prog.cellsOf 9 = 1 := by kernel_rfl
      have hxl' : xs.length = 2 := hxl
      match cs', hcl, xs, hxl', g0, g1 with
      | [u0, u1], _, [y0, y1], _, g0, g1 =>
        have g0' : DataW.trod enc Tryz.prog W 0 (fun _ => true) true n' 3 (([u0, u1].drop 0).take (Tryz.prog.cellsOf 3)) = some y0 := g0
        have g1' : DataW.trod enc Tryz.prog W 0 (fun _ => true) true n' 9 (([u0, u1].drop 1).take (Tryz.prog.cellsOf 9)) = some y1 := g1
        rw [c3] at g0'
        rw [c9] at g1'
        obtain ⟨z, e0, _, hw⟩ := DataW.trod_int Tryz.underlying3 g0'
        obtain ⟨s, e1, _, _⟩ := DataW.trod_string Tryz.underlying9 g1'
        simp at e0 e1
        subst e0 e1
        have a0' := hat 0 (by omega)
        have a1' := hat 1 (by omega)
        rw [add_add'] at a0' a1'
        exact ⟨z, s, by simpa using a0', by simpa using a1', hw⟩
    refine ⟨some a, cap', (List.range len').map fun i => (zOf (W.cell? (a.add (i * 2))), sOf (W.cell? (a.add (i * 2 + 1)))), by simp, ?_, ?_, ?_⟩
    · intro k x hx
      simp only [List.getElem?_map, Option.map_eq_some_iff] at hx
      obtain ⟨j, hj, rfl⟩ := hx
      obtain ⟨hj1, hj2⟩ := List.getElem?_eq_some_iff.1 hj
      simp at hj1 hj2
      subst hj2
      obtain ⟨z, s, e1, e2, _⟩ := each k hj1
      obtain ⟨z0, _, e0, _, _⟩ := each 0 (by omega)
      have hplain : a.spot = none := by
        cases hs : a.spot with
        | none => rfl
        | some q =>
          have e0' : W.cell? a = some (.int .i64 z0) := e0
          unfold World.cell? at e0'
          rw [hs] at e0'
          split at e0' <;> simp at e0'
      obtain ⟨b, off, spot⟩ := a
      simp only at hplain
      subst hplain
      have hadd : ∀ j, (⟨b, off, none⟩ : Addr).add j = ⟨b, off + j, none⟩ := fun j => by unfold Addr.add; split <;> simp_all
      have f1 := e1
      have f2 := e2
      rw [hadd] at f1 f2
      refine ⟨b, off, rfl, World.block_lt_of_cell? _ _ f1, ?_, ?_⟩
      · rw [f1]
        show some (Value.int .i64 z) = some (.int .i64 (zOf (W.cell? ((⟨b, off, none⟩ : Addr).add (k * 2)))))
        rw [e1]
        rfl
      · rw [Nat.add_assoc, f2]
        show some (Value.string s) = some (.string (sOf (W.cell? ((⟨b, off, none⟩ : Addr).add (k * 2 + 1)))))
        rw [e2]
        rfl
    · have hmx : cap' ≤ 9223372036854775807 := hm
      rw [List.length_map, List.length_range]
      exact Nat.le_trans hl hmx
    · intro x hx
      simp only [List.mem_map, List.mem_range] at hx
      obtain ⟨i, hlt, rfl⟩ := hx
      obtain ⟨z, s, e1, _, hw⟩ := each i hlt
      have := wf_bounds hw
      simp only [okInt, e1, zOf]
      exact this
end Go.Proofs.YtjhhdklbiibhdaaGreatDoor
