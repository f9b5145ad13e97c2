/-
  What the law's steps answers in this program: a new slice that holds the same steps, for every list of at most 40 steps.
-/
import Derived.Test.YtjhhdklbiibhdaaGreatDoorAwakeFmtD
import Derived.OwnWalk
namespace Go.Proofs.YtjhhdklbiibhdaaGreatDoor
open Go Go.RowKit

def stepCells (x : Int × ByteArray) : List Value := [.int .i64 x.1, .string x.2]
def rowCells (L : List (Int × ByteArray)) : List Value := L.flatMap stepCells
theorem rowCells_len : ∀ L : List (Int × ByteArray), (rowCells L).length = L.length * 2
  | [] => rfl
  | x :: L => by
    have := rowCells_len L
    simp only [rowCells, List.flatMap_cons, List.length_append, List.length_cons, stepCells, List.length_nil] at this ⊢
    omega
theorem rowCells_at : ∀ (L : List (Int × ByteArray)) (k : Nat) (x : Int × ByteArray), L[k]? = some x → (rowCells L)[k * 2]? = some (.int .i64 x.1) ∧ (rowCells L)[k * 2 + 1]? = some (.string x.2)
  | [], _, _, h => by simp at h
  | y :: L, 0, x, h => by
    simp at h
    subst h
    exact ⟨rfl, rfl⟩
  | y :: L, k + 1, x, h => by
    have := rowCells_at L k x (by simpa using h)
    have e1 : (k + 1) * 2 = k * 2 + 1 + 1 := by omega
    have e2 : (k + 1) * 2 + 1 = k * 2 + 1 + 1 + 1 := by omega
    rw [e2, e1]
    simpa [rowCells, stepCells] using this
theorem rowCells_snoc (L : List (Int × ByteArray)) (k : Nat) (x : Int × ByteArray) (hx : L[k]? = some x) : rowCells (L.take (k + 1)) = rowCells (L.take k) ++ [.int .i64 x.1, .string x.2] := by
  obtain ⟨hk, rfl⟩ := List.getElem?_eq_some_iff.1 hx
  rw [List.take_succ_eq_append_getElem hk]
  unfold rowCells
  rw [List.flatMap_append, List.flatMap_cons, List.flatMap_nil, List.append_nil]
  rfl

/-- what it hands back -/
def StepsRet (w : World) (L : List (Int × ByteArray)) (e : Ending) (w' : World) : Prop :=
  ∃ A' c', e = .returned (.slice A' L.length c') ∧ StepsIn w' w'.heap.size A' L ∧ Below w.heap.size w w'

theorem stepsRet_of {w wr : World} {L : List (Int × ByteArray)} {v : Value} (hown : wr.ownsRow w.heap.size 111 2 v L.length (rowCells L)) (hb : Below w.heap.size w wr) : StepsRet w L (.returned v) wr := by
  rcases hown.2 with ⟨rfl, h0⟩ | ⟨g, cap, cur, rfl, hg, hh, _⟩
  · refine ⟨none, 0, by rw [h0], ?_, hb⟩
    intro k x hx
    have := (List.getElem?_eq_some_iff.1 hx).1
    omega
  · refine ⟨_, cap, rfl, ?_, hb⟩
    intro k x hx
    obtain ⟨h1, h2⟩ := rowCells_at L k x hx
    have hc := hown.cells (g := g) rfl
    have a1 := hc _ _ h1
    have a2 := hc _ _ h2
    have e : ∀ j, (⟨g, 0, none⟩ : Addr).add j = ⟨g, 0 + j, none⟩ := fun j => by unfold Addr.add; split <;> simp_all
    rw [e] at a1 a2
    exact ⟨g, 0, rfl, (Array.getElem?_eq_some_iff.1 hh).1, a1, by rw [Nat.add_assoc]; exact a2⟩

theorem info111 : (Tryz.prog.info? 111).map (fun i => (i.zero, i.size, i.bytes)) = some (some (.agg #[.int .i64 0, .string ⟨#[]⟩]), 2, 24) := by kernel_rfl

set_option maxHeartbeats 2000000 in
set_option maxRecDepth 100000 in
theorem steps_any (A : Option Addr) (c : Nat) (L : List (Int × ByteArray)) (w : World) (hL : StepsIn w w.heap.size A L) (hlen : L.length ≤ 40) :
    Calls Tryz.prog 24 #[.slice A L.length c] w (StepsRet w L) := by
  obtain ⟨i0, hi, hz0, hz1, hz2⟩ := info_parts info111
  have HL := Lib.hid hL
  clear hL
  go_enter Tryz.func24, Tryz.ntmps24
  go_wp2
  go_loopw [3, 8] (fun v i wr => ∃ k : Nat, k ≤ L.length ∧ i = .int .i64 k ∧ wr.ownsRow w.heap.size 111 2 v (L.take k).length (rowCells (L.take k)) ∧ Below w.heap.size w wr) (fun _ i _ => L.length - (intOf i).toNat)
  case atStart => exact ⟨0, Nat.zero_le _, rfl, ⟨rfl, .inl ⟨rfl, rfl⟩⟩, Below.refl _ _⟩
  case round =>
    obtain ⟨k, hk, rfl, hown, hb⟩ := hrel
    by_cases hlt : k < L.length
    · obtain ⟨x, hx⟩ : ∃ x, L[k]? = some x := ⟨_, List.getElem?_eq_getElem hlt⟩
      obtain ⟨b, off, rfl, hbl, hc0, hc1⟩ := HL.out k x hx
      have hc0' : wr.cell? ⟨b, off + k * 2, none⟩ = some (.int .i64 x.1) := (hb.cell (p := ⟨b, off + k * 2, none⟩) hbl).trans hc0
      have hc1' : wr.cell? ⟨b, off + k * 2 + 1, none⟩ = some (.string x.2) := (hb.cell (p := ⟨b, off + k * 2 + 1, none⟩) hbl).trans hc1
      have HX := Lib.hid hx
      clear hc0 hc1 hx
      have hsz := hb.size
      have htl : (L.take k).length ≤ 40 := by have := List.length_take_le k L; omega
      have HT := Lib.hid (show (L.take k).length = k by rw [List.length_take]; omega)
      obtain ⟨n, hn⟩ : ∃ n, n = (L.take k).length := ⟨_, rfl⟩
      rw [← hn] at hown htl HT
      clear hn
      have hown1 := (hown.alloc (.cells #[.int .i64 x.1, .string x.2] 51)).alloc (.cells #[.int .i64 x.1, .string x.2] 111)
      have hbA : Below w.heap.size w ((wr.alloc (.cells #[.int .i64 x.1, .string x.2] 51)).alloc (.cells #[.int .i64 x.1, .string x.2] 111)) := (hb.alloc hb.size _).alloc (by simp; omega) _
      go_wp2_with (at_builtin; (refine wpList_append_own _ rfl _ _ 54 rfl w.heap.size 111 i0 _ 2 24 Tryz.underlying54 hi hz0 hz1 hz2 rfl (by decide) _ _ _ rfl hown1 ⟨wr.heap.size + 1, 0, none⟩ 1 1 [.int .i64 x.1, .string x.2] rfl rfl ?c1 ?c2 ?c3 ?c4 ?c5 ?_))
      case c1 =>
        intro j u hj
        match j, hj with
        | 0, hj => simp at hj; subst hj; simp [Addr.add]
        | 1, hj => simp at hj; subst hj; simp [Addr.add]
        | j + 2, hj => simp at hj
      case c2 => intro u hu; simp at hu; rcases hu with rfl | rfl <;> rfl
      case c3 => unfold maxLen; omega
      case c4 => omega
      case c5 => simp; omega
      intro v' w2 hown' hgrow _
      have hb2 := hbA.grown hgrow (by simp; omega) (fun g hg => (hown1.lt g hg).1)
      clear hown1 hgrow
      go_wp2
      go_roundw
      case rel =>
        refine ⟨k + 1, by omega, by go_num, ?_, hb2⟩
        rw [rowCells_snoc L k x HX.out, show (L.take (k + 1)).length = n + 1 by rw [List.length_take, HT.out]; omega]
        exact hown'
      case measure => simp [intOf]; omega
    · obtain rfl : k = L.length := by omega
      have hT : L.take L.length = L := List.take_length
      rw [hT] at hown
      clear hT hlt
      have H := Lib.hid (stepsRet_of hown hb)
      clear hown
      go_wp2
      go_ret
      exact H.out
end Go.Proofs.YtjhhdklbiibhdaaGreatDoor
