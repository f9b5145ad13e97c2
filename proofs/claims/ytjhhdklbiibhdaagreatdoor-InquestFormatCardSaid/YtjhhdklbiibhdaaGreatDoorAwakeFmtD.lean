/-
  What the reference's Text answers in this program, for every list of at most 40 steps with texts of at most 100 bytes.
-/
import Derived.Test.YtjhhdklbiibhdaaGreatDoorAwakeFmtC
namespace Go.Proofs.YtjhhdklbiibhdaaGreatDoor
open Go Go.RowKit

theorem text_snoc (L : List (Int × ByteArray)) (k : Nat) (x : Int × ByteArray) (S1 T : ByteArray) (hx : L[k]? = some x) (hS : S1 = ⟨(Lib.itoa x.1).toArray⟩) (hT : T = ⟨(fmtAll (L.take k)).toArray⟩) :
    T ++ (S1 ++ ⟨#[58, 32]⟩ ++ x.2 ++ ⟨#[10]⟩) = ⟨(fmtAll (L.take (k + 1))).toArray⟩ := by
  rw [fmtAll_snoc L k x hx, hS, hT]
  apply ByteArray.ext
  apply Array.ext'
  simp [fmtOne, ByteArray.data_append]

set_option maxHeartbeats 2000000 in
set_option maxRecDepth 100000 in
theorem text_any (A : Option Addr) (c : Nat) (L : List (Int × ByteArray)) (w : World) (hL : StepsIn w w.heap.size A L) (hlen : L.length ≤ 40) (hok : ∀ x ∈ L, okStep x) :
    Calls Tryz.prog 23 #[.slice A L.length c] w fun e w' => e = .returned (.string ⟨(fmtAll L).toArray⟩) ∧ Below w.heap.size w w' := by
  have HL := Lib.hid hL
  have HO := Lib.hid hok
  clear hL hok
  go_enter Tryz.func23, Tryz.ntmps23
  go_wp2
  go_loopw [3, 8] (fun t i wr => ∃ k : Nat, k ≤ L.length ∧ i = .int .i64 k ∧ t = .string ⟨(fmtAll (L.take k)).toArray⟩ ∧ Below w.heap.size w wr) (fun _ i _ => L.length - (intOf i).toNat)
  case atStart => exact ⟨0, Nat.zero_le _, rfl, rfl, Below.refl _ _⟩
  case round =>
    obtain ⟨k, hk, rfl, rfl, hb⟩ := hrel
    by_cases hlt : k < L.length
    · obtain ⟨x, hx⟩ : ∃ x, L[k]? = some x := ⟨_, List.getElem?_eq_getElem hlt⟩
      obtain ⟨b, off, rfl, hbl, hc0, hc1⟩ := HL.out k x hx
      have hc0' : wr.cell? ⟨b, off + k * 2, none⟩ = some (.int .i64 x.1) := (hb.cell (p := ⟨b, off + k * 2, none⟩) hbl).trans hc0
      have hc1' : wr.cell? ⟨b, off + k * 2 + 1, none⟩ = some (.string x.2) := (hb.cell (p := ⟨b, off + k * 2 + 1, none⟩) hbl).trans hc1
      have HX := Lib.hid hx
      clear hc0 hc1 hx
      have hbA : Below w.heap.size w (wr.alloc (.cells #[.int .i64 x.1, .string x.2] 111)) := hb.alloc hb.size _
      have hox := HO.out x (List.mem_of_getElem? HX.out)
      have cI : ∀ W : World, Calls Tryz.prog 42 #[.int .i64 x.1] W fun e w' => e = .returned (.string ⟨(Lib.itoa x.1).toArray⟩) ∧ Below W.heap.size W w' := fun W =>
        num42_any x.1 W hox.2.1 hox.2.2
      have hs1 : (⟨(Lib.itoa x.1).toArray⟩ : ByteArray).size ≤ 21 := by
        have := Lib.itoa_length_le x.1 hox.2.1 hox.2.2
        show (Lib.itoa x.1).toArray.size ≤ 21
        simpa using this
      have hs2 : x.2.size ≤ 100 := hox.1
      have hfl : (⟨(fmtAll (L.take k)).toArray⟩ : ByteArray).size ≤ 124 * 40 := by
        have h1 := fmtAll_len (L.take k) (fun y hy => HO.out y (List.mem_of_mem_take hy))
        have h2 : (L.take k).length ≤ k := List.length_take_le _ _
        show (fmtAll (L.take k)).toArray.size ≤ 124 * 40
        simp only [List.size_toArray]
        omega
      obtain ⟨S1, hS1⟩ : ∃ S1 : ByteArray, S1 = ⟨(Lib.itoa x.1).toArray⟩ := ⟨_, rfl⟩
      obtain ⟨T, hT⟩ : ∃ T : ByteArray, T = ⟨(fmtAll (L.take k)).toArray⟩ := ⟨_, rfl⟩
      rw [← hS1] at cI hs1
      rw [← hT] at hfl ⊢
      have CI := Lib.hid cI
      have HS := Lib.hid hS1
      have HT := Lib.hid hT
      clear hS1 hT cI hox
      have hsz := hb.size
      go_wp2
      go_region_with (first | (go_at_call 42; refine (CI.out _).mono ?_; rintro e w1 ⟨rfl, hb1⟩; have q1 : w1.cell? ⟨wr.heap.size, 1, none⟩ = some (.string x.2) := (hb1.cell (p := ⟨wr.heap.size, 1, none⟩) (by simp)).trans (by simp)))
      all_goals
        go_wp2
        go_roundw
        case rel =>
          refine ⟨k + 1, by omega, by go_num, ?_, hbA.drew.trans (hb1.mono (by simp; omega))⟩
          rw [← text_snoc L k x S1 T HX.out HS.out HT.out]
        case measure => simp [intOf]; omega
    · obtain rfl : k = L.length := by omega
      have hT : L.take L.length = L := List.take_length
      rw [hT]
      clear hT hlt
      go_wp2
      go_ret
      exact ⟨rfl, hb⟩
end Go.Proofs.YtjhhdklbiibhdaaGreatDoor
