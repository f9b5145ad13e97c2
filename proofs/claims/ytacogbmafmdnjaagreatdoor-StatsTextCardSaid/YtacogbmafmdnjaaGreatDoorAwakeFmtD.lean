/-
  What stats.Format answers in this program, for every ten numbers.
-/
import Derived.Test.YtacogbmafmdnjaaGreatDoorAwakeFmtC
namespace Go.Proofs.YtacogbmafmdnjaaGreatDoor
open Go Go.RowKit

theorem len_step {l : List UInt8} {k : Nat} (h : l.length ≤ k) (nm : ByteArray) (v : Int) (hn : nm.size ≤ 20) (hv : okI v) : (l ++ piece nm v).length ≤ k + 43 := by
  have h1 := Lib.itoa_length_le v hv.1 hv.2
  have h2 : nm.data.toList.length = nm.size := by simp
  unfold piece
  split
  · simp; omega
  · simp only [List.length_append, List.length_cons, List.length_nil]
    omega

set_option maxHeartbeats 4000000 in
set_option maxRecDepth 100000 in
theorem format_any (a0 a1 a2 a3 a4 a5 a6 a7 a8 a9 : Int) (w : World) (o0 : okI a0) (o1 : okI a1) (o2 : okI a2) (o3 : okI a3) (o4 : okI a4) (o5 : okI a5) (o6 : okI a6) (o7 : okI a7) (o8 : okI a8) (o9 : okI a9) (htab : Lib.TabIs Tryz.prog w "internal/strconv.uint64pow10" .u64 Lib.pow10Tab) :
    Calls Tryz.prog 25 #[.agg #[.int .i64 a0, .int .i64 a1, .int .i64 a2, .int .i64 a3, .int .i64 a4, .int .i64 a5, .int .i64 a6, .int .i64 a7, .int .i64 a8, .int .i64 a9]] w fun e w' => e = .returned (.string ⟨((piece ⟨#[99, 97, 108, 108, 115]⟩ a0 ++ (piece ⟨#[104, 97, 110, 103, 117, 112, 115]⟩ a1 ++ (piece ⟨#[99, 108, 111, 115, 101, 100]⟩ a2 ++ (piece ⟨#[97, 112, 112, 108, 105, 101, 100]⟩ a3 ++ (piece ⟨#[111, 114, 100, 101, 114, 115]⟩ a4 ++ (piece ⟨#[100, 111, 119, 110, 115]⟩ a5 ++ (piece ⟨#[116, 97, 107, 101, 111, 118, 101, 114, 115]⟩ a6 ++ (piece ⟨#[116, 111, 116, 97, 108, 119, 97, 105, 116]⟩ a7 ++ (piece ⟨#[119, 111, 114, 115, 116, 119, 97, 105, 116]⟩ a8 ++ piece ⟨#[117, 110, 105, 116, 115]⟩ a9)))))))))).toArray⟩) ∧ Below w.heap.size w w' := by
  obtain ⟨w0, hw0⟩ : ∃ w0 : World, w0 = ((w.alloc (.cells #[.int .i64 a0, .int .i64 a1, .int .i64 a2, .int .i64 a3, .int .i64 a4, .int .i64 a5, .int .i64 a6, .int .i64 a7, .int .i64 a8, .int .i64 a9] 35)).alloc (.cells #[.pointer none, .slice none 0 0] 123)) := ⟨_, rfl⟩
  have hW : Below w.heap.size w w0 := by rw [hw0]; exact ((Below.refl _ w).alloc (Nat.le_refl _) _).alloc (by simp) _
  have hI0 : Lib.IsBuilder 123 5 (w.heap.size + 1) (w.heap.size + 1) (Lib.byteCells []) w0 := by
    rw [hw0]
    have := Lib.fresh_isBuilder 123 5 (w.alloc (.cells #[.int .i64 a0, .int .i64 a1, .int .i64 a2, .int .i64 a3, .int .i64 a4, .int .i64 a5, .int .i64 a6, .int .i64 a7, .int .i64 a8, .int .i64 a9] 35))
    have e : (Lib.byteCells []) = [] := rfl
    rw [e]
    simpa using this
  have hz0 : w.heap.size + 1 ≤ w0.heap.size := by rw [hw0]; simp
  have hB0 : Below (w.heap.size + 1) w0 w0 := Below.refl _ _
  have HC0 := Lib.hid (show w0.cell? ⟨w.heap.size, 0, none⟩ = some (.int .i64 a0) by rw [hw0]; simp)
  have HC1 := Lib.hid (show w0.cell? ⟨w.heap.size, 1, none⟩ = some (.int .i64 a1) by rw [hw0]; simp)
  have HC2 := Lib.hid (show w0.cell? ⟨w.heap.size, 2, none⟩ = some (.int .i64 a2) by rw [hw0]; simp)
  have HC3 := Lib.hid (show w0.cell? ⟨w.heap.size, 3, none⟩ = some (.int .i64 a3) by rw [hw0]; simp)
  have HC4 := Lib.hid (show w0.cell? ⟨w.heap.size, 4, none⟩ = some (.int .i64 a4) by rw [hw0]; simp)
  have HC5 := Lib.hid (show w0.cell? ⟨w.heap.size, 5, none⟩ = some (.int .i64 a5) by rw [hw0]; simp)
  have HC6 := Lib.hid (show w0.cell? ⟨w.heap.size, 6, none⟩ = some (.int .i64 a6) by rw [hw0]; simp)
  have HC7 := Lib.hid (show w0.cell? ⟨w.heap.size, 7, none⟩ = some (.int .i64 a7) by rw [hw0]; simp)
  have HC8 := Lib.hid (show w0.cell? ⟨w.heap.size, 8, none⟩ = some (.int .i64 a8) by rw [hw0]; simp)
  have HC9 := Lib.hid (show w0.cell? ⟨w.heap.size, 9, none⟩ = some (.int .i64 a9) by rw [hw0]; simp)
  have HI0 := Lib.hid hI0
  have HN0 := Lib.hid (show ([] : List UInt8).length ≤ 0 from Nat.le_refl _)
  have HT := Lib.hid htab
  have HW := Lib.hid hw0
  clear hI0 htab hw0
  go_enter Tryz.func25, Tryz.ntmps25
  go_wp2_with fail
  rw [← HW.out]
  refine (line_any (w.heap.size + 1) (w.heap.size + 1) _ ⟨#[99, 97, 108, 108, 115]⟩ a0 _ HI0.out (Nat.le_trans HN0.out (by decide)) (by decide) o0 hz0 (tab_below HT.out (hW.trans (hB0.mono (Nat.le_succ _))))).mono ?_
  rintro e w1 ⟨rfl, hI1, hb1⟩
  have hB1 := hB0.trans hb1
  have hz1 : w.heap.size + 1 ≤ w1.heap.size := Nat.le_trans hz0 hb1.size
  have HN1 := Lib.hid (len_step HN0.out ⟨#[99, 97, 108, 108, 115]⟩ a0 (by decide) o0)
  have HI1 := Lib.hid hI1
  clear hI1
  have hc1 : w1.cell? ⟨w.heap.size, 1, none⟩ = some (.int .i64 a1) := (hB1.cell (p := ⟨w.heap.size, 1, none⟩) (by simp)).trans HC1.out
  go_wp2_with fail
  refine (line_any (w.heap.size + 1) (w.heap.size + 1) _ ⟨#[104, 97, 110, 103, 117, 112, 115]⟩ a1 _ HI1.out (Nat.le_trans HN1.out (by decide)) (by decide) o1 hz1 (tab_below HT.out (hW.trans (hB1.mono (Nat.le_succ _))))).mono ?_
  rintro e w2 ⟨rfl, hI2, hb2⟩
  have hB2 := hB1.trans hb2
  have hz2 : w.heap.size + 1 ≤ w2.heap.size := Nat.le_trans hz1 hb2.size
  have HN2 := Lib.hid (len_step HN1.out ⟨#[104, 97, 110, 103, 117, 112, 115]⟩ a1 (by decide) o1)
  have HI2 := Lib.hid hI2
  clear hI2 hc1
  have hc2 : w2.cell? ⟨w.heap.size, 2, none⟩ = some (.int .i64 a2) := (hB2.cell (p := ⟨w.heap.size, 2, none⟩) (by simp)).trans HC2.out
  go_wp2_with fail
  refine (line_any (w.heap.size + 1) (w.heap.size + 1) _ ⟨#[99, 108, 111, 115, 101, 100]⟩ a2 _ HI2.out (Nat.le_trans HN2.out (by decide)) (by decide) o2 hz2 (tab_below HT.out (hW.trans (hB2.mono (Nat.le_succ _))))).mono ?_
  rintro e w3 ⟨rfl, hI3, hb3⟩
  have hB3 := hB2.trans hb3
  have hz3 : w.heap.size + 1 ≤ w3.heap.size := Nat.le_trans hz2 hb3.size
  have HN3 := Lib.hid (len_step HN2.out ⟨#[99, 108, 111, 115, 101, 100]⟩ a2 (by decide) o2)
  have HI3 := Lib.hid hI3
  clear hI3 hc2
  have hc3 : w3.cell? ⟨w.heap.size, 3, none⟩ = some (.int .i64 a3) := (hB3.cell (p := ⟨w.heap.size, 3, none⟩) (by simp)).trans HC3.out
  go_wp2_with fail
  refine (line_any (w.heap.size + 1) (w.heap.size + 1) _ ⟨#[97, 112, 112, 108, 105, 101, 100]⟩ a3 _ HI3.out (Nat.le_trans HN3.out (by decide)) (by decide) o3 hz3 (tab_below HT.out (hW.trans (hB3.mono (Nat.le_succ _))))).mono ?_
  rintro e w4 ⟨rfl, hI4, hb4⟩
  have hB4 := hB3.trans hb4
  have hz4 : w.heap.size + 1 ≤ w4.heap.size := Nat.le_trans hz3 hb4.size
  have HN4 := Lib.hid (len_step HN3.out ⟨#[97, 112, 112, 108, 105, 101, 100]⟩ a3 (by decide) o3)
  have HI4 := Lib.hid hI4
  clear hI4 hc3
  have hc4 : w4.cell? ⟨w.heap.size, 4, none⟩ = some (.int .i64 a4) := (hB4.cell (p := ⟨w.heap.size, 4, none⟩) (by simp)).trans HC4.out
  go_wp2_with fail
  refine (line_any (w.heap.size + 1) (w.heap.size + 1) _ ⟨#[111, 114, 100, 101, 114, 115]⟩ a4 _ HI4.out (Nat.le_trans HN4.out (by decide)) (by decide) o4 hz4 (tab_below HT.out (hW.trans (hB4.mono (Nat.le_succ _))))).mono ?_
  rintro e w5 ⟨rfl, hI5, hb5⟩
  have hB5 := hB4.trans hb5
  have hz5 : w.heap.size + 1 ≤ w5.heap.size := Nat.le_trans hz4 hb5.size
  have HN5 := Lib.hid (len_step HN4.out ⟨#[111, 114, 100, 101, 114, 115]⟩ a4 (by decide) o4)
  have HI5 := Lib.hid hI5
  clear hI5 hc4
  have hc5 : w5.cell? ⟨w.heap.size, 5, none⟩ = some (.int .i64 a5) := (hB5.cell (p := ⟨w.heap.size, 5, none⟩) (by simp)).trans HC5.out
  go_wp2_with fail
  refine (line_any (w.heap.size + 1) (w.heap.size + 1) _ ⟨#[100, 111, 119, 110, 115]⟩ a5 _ HI5.out (Nat.le_trans HN5.out (by decide)) (by decide) o5 hz5 (tab_below HT.out (hW.trans (hB5.mono (Nat.le_succ _))))).mono ?_
  rintro e w6 ⟨rfl, hI6, hb6⟩
  have hB6 := hB5.trans hb6
  have hz6 : w.heap.size + 1 ≤ w6.heap.size := Nat.le_trans hz5 hb6.size
  have HN6 := Lib.hid (len_step HN5.out ⟨#[100, 111, 119, 110, 115]⟩ a5 (by decide) o5)
  have HI6 := Lib.hid hI6
  clear hI6 hc5
  have hc6 : w6.cell? ⟨w.heap.size, 6, none⟩ = some (.int .i64 a6) := (hB6.cell (p := ⟨w.heap.size, 6, none⟩) (by simp)).trans HC6.out
  go_wp2_with fail
  refine (line_any (w.heap.size + 1) (w.heap.size + 1) _ ⟨#[116, 97, 107, 101, 111, 118, 101, 114, 115]⟩ a6 _ HI6.out (Nat.le_trans HN6.out (by decide)) (by decide) o6 hz6 (tab_below HT.out (hW.trans (hB6.mono (Nat.le_succ _))))).mono ?_
  rintro e w7 ⟨rfl, hI7, hb7⟩
  have hB7 := hB6.trans hb7
  have hz7 : w.heap.size + 1 ≤ w7.heap.size := Nat.le_trans hz6 hb7.size
  have HN7 := Lib.hid (len_step HN6.out ⟨#[116, 97, 107, 101, 111, 118, 101, 114, 115]⟩ a6 (by decide) o6)
  have HI7 := Lib.hid hI7
  clear hI7 hc6
  have hc7 : w7.cell? ⟨w.heap.size, 7, none⟩ = some (.int .i64 a7) := (hB7.cell (p := ⟨w.heap.size, 7, none⟩) (by simp)).trans HC7.out
  go_wp2_with fail
  refine (line_any (w.heap.size + 1) (w.heap.size + 1) _ ⟨#[116, 111, 116, 97, 108, 119, 97, 105, 116]⟩ a7 _ HI7.out (Nat.le_trans HN7.out (by decide)) (by decide) o7 hz7 (tab_below HT.out (hW.trans (hB7.mono (Nat.le_succ _))))).mono ?_
  rintro e w8 ⟨rfl, hI8, hb8⟩
  have hB8 := hB7.trans hb8
  have hz8 : w.heap.size + 1 ≤ w8.heap.size := Nat.le_trans hz7 hb8.size
  have HN8 := Lib.hid (len_step HN7.out ⟨#[116, 111, 116, 97, 108, 119, 97, 105, 116]⟩ a7 (by decide) o7)
  have HI8 := Lib.hid hI8
  clear hI8 hc7
  have hc8 : w8.cell? ⟨w.heap.size, 8, none⟩ = some (.int .i64 a8) := (hB8.cell (p := ⟨w.heap.size, 8, none⟩) (by simp)).trans HC8.out
  go_wp2_with fail
  refine (line_any (w.heap.size + 1) (w.heap.size + 1) _ ⟨#[119, 111, 114, 115, 116, 119, 97, 105, 116]⟩ a8 _ HI8.out (Nat.le_trans HN8.out (by decide)) (by decide) o8 hz8 (tab_below HT.out (hW.trans (hB8.mono (Nat.le_succ _))))).mono ?_
  rintro e w9 ⟨rfl, hI9, hb9⟩
  have hB9 := hB8.trans hb9
  have hz9 : w.heap.size + 1 ≤ w9.heap.size := Nat.le_trans hz8 hb9.size
  have HN9 := Lib.hid (len_step HN8.out ⟨#[119, 111, 114, 115, 116, 119, 97, 105, 116]⟩ a8 (by decide) o8)
  have HI9 := Lib.hid hI9
  clear hI9 hc8
  have hc9 : w9.cell? ⟨w.heap.size, 9, none⟩ = some (.int .i64 a9) := (hB9.cell (p := ⟨w.heap.size, 9, none⟩) (by simp)).trans HC9.out
  go_wp2_with fail
  refine (line_any (w.heap.size + 1) (w.heap.size + 1) _ ⟨#[117, 110, 105, 116, 115]⟩ a9 _ HI9.out (Nat.le_trans HN9.out (by decide)) (by decide) o9 hz9 (tab_below HT.out (hW.trans (hB9.mono (Nat.le_succ _))))).mono ?_
  rintro e w10 ⟨rfl, hI10, hb10⟩
  have hB10 := hB9.trans hb10
  have hz10 : w.heap.size + 1 ≤ w10.heap.size := Nat.le_trans hz9 hb10.size
  have HN10 := Lib.hid (len_step HN9.out ⟨#[117, 110, 105, 116, 115]⟩ a9 (by decide) o9)
  have HI10 := Lib.hid hI10
  clear hI10 hc9
  go_wp2_with (go_at_call 46; refine (Tryz.Builder_String_any (w.heap.size + 1) (w.heap.size + 1) _ _ HI10.out hz10).mono ?_; rintro e w11 ⟨rfl, hb11⟩)
  go_ret
  exact ⟨rfl, hW.trans ((hB10.trans hb11).mono (Nat.le_succ _))⟩
end Go.Proofs.YtacogbmafmdnjaaGreatDoor
