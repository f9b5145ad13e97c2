/-
  StatsText of samaritanlaw55 answers true for every sum, where its example does.
-/
import Derived.Test.YtacogbmafmdnjaaGreatDoorAwakeFmtD
import Derived.Test.YtacogbmafmdnjaaGreatDoorAwakeFmtF
namespace Go.Proofs.YtacogbmafmdnjaaGreatDoor
open Go Go.RowKit

theorem txt_eq (a0 a1 a2 a3 a4 a5 a6 a7 a8 a9 : Int) : txt [a0, a1, a2, a3, a4, a5, a6, a7, a8, a9] 10 = (piece ⟨#[99, 97, 108, 108, 115]⟩ a0 ++ (piece ⟨#[104, 97, 110, 103, 117, 112, 115]⟩ a1 ++ (piece ⟨#[99, 108, 111, 115, 101, 100]⟩ a2 ++ (piece ⟨#[97, 112, 112, 108, 105, 101, 100]⟩ a3 ++ (piece ⟨#[111, 114, 100, 101, 114, 115]⟩ a4 ++ (piece ⟨#[100, 111, 119, 110, 115]⟩ a5 ++ (piece ⟨#[116, 97, 107, 101, 111, 118, 101, 114, 115]⟩ a6 ++ (piece ⟨#[116, 111, 116, 97, 108, 119, 97, 105, 116]⟩ a7 ++ (piece ⟨#[119, 111, 114, 115, 116, 119, 97, 105, 116]⟩ a8 ++ piece ⟨#[117, 110, 105, 116, 115]⟩ a9))))))))) := by
  simp [txt, nms]

/-- the sum's cells -/
def Boxed10 (w : World) (b : Nat) (a0 a1 a2 a3 a4 a5 a6 a7 a8 a9 : Int) : Prop := w.cell? ⟨b, 0, none⟩ = some (.int .i64 a0) ∧ w.cell? ⟨b, 1, none⟩ = some (.int .i64 a1) ∧ w.cell? ⟨b, 2, none⟩ = some (.int .i64 a2) ∧ w.cell? ⟨b, 3, none⟩ = some (.int .i64 a3) ∧ w.cell? ⟨b, 4, none⟩ = some (.int .i64 a4) ∧ w.cell? ⟨b, 5, none⟩ = some (.int .i64 a5) ∧ w.cell? ⟨b, 6, none⟩ = some (.int .i64 a6) ∧ w.cell? ⟨b, 7, none⟩ = some (.int .i64 a7) ∧ w.cell? ⟨b, 8, none⟩ = some (.int .i64 a8) ∧ w.cell? ⟨b, 9, none⟩ = some (.int .i64 a9)
theorem boxed_below {W W' : World} {b : Nat} {a0 a1 a2 a3 a4 a5 a6 a7 a8 a9 : Int} (h : Boxed10 W b a0 a1 a2 a3 a4 a5 a6 a7 a8 a9) (hb : Below W.heap.size W W') (hlt : b < W.heap.size) : Boxed10 W' b a0 a1 a2 a3 a4 a5 a6 a7 a8 a9 := by
  obtain ⟨h0, h1, h2, h3, h4, h5, h6, h7, h8, h9⟩ := h
  exact ⟨(hb.cell (p := ⟨b, 0, none⟩) hlt).trans h0, (hb.cell (p := ⟨b, 1, none⟩) hlt).trans h1, (hb.cell (p := ⟨b, 2, none⟩) hlt).trans h2, (hb.cell (p := ⟨b, 3, none⟩) hlt).trans h3, (hb.cell (p := ⟨b, 4, none⟩) hlt).trans h4, (hb.cell (p := ⟨b, 5, none⟩) hlt).trans h5, (hb.cell (p := ⟨b, 6, none⟩) hlt).trans h6, (hb.cell (p := ⟨b, 7, none⟩) hlt).trans h7, (hb.cell (p := ⟨b, 8, none⟩) hlt).trans h8, (hb.cell (p := ⟨b, 9, none⟩) hlt).trans h9⟩

set_option maxHeartbeats 4000000 in
set_option maxRecDepth 100000 in
theorem law_any (a0 a1 a2 a3 a4 a5 a6 a7 a8 a9 : Int) (w : World) (o0 : okI a0) (o1 : okI a1) (o2 : okI a2) (o3 : okI a3) (o4 : okI a4) (o5 : okI a5) (o6 : okI a6) (o7 : okI a7) (o8 : okI a8) (o9 : okI a9) (htab : Lib.TabIs Tryz.prog w "internal/strconv.uint64pow10" .u64 Lib.pow10Tab)
    (haw : ∀ W : World, Below w.heap.size w W → Calls Tryz.prog 9 #[] W fun e w' => e = .returned (.bool true) ∧ Below W.heap.size W w') :
    Calls Tryz.prog 8 #[.agg #[.int .i64 a0, .int .i64 a1, .int .i64 a2, .int .i64 a3, .int .i64 a4, .int .i64 a5, .int .i64 a6, .int .i64 a7, .int .i64 a8, .int .i64 a9]] w fun e w' => e = .returned (.bool true) ∧ Below w.heap.size w w' := by
  have cF : ∀ W : World, Below w.heap.size w W → Calls Tryz.prog 25 #[.agg #[.int .i64 a0, .int .i64 a1, .int .i64 a2, .int .i64 a3, .int .i64 a4, .int .i64 a5, .int .i64 a6, .int .i64 a7, .int .i64 a8, .int .i64 a9]] W fun e w' => e = .returned (.string ⟨((piece ⟨#[99, 97, 108, 108, 115]⟩ a0 ++ (piece ⟨#[104, 97, 110, 103, 117, 112, 115]⟩ a1 ++ (piece ⟨#[99, 108, 111, 115, 101, 100]⟩ a2 ++ (piece ⟨#[97, 112, 112, 108, 105, 101, 100]⟩ a3 ++ (piece ⟨#[111, 114, 100, 101, 114, 115]⟩ a4 ++ (piece ⟨#[100, 111, 119, 110, 115]⟩ a5 ++ (piece ⟨#[116, 97, 107, 101, 111, 118, 101, 114, 115]⟩ a6 ++ (piece ⟨#[116, 111, 116, 97, 108, 119, 97, 105, 116]⟩ a7 ++ (piece ⟨#[119, 111, 114, 115, 116, 119, 97, 105, 116]⟩ a8 ++ piece ⟨#[117, 110, 105, 116, 115]⟩ a9)))))))))).toArray⟩) ∧ Below W.heap.size W w' := fun W hW => format_any a0 a1 a2 a3 a4 a5 a6 a7 a8 a9 W o0 o1 o2 o3 o4 o5 o6 o7 o8 o9 (tab_below htab hW)
  have cT : ∀ W : World, Calls Tryz.prog 26 #[.agg #[.int .i64 a0, .int .i64 a1, .int .i64 a2, .int .i64 a3, .int .i64 a4, .int .i64 a5, .int .i64 a6, .int .i64 a7, .int .i64 a8, .int .i64 a9]] W fun e w' => e = .returned (.string ⟨((piece ⟨#[99, 97, 108, 108, 115]⟩ a0 ++ (piece ⟨#[104, 97, 110, 103, 117, 112, 115]⟩ a1 ++ (piece ⟨#[99, 108, 111, 115, 101, 100]⟩ a2 ++ (piece ⟨#[97, 112, 112, 108, 105, 101, 100]⟩ a3 ++ (piece ⟨#[111, 114, 100, 101, 114, 115]⟩ a4 ++ (piece ⟨#[100, 111, 119, 110, 115]⟩ a5 ++ (piece ⟨#[116, 97, 107, 101, 111, 118, 101, 114, 115]⟩ a6 ++ (piece ⟨#[116, 111, 116, 97, 108, 119, 97, 105, 116]⟩ a7 ++ (piece ⟨#[119, 111, 114, 115, 116, 119, 97, 105, 116]⟩ a8 ++ piece ⟨#[117, 110, 105, 116, 115]⟩ a9)))))))))).toArray⟩) ∧ Below W.heap.size W w' := fun W => by
    rw [← txt_eq]
    exact text_any a0 a1 a2 a3 a4 a5 a6 a7 a8 a9 _ rfl W (fun v hv => by
      simp only [List.mem_cons, List.not_mem_nil, or_false] at hv
      rcases hv with rfl | rfl | rfl | rfl | rfl | rfl | rfl | rfl | rfl | rfl
      · exact o0
      · exact o1
      · exact o2
      · exact o3
      · exact o4
      · exact o5
      · exact o6
      · exact o7
      · exact o8
      · exact o9)
  generalize (⟨((piece ⟨#[99, 97, 108, 108, 115]⟩ a0 ++ (piece ⟨#[104, 97, 110, 103, 117, 112, 115]⟩ a1 ++ (piece ⟨#[99, 108, 111, 115, 101, 100]⟩ a2 ++ (piece ⟨#[97, 112, 112, 108, 105, 101, 100]⟩ a3 ++ (piece ⟨#[111, 114, 100, 101, 114, 115]⟩ a4 ++ (piece ⟨#[100, 111, 119, 110, 115]⟩ a5 ++ (piece ⟨#[116, 97, 107, 101, 111, 118, 101, 114, 115]⟩ a6 ++ (piece ⟨#[116, 111, 116, 97, 108, 119, 97, 105, 116]⟩ a7 ++ (piece ⟨#[119, 111, 114, 115, 116, 119, 97, 105, 116]⟩ a8 ++ piece ⟨#[117, 110, 105, 116, 115]⟩ a9)))))))))).toArray⟩ : ByteArray) = F at cF cT
  have CF := Lib.hid cF
  have CT := Lib.hid cT
  have HA := Lib.hid haw
  clear cF cT haw htab o0 o1 o2 o3 o4 o5 o6 o7 o8 o9
  have hbA : Below w.heap.size w (w.alloc (.cells #[.int .i64 a0, .int .i64 a1, .int .i64 a2, .int .i64 a3, .int .i64 a4, .int .i64 a5, .int .i64 a6, .int .i64 a7, .int .i64 a8, .int .i64 a9] 35)) := (Below.refl _ w).alloc (Nat.le_refl _) _
  have hx0 : Boxed10 (w.alloc (.cells #[.int .i64 a0, .int .i64 a1, .int .i64 a2, .int .i64 a3, .int .i64 a4, .int .i64 a5, .int .i64 a6, .int .i64 a7, .int .i64 a8, .int .i64 a9] 35)) w.heap.size a0 a1 a2 a3 a4 a5 a6 a7 a8 a9 := by simp [Boxed10]
  have HX := Lib.hid hx0
  clear hx0
  go_enter Tryz.func8, Tryz.ntmps8
  go_wp2_with (go_at_call 9; refine (HA.out _ hbA).mono ?_; rintro e w1 ⟨rfl, hb1⟩)
  have hx1 := boxed_below HX.out hb1 (by simp)
  have hbB : Below w.heap.size w w1 := hbA.trans (hb1.mono (by simp))
  have HZ1 := Lib.hid (show w.heap.size < w1.heap.size by have := hb1.size; simp at this; omega)
  have HX1 := Lib.hid hx1
  obtain ⟨c0, c1, c2, c3, c4, c5, c6, c7, c8, c9⟩ := hx1
  go_region_with (first
    | (go_at_call 25; refine (CF.out _ ?_).mono ?_; (first | exact hbB | exact hbB.drew | exact hbB4); rintro e w2 ⟨rfl, hb2⟩; have HX2 := Lib.hid (by first | exact boxed_below (W := w1.drew) HX1.out hb2 HZ1.out | exact boxed_below HX4.out hb2 HZ4.out : Boxed10 w2 w.heap.size a0 a1 a2 a3 a4 a5 a6 a7 a8 a9); have hbB2 : Below w.heap.size w w2 := (by first | exact hbB.drew.trans (hb2.mono hbB.size) | exact hbB4.trans (hb2.mono hbB4.size)); have HZ2 := Lib.hid (show w.heap.size < w2.heap.size from Nat.lt_of_lt_of_le (by first | exact HZ1.out | exact HZ4.out) hb2.size); obtain ⟨d0, d1, d2, d3, d4, d5, d6, d7, d8, d9⟩ := HX2.out)
    | (go_at_call 12; refine (sum_any _ _ _ _ _ _ _ _ _ _ _).mono ?_; rintro e w3 ⟨rfl, hb3⟩; have HX3 := Lib.hid (by first | exact boxed_below (W := w1.drew) HX1.out hb3 HZ1.out | exact boxed_below HX2.out hb3 HZ2.out : Boxed10 w3 w.heap.size a0 a1 a2 a3 a4 a5 a6 a7 a8 a9); have hbB3 : Below w.heap.size w w3 := (by first | exact hbB.drew.trans (hb3.mono hbB.size) | exact hbB2.trans (hb3.mono hbB2.size)); have HZ3 := Lib.hid (show w.heap.size < w3.heap.size from Nat.lt_of_lt_of_le (by first | exact HZ1.out | exact HZ2.out) hb3.size); obtain ⟨e0, e1, e2, e3, e4, e5, e6, e7, e8, e9⟩ := HX3.out)
    | (go_at_call 26; refine (CT.out _).mono ?_; rintro e w4 ⟨rfl, hb4⟩; have hbB4 : Below w.heap.size w w4 := (by first | exact hbB3.trans (hb4.mono hbB3.size) | exact hbB2.trans (hb4.mono hbB2.size)); have HX4 := Lib.hid (by first | exact boxed_below HX3.out hb4 HZ3.out | exact boxed_below HX2.out hb4 HZ2.out : Boxed10 w4 w.heap.size a0 a1 a2 a3 a4 a5 a6 a7 a8 a9); have HZ4 := Lib.hid (show w.heap.size < w4.heap.size from Nat.lt_of_lt_of_le (by first | exact HZ3.out | exact HZ2.out) hb4.size); obtain ⟨f0, f1, f2, f3, f4, f5, f6, f7, f8, f9⟩ := HX4.out))
  all_goals
    go_wp2
    go_ret
    exact ⟨rfl, by first | exact hbB4 | exact hbB2⟩
end Go.Proofs.YtacogbmafmdnjaaGreatDoor
