/-
  CalltakerStaleOffers where a number is out of range, where more than ten are said, and where the sources are too many; what samaritanref11.Small answers.
-/
import Derived.Test.YtnfmgkkhejminaaGreatDoorStAckS
namespace Go.Proofs.YtnfmgkkhejminaaGreatDoor
open Go Go.RowKit Wi
theorem bytes_open {w1 w' : World} {l : List UInt8} {e : Ending} (h : BytesRet w1 l e w') (hl : l ≠ []) : ∃ g cap, e = .returned (.slice (some ⟨g, 0, none⟩) l.length cap) ∧ g < w'.heap.size ∧ (∀ k, k < l.length → w'.cell? ⟨g, k, none⟩ = some (.int .u8 (l.getD k 0).toNat)) ∧ Below w1.heap.size w1 w' := by
  obtain ⟨v, rfl, h1, h2⟩ := h
  rcases h1.2 with ⟨_, h3⟩ | ⟨g, cap, cur, hv, hg, hh, h4, h5, h6, h7⟩
  · exact absurd (List.eq_nil_of_length_eq_zero h3) hl
  · refine ⟨g, cap, by rw [hv], (Array.getElem?_eq_some_iff.1 hh).1, fun k hk => ?_, h2⟩
    have e1 : cur[k]? = (Lib.byteCells l)[k]? := by
      rw [← h7, List.getElem?_take, if_pos (by omega)]
      simp
    simp only [World.cell?, hh]
    rw [e1]
    simp [Lib.byteCells, hk]
theorem IntsIn.below {w W : World} {A : Option Addr} {l : List Int} (h : IntsIn w A l) (hb : Below w.heap.size w W) : IntsIn W A l := fun k hk => by
  obtain ⟨b, off, rfl, h1, h2⟩ := h k hk
  exact ⟨b, off, rfl, Nat.lt_of_lt_of_le h1 hb.size, by rw [hb.cell (p := ⟨b, off + k, none⟩) h1]; exact h2⟩
def True1 (w : World) (e : Ending) (w' : World) : Prop := e = .returned (.bool true) ∧ Below w.heap.size w w'
def StartRet (w : World) (e : Ending) (w' : World) : Prop := ∃ d o x o', e = .returned (.tuple #[.pointer (some ⟨d, o, none⟩), .pointer (some ⟨x, o', none⟩), .bool true]) ∧ d < w'.heap.size ∧ w'.cell? ⟨d, o + 1, none⟩ = some (.int .i64 3) ∧ Below w.heap.size w w'
theorem past_alloc {W2 W3 : World} {ob : Obj} {d o : Nat} {v : Value} (hb : Below (W2.alloc ob).heap.size (W2.alloc ob) W3) (hd : d < W2.heap.size) (h : W2.cell? ⟨d, o, none⟩ = some v) : W3.cell? ⟨d, o, none⟩ = some v := by
  have h1 : Below W2.heap.size W2 (W2.alloc ob) := (Below.refl _ W2).alloc (Nat.le_refl _) ob
  rw [hb.cell (p := ⟨d, o, none⟩) (Nat.lt_of_lt_of_le hd h1.size), h1.cell (p := ⟨d, o, none⟩) hd]
  exact h
theorem past_size {W2 W3 : World} {ob : Obj} {d : Nat} (hb : Below (W2.alloc ob).heap.size (W2.alloc ob) W3) (hd : d < W2.heap.size) : d < W3.heap.size :=
  Nat.lt_of_lt_of_le hd (Nat.le_trans ((Below.refl _ W2).alloc (Nat.le_refl _) ob).size hb.size)
theorem past_cell {W2 X W3 : World} {d o : Nat} {v : Value} (hX : Below W2.heap.size W2 X) (hb : Below X.heap.size X W3) (hd : d < W2.heap.size) (h : W2.cell? ⟨d, o, none⟩ = some v) : W3.cell? ⟨d, o, none⟩ = some v := by
  rw [hb.cell (p := ⟨d, o, none⟩) (Nat.lt_of_lt_of_le hd hX.size), hX.cell (p := ⟨d, o, none⟩) hd]
  exact h
set_option maxHeartbeats 8000000 in
set_option maxRecDepth 100000 in
theorem law_bad (A : Option Addr) (n c : Nat) (l : List Int) (now : Int) (w : World) (hn : n = l.length) (hmax : n ≤ 10) (hS : IntsIn w A l) (hI : ∀ x ∈ l, I64 x) (hbad : ∃ x ∈ l, ¬ (0 ≤ x ∧ x ≤ 15))
    (hwk : ∀ W, Below w.heap.size w W → Calls Tryz.prog 5 #[] W (True1 W)) (hst : ∀ W, Below w.heap.size w W → Calls Tryz.prog 7 #[] W (StartRet W)) : Calls Tryz.prog 4 #[.slice A n c, .bool false, .int .i64 now] w (True1 w) := by
  have HBY := Lib.hid (show ∀ W, Below w.heap.size w W → Calls Tryz.prog 12 #[.agg #[.int .i64 7, .int .i64 2, .int .i64 (-1), .int .i64 0, .int .i64 1, .string ⟨#[109, 97, 105, 110]⟩, .int .i64 1, .slice A n c]] W (BytesRet W (lineL 2 (-1) l)) from fun W hW => by
    rw [hn, ← cat_line]
    exact refBytes 7 2 (-1) 0 1 1 ⟨#[109, 97, 105, 110]⟩ A c l W (by constructor <;> decide) (by constructor <;> decide) (by constructor <;> decide) (by constructor <;> decide) (by constructor <;> decide) (by constructor <;> decide) (by decide) (hS.below hW) (by omega) hI)
  have HOF := Lib.hid (fun (d o g N cap : Nat) (W : World) => offer_bad d o g n N cap 2 (-1) l W (.inl ⟨rfl, rfl⟩) hn hmax hI hbad)
  have hne : lineL 2 (-1) l ≠ [] := by
    intro h
    have h1 : 0 < (encI 7).length := venc_pos _
    have h2 := congrArg List.length h
    unfold lineL at h2
    rw [List.length_append] at h2
    simp only [List.length_nil] at h2
    omega
  have HNE := Lib.hid hne
  have HWK := Lib.hid hwk
  have HST := Lib.hid hst
  obtain ⟨B, hB⟩ : ∃ B, B = lineL 2 (-1) l := ⟨_, rfl⟩
  rw [← hB] at HBY HOF HNE
  clear hn hS hI hbad hwk hst hne hB
  go_enter Tryz.func4, Tryz.ntmps4
  go_wp2_with (first
    | (go_at_call 5; go_loud (refine (HWK.out _ (Below.refl _ _)).mono ?_; rintro e W1 ⟨rfl, hb1⟩))
    | (go_at_call 7; go_loud (refine (HST.out _ hb1).mono ?_; rintro e W2 ⟨d, o, x, o', rfl, hds, hdc, hb2⟩; replace hb2 := hb1.trans (hb2.mono hb1.size)))
    | (go_at_call 12; go_loud (refine (HBY.out _ (hb2.alloc hb2.size _)).mono ?_; rintro e W3 hret; obtain ⟨g, cap, rfl, hg, hcell, hb3⟩ := bytes_open hret HNE.out; have hd3 := past_alloc hb3 hds hdc; have hds3 := past_size hb3 hds; replace hb3 := (hb2.alloc hb2.size _).trans (hb3.mono (hb2.alloc hb2.size _).size); clear hret hds hdc hb1 hb2; have HC := Lib.hid hcell; clear hcell))
    | (go_at_call 9; go_loud (refine (HOF.out d o g B.length cap _ rfl hg HC.out hd3 hds3).mono ?_; rintro e W4 ⟨rfl, hb4⟩; replace hb4 := hb3.trans (hb4.mono hb3.size))))
  go_ret
  exact ⟨rfl, hb4.alloc hb4.size _⟩
set_option maxHeartbeats 8000000 in
set_option maxRecDepth 100000 in
theorem law_bad_hung (A : Option Addr) (n c : Nat) (l : List Int) (now : Int) (w : World) (hn : n = l.length) (hmax : n ≤ 10) (hS : IntsIn w A l) (hI : ∀ x ∈ l, I64 x) (hbad : ∃ x ∈ l, ¬ (0 ≤ x ∧ x ≤ 15))
    (hwk : ∀ W, Below w.heap.size w W → Calls Tryz.prog 5 #[] W (True1 W)) (hst : ∀ W, Below w.heap.size w W → Calls Tryz.prog 7 #[] W (StartRet W)) : Calls Tryz.prog 4 #[.slice A n c, .bool true, .int .i64 now] w (True1 w) := by
  have HBY := Lib.hid (show ∀ W, Below w.heap.size w W → Calls Tryz.prog 12 #[.agg #[.int .i64 7, .int .i64 3, .int .i64 0, .int .i64 0, .int .i64 1, .string ⟨#[109, 97, 105, 110]⟩, .int .i64 1, .slice A n c]] W (BytesRet W (lineL 3 0 l)) from fun W hW => by
    rw [hn, ← cat_line]
    exact refBytes 7 3 0 0 1 1 ⟨#[109, 97, 105, 110]⟩ A c l W (by constructor <;> decide) (by constructor <;> decide) (by constructor <;> decide) (by constructor <;> decide) (by constructor <;> decide) (by constructor <;> decide) (by decide) (hS.below hW) (by omega) hI)
  have HOF := Lib.hid (fun (d o g N cap : Nat) (W : World) => offer_bad d o g n N cap 3 0 l W (.inr ⟨rfl, rfl⟩) hn hmax hI hbad)
  have hne : lineL 3 0 l ≠ [] := by
    intro h
    have h1 : 0 < (encI 7).length := venc_pos _
    have h2 := congrArg List.length h
    unfold lineL at h2
    rw [List.length_append] at h2
    simp only [List.length_nil] at h2
    omega
  have HNE := Lib.hid hne
  have HWK := Lib.hid hwk
  have HST := Lib.hid hst
  obtain ⟨B, hB⟩ : ∃ B, B = lineL 3 0 l := ⟨_, rfl⟩
  rw [← hB] at HBY HOF HNE
  clear hn hS hI hbad hwk hst hne hB
  go_enter Tryz.func4, Tryz.ntmps4
  go_wp2_with (first
    | (go_at_call 5; go_loud (refine (HWK.out _ (Below.refl _ _)).mono ?_; rintro e W1 ⟨rfl, hb1⟩))
    | (go_at_call 7; go_loud (refine (HST.out _ hb1).mono ?_; rintro e W2 ⟨d, o, x, o', rfl, hds, hdc, hb2⟩; replace hb2 := hb1.trans (hb2.mono hb1.size)))
    | (go_at_call 12; go_loud (refine (HBY.out _ (hb2.alloc hb2.size _)).mono ?_; rintro e W3 hret; obtain ⟨g, cap, rfl, hg, hcell, hb3⟩ := bytes_open hret HNE.out; have hd3 := past_alloc hb3 hds hdc; have hds3 := past_size hb3 hds; replace hb3 := (hb2.alloc hb2.size _).trans (hb3.mono (hb2.alloc hb2.size _).size); clear hret hds hdc hb1 hb2; have HC := Lib.hid hcell; clear hcell))
    | (go_at_call 9; go_loud (refine (HOF.out d o g B.length cap _ rfl hg HC.out hd3 hds3).mono ?_; rintro e W4 ⟨rfl, hb4⟩; replace hb4 := hb3.trans (hb4.mono hb3.size))))
  go_ret
  exact ⟨rfl, hb4.alloc hb4.size _⟩
set_option maxHeartbeats 8000000 in
set_option maxRecDepth 100000 in
theorem law_long (A : Option Addr) (n c : Nat) (h : Bool) (now : Int) (w : World) (hmax : (10 : Int) < n)
    (hwk : ∀ W, Below w.heap.size w W → Calls Tryz.prog 5 #[] W (True1 W)) : Calls Tryz.prog 4 #[.slice A n c, .bool h, .int .i64 now] w (True1 w) := by
  have HWK := Lib.hid hwk
  clear hwk
  go_enter Tryz.func4, Tryz.ntmps4
  go_wp2_with (first
    | (go_at_call 5; go_loud (refine (HWK.out _ (Below.refl _ _)).mono ?_; rintro e W1 ⟨rfl, hb1⟩)))
  go_ret
  exact ⟨rfl, hb1⟩
end Go.Proofs.YtnfmgkkhejminaaGreatDoor

namespace Go.Proofs.YtnfmgkkhejminaaGreatDoor
open Go Go.RowKit Wi
set_option maxHeartbeats 4000000 in
set_option maxRecDepth 100000 in
theorem offer_bad_at (S : Value) (now : Int) (h0 : 0 ≤ now) (h1 : now ≤ 1099511627776) (d o g n N cap : Nat) (st si : Int) (l : List Int) (w : World) (hst : (st = 2 ∧ si = -1) ∨ (st = 3 ∧ si = 0)) (hn : n = l.length) (hmax : n ≤ 10) (hI : ∀ x ∈ l, I64 x) (hbad : ∃ x ∈ l, ¬ (0 ≤ x ∧ x ≤ 15))
    (hN : N = (lineL st si l).length) (hg : g < w.heap.size) (hc : ∀ k, k < N → w.cell? ⟨g, k, none⟩ = some (.int .u8 ((lineL st si l).getD k 0).toNat)) (hd : w.cell? ⟨d, o + 1, none⟩ = some (.int .i64 3)) (hds : d < w.heap.size) :
    Calls Tryz.prog 9 #[.pointer (some ⟨d, o, none⟩), .slice (some ⟨g, 0, none⟩) N cap, S, .int .i64 1, .int .i64 now] w fun e w' => e = .returned (.tuple #[.agg #[.int .i64 0, .int .i64 0, .slice none 0 0], .int .i64 2]) ∧ Below w.heap.size w w' := by
  have HU := Lib.hid (show ∀ W, Below w.heap.size w W → Calls Tryz.prog 24 #[.slice (some ⟨g, 0, none⟩) N cap] W fun e w' => e = .returned (.tuple #[.pointer none, .int .i64 2]) ∧ Below W.heap.size W w' from fun W hW =>
    unmarshal_bad g n N cap st si l W hst hn hmax hI hbad hN (Nat.lt_of_lt_of_le hg hW.size) fun k hk => by rw [hW.cell hg]; exact hc k hk)
  clear hst hn hmax hI hbad hN hc
  go_enter Tryz.func9, Tryz.ntmps9
  go_wp2_with (first
      | (go_at_call 24; go_loud (refine (HU.out _ ((Below.refl _ w).alloc (Nat.le_refl _) _)).mono ?_; rintro e W ⟨rfl, hW⟩; obtain ⟨hq0, hq1, hq2, hf0, hf1, hf2⟩ := zpk hW)))
  have hB : Below w.heap.size w W := ((Below.refl _ w).alloc (Nat.le_refl _) _).trans (hW.mono (by simp))
  refine bodyPost_ret (v := .tuple #[.agg #[.int .i64 0, .int .i64 0, .slice none 0 0], .int .i64 2]) ?_ rfl ⟨rfl, ((hB.setCell (Nat.le_refl _) _).setCell (Nat.le_refl _) _).setCell (Nat.le_refl _) _⟩
  simp [results, Tryz.results9, go_sem, hq0, hq1, hq2]
end Go.Proofs.YtnfmgkkhejminaaGreatDoor

namespace Go.Proofs.YtnfmgkkhejminaaGreatDoor
open Go Go.RowKit
/-- a row of sources: each is a number and a slice -/
def SrcIn (w : World) (A : Option Addr) (n : Nat) : Prop := ∀ k, k < n → ∃ b off z B m c, A = some ⟨b, off, none⟩ ∧ b < w.heap.size ∧ w.cell? ⟨b, off + k * 2, none⟩ = some (.int .i64 z) ∧ w.cell? ⟨b, off + k * 2 + 1, none⟩ = some (.slice B m c)
def SomeBool (w : World) (e : Ending) (w' : World) : Prop := (∃ b, e = .returned (.bool b)) ∧ w' = w
set_option maxHeartbeats 4000000 in
set_option maxRecDepth 100000 in
theorem small_any (A : Option Addr) (n c : Nat) (w : World) (hS : SrcIn w A n) (hn : n ≤ 140737488355328) : Calls Tryz.prog 6 #[.slice A n c] w (SomeBool w) := by
  have HS := Lib.hid hS
  clear hS
  go_enter Tryz.func6, Tryz.ntmps6
  go_wp2
  go_loop [3, 4] (fun s j => ∃ (k : Nat) (z : Int), k ≤ n ∧ j = .int .i64 k ∧ s = .int .i64 z) (fun _ j => n - (intOf j).toNat)
  case atStart => exact ⟨0, 0, Nat.zero_le _, rfl, rfl⟩
  case round =>
    obtain ⟨k, z, hk, rfl, rfl⟩ := hrel
    by_cases hlt : k < n
    · obtain ⟨b, off, y, B, m, c', rfl, hb, hc0, hc1⟩ := HS.out k hlt
      have hki : (k : Int) < n := by omega
      go_wp2
      · go_ret
        exact ⟨⟨_, rfl⟩, rfl⟩
      · exact ⟨⟨k + 1, _, by omega, by go_num, rfl⟩, by simp [intOf]; omega⟩
    · obtain rfl : k = n := by omega
      go_wp2
      go_ret
      exact ⟨⟨_, rfl⟩, rfl⟩
end Go.Proofs.YtnfmgkkhejminaaGreatDoor

namespace Go.Proofs.YtnfmgkkhejminaaGreatDoor
open Go Go.RowKit Wi
theorem SrcIn.below {w W : World} {A : Option Addr} {n : Nat} (h : SrcIn w A n) (hb : Below w.heap.size w W) : SrcIn W A n := fun k hk => by
  obtain ⟨b, off, z, B, m, c, e, h1, h2, h3⟩ := h k hk
  exact ⟨b, off, z, B, m, c, e, Nat.lt_of_lt_of_le h1 hb.size, by rw [hb.cell (p := ⟨b, off + k * 2, none⟩) h1]; exact h2, by rw [hb.cell (p := ⟨b, off + k * 2 + 1, none⟩) h1]; exact h3⟩
set_option maxHeartbeats 4000000 in
set_option maxRecDepth 100000 in
theorem line_any (A : Option Addr) (c : Nat) (l : List Int) (w : World) (hS : IntsIn w A l) (hl : l.length ≤ 1000) (hI : ∀ x ∈ l, I64 x) : Calls Tryz.prog 8 #[.int .i64 7, .slice A l.length c] w (BytesRet w (lineL 2 (-1) l)) := by
  have HB := Lib.hid (show Calls Tryz.prog 12 #[.agg #[.int .i64 7, .int .i64 2, .int .i64 (-1), .int .i64 0, .int .i64 1, .string ⟨#[109, 97, 105, 110]⟩, .int .i64 1, .slice A l.length c]] w (BytesRet w (lineL 2 (-1) l)) by
    rw [← cat_line]
    exact refBytes 7 2 (-1) 0 1 1 ⟨#[109, 97, 105, 110]⟩ A c l w (by constructor <;> decide) (by constructor <;> decide) (by constructor <;> decide) (by constructor <;> decide) (by constructor <;> decide) (by constructor <;> decide) (by decide) hS hl hI)
  clear hS hl hI
  go_enter Tryz.func8, Tryz.ntmps8
  go_wp2_with (go_at_call 12; go_loud (refine HB.out.mono ?_; rintro e W ⟨v, rfl, h1, h2⟩))
  go_ret
  exact ⟨v, rfl, h1, h2⟩
set_option maxHeartbeats 8000000 in
set_option maxRecDepth 100000 in
theorem law3_bad (A : Option Addr) (n c : Nat) (l : List Int) (S : Option Addr) (sn sc : Nat) (kk : Int) (w : World) (hn : n = l.length) (hmax : n ≤ 10) (hS : IntsIn w A l) (hI : ∀ x ∈ l, I64 x) (hbad : ∃ x ∈ l, ¬ (0 ≤ x ∧ x ≤ 15)) (hR : SrcIn w S sn) (hsn : sn ≤ 140737488355328)
    (hwk : ∀ W, Below w.heap.size w W → Calls Tryz.prog 5 #[] W (True1 W)) (hst : ∀ W, Below w.heap.size w W → Calls Tryz.prog 7 #[] W (StartRet W)) : Calls Tryz.prog 3 #[.slice A n c, .slice S sn sc, .int .u8 kk] w (True1 w) := by
  have HBY := Lib.hid (show ∀ W, Below w.heap.size w W → Calls Tryz.prog 8 #[.int .i64 7, .slice A n c] W (BytesRet W (lineL 2 (-1) l)) from fun W hW => by
    rw [hn]
    exact line_any A c l W (hS.below hW) (by omega) hI)
  have HSM := Lib.hid (show ∀ W, Below w.heap.size w W → Calls Tryz.prog 6 #[.slice S sn sc] W (SomeBool W) from fun W hW => small_any S sn sc W (hR.below hW) hsn)
  have HOF := Lib.hid (fun (d o g N cap : Nat) (W : World) => offer_bad_at (.slice S sn sc) 5 (by decide) (by decide) d o g n N cap 2 (-1) l W (.inl ⟨rfl, rfl⟩) hn hmax hI hbad)
  have hne : lineL 2 (-1) l ≠ [] := by
    intro h
    have h1 : 0 < (encI 7).length := venc_pos _
    have h2 := congrArg List.length h
    unfold lineL at h2
    rw [List.length_append] at h2
    simp only [List.length_nil] at h2
    omega
  have HNE := Lib.hid hne
  have HWK := Lib.hid hwk
  have HST := Lib.hid hst
  obtain ⟨B, hB⟩ : ∃ B, B = lineL 2 (-1) l := ⟨_, rfl⟩
  rw [← hB] at HBY HOF HNE
  clear hn hS hI hbad hR hsn hwk hst hne hB
  go_enter Tryz.func3, Tryz.ntmps3
  go_wp2_with (first
    | (go_at_call 5; go_loud (refine (HWK.out _ (Below.refl _ _)).mono ?_; rintro e W1 ⟨rfl, hb1⟩))
    | (go_at_call 6; go_loud (refine (HSM.out _ hb1).mono ?_; rintro e Ws ⟨⟨q, rfl⟩, rfl⟩; rcases q with _ | _))
    | (go_at_call 7; go_loud (refine (HST.out _ hb1).mono ?_; rintro e W2 ⟨d, o, x, o', rfl, hds, hdc, hb2⟩; replace hb2 := hb1.trans (hb2.mono hb1.size)))
    | (go_at_call 8; go_loud (refine (HBY.out _ hb2).mono ?_; rintro e W3 hret; obtain ⟨g, cap, rfl, hg, hcell, hb3⟩ := bytes_open hret HNE.out; have hd3 := (hb3.cell (p := ⟨d, o + 1, none⟩) hds).trans hdc; have hds3 := Nat.lt_of_lt_of_le hds hb3.size; replace hb3 := hb2.trans (hb3.mono hb2.size); clear hret hds hdc hb1 hb2; have HC := Lib.hid hcell; clear hcell))
    | (go_at_call 9; go_loud (refine (HOF.out d o g B.length cap _ rfl hg HC.out hd3 hds3).mono ?_; rintro e W4 ⟨rfl, hb4⟩; replace hb4 := hb3.trans (hb4.mono hb3.size))))
  · go_ret
    exact ⟨rfl, hb1⟩
  · go_ret
    exact ⟨rfl, hb4.alloc hb4.size _⟩
end Go.Proofs.YtnfmgkkhejminaaGreatDoor

namespace Go.Proofs.YtnfmgkkhejminaaGreatDoor
open Go Go.RowKit Wi
set_option maxHeartbeats 8000000 in
set_option maxRecDepth 100000 in
theorem law3_long (A : Option Addr) (n c : Nat) (S : Value) (kk : Int) (w : World) (hmax : (10 : Int) < n)
    (hwk : ∀ W, Below w.heap.size w W → Calls Tryz.prog 5 #[] W (True1 W)) : Calls Tryz.prog 3 #[.slice A n c, S, .int .u8 kk] w (True1 w) := by
  have HWK := Lib.hid hwk
  clear hwk
  go_enter Tryz.func3, Tryz.ntmps3
  go_wp2_with (first
    | (go_at_call 5; go_loud (refine (HWK.out _ (Below.refl _ _)).mono ?_; rintro e W1 ⟨rfl, hb1⟩)))
  go_ret
  exact ⟨rfl, hb1⟩
set_option maxHeartbeats 8000000 in
set_option maxRecDepth 100000 in
theorem law3_large (A : Option Addr) (n c : Nat) (S : Value) (kk : Int) (w : World) (hmax : n ≤ 10)
    (hwk : ∀ W, Below w.heap.size w W → Calls Tryz.prog 5 #[] W (True1 W)) (hsm : ∀ W, Below w.heap.size w W → Calls Tryz.prog 6 #[S] W fun e w' => e = .returned (.bool false) ∧ w' = W) : Calls Tryz.prog 3 #[.slice A n c, S, .int .u8 kk] w (True1 w) := by
  have HWK := Lib.hid hwk
  have HSM := Lib.hid hsm
  clear hwk hsm
  go_enter Tryz.func3, Tryz.ntmps3
  go_wp2_with (first
    | (go_at_call 5; go_loud (refine (HWK.out _ (Below.refl _ _)).mono ?_; rintro e W1 ⟨rfl, hb1⟩))
    | (go_at_call 6; go_loud (refine (HSM.out _ hb1).mono ?_; rintro e Ws ⟨rfl, rfl⟩)))
  go_ret
  exact ⟨rfl, hb1⟩
end Go.Proofs.YtnfmgkkhejminaaGreatDoor

namespace Go.Proofs.YtnfmgkkhejminaaGreatDoor
open Go Go.RowKit Wi
/-- what ref11.Small answers, by the lengths of the sources' lists -/
def smallGo : List Nat → Int → Bool
  | [], _ => true
  | m :: r, z => if 300 < wrap64 (wrap64 (z + m) + 1) then false else smallGo r (wrap64 (wrap64 (z + m) + 1))
def smallQ (M : List Nat) : Bool := smallGo M 0 && decide ((M.length : Int) ≤ 70)
/-- a row of sources: the lengths of their lists -/
def SrcAt (w : World) (A : Option Addr) (M : List Nat) : Prop := ∀ k m, M[k]? = some m → ∃ b off z B c, A = some ⟨b, off, none⟩ ∧ b < w.heap.size ∧ w.cell? ⟨b, off + k * 2, none⟩ = some (.int .i64 z) ∧ w.cell? ⟨b, off + k * 2 + 1, none⟩ = some (.slice B m c)
def Says (q : Bool) (w : World) (e : Ending) (w' : World) : Prop := e = .returned (.bool q) ∧ w' = w
set_option maxHeartbeats 4000000 in
set_option maxRecDepth 100000 in
theorem small_is (A : Option Addr) (n c : Nat) (M : List Nat) (w : World) (hn : n = M.length) (hS : SrcAt w A M) (hl : n ≤ 140737488355328) : Calls Tryz.prog 6 #[.slice A n c] w (Says (smallQ M) w) := by
  have HS := Lib.hid hS
  have HN := Lib.hid hn
  clear hS hn
  go_enter Tryz.func6, Tryz.ntmps6
  go_wp2
  go_loop [3, 4] (fun s j => ∃ (k : Nat) (z : Int), k ≤ n ∧ j = .int .i64 k ∧ s = .int .i64 z ∧ Hid (smallGo M 0 = smallGo (M.drop k) z)) (fun _ j => n - (intOf j).toNat)
  case atStart => exact ⟨0, 0, Nat.zero_le _, rfl, rfl, Lib.hid rfl⟩
  case round =>
    obtain ⟨k, z, hk, rfl, rfl, HG⟩ := hrel
    by_cases hlt : k < n
    · have hkl : k < M.length := by rw [← HN.out]; exact hlt
      obtain ⟨m, hm⟩ : ∃ m, M[k]? = some m := ⟨M[k], List.getElem?_eq_getElem hkl⟩
      obtain ⟨b, off, y, B, c', rfl, hb, hc0, hc1⟩ := HS.out k m hm
      have hki : (k : Int) < n := by omega
      have HD := Lib.hid (show M.drop k = m :: M.drop (k + 1) by
        rw [List.drop_eq_getElem_cons hkl]
        congr 1
        exact (List.getElem?_eq_some_iff.1 hm).2)
      clear hm hkl
      by_cases h3 : 300 < wrap64 (wrap64 (z + m) + 1)
      · go_wp2
        go_ret
        refine ⟨congrArg (fun q => Ending.returned (Value.bool q)) ?_, rfl⟩
        unfold smallQ
        rw [HG.out, HD.out, smallGo, if_pos h3]
        rfl
      · go_wp2
        go_round
        case rel => exact ⟨k + 1, _, by omega, by go_num, rfl, Lib.hid (by rw [HG.out, HD.out, smallGo, if_neg h3])⟩
        case measure => simp [intOf]; omega
    · obtain rfl : k = n := by omega
      go_wp2
      go_ret
      refine ⟨congrArg (fun q => Ending.returned (Value.bool q)) ?_, rfl⟩
      unfold smallQ
      rw [HG.out, HN.out, List.drop_length, smallGo]
      rfl
end Go.Proofs.YtnfmgkkhejminaaGreatDoor
