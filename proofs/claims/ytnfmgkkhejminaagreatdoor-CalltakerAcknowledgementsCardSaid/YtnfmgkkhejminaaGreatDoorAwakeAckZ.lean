/-
  CalltakerAcknowledgements answers true where more than ten numbers are said, and where one is out of range.
-/
import Derived.Test.YtnfmgkkhejminaaGreatDoorAwakeAckS
namespace Go.Proofs.YtnfmgkkhejminaaGreatDoor
open Go Go.RowKit Wi
theorem bytes_open {w1 w' : World} {l : List UInt8} {e : Ending} (h : BytesRet w1 l e w') (hl : l ≠ []) : ∃ g cap, e = .returned (.slice (some ⟨g, 0, none⟩) l.length cap) ∧ g < w'.heap.size ∧ (∀ k, k < l.length → w'.cell? ⟨g, k, none⟩ = some (.int .u8 (l.getD k 0).toNat)) ∧ Below w1.heap.size w1 w' := by
  obtain ⟨v, rfl, h1, h2⟩ := h
  rcases h1.2 with ⟨_, h3⟩ | ⟨g, cap, cur, hv, hg, hh, h4, h5, h6, h7⟩
  · exact absurd (List.eq_nil_of_length_eq_zero h3) hl
  · refine ⟨g, cap, by rw [hv], (Array.getElem?_eq_some_iff.1 hh).1, fun k hk => ?_, h2⟩
    have e1 : cur[k]? = (Lib.byteCells l)[k]? := by
      rw [← h7, List.getElem?_take, if_pos (by omega)]
      simp
    simp only [World.cell?, hh]
    rw [e1]
    simp [Lib.byteCells, hk]
theorem IntsIn.below {w W : World} {A : Option Addr} {l : List Int} (h : IntsIn w A l) (hb : Below w.heap.size w W) : IntsIn W A l := fun k hk => by
  obtain ⟨b, off, rfl, h1, h2⟩ := h k hk
  exact ⟨b, off, rfl, Nat.lt_of_lt_of_le h1 hb.size, by rw [hb.cell (p := ⟨b, off + k, none⟩) h1]; exact h2⟩
def True1 (w : World) (e : Ending) (w' : World) : Prop := e = .returned (.bool true) ∧ Below w.heap.size w w'
def StartRet (w : World) (e : Ending) (w' : World) : Prop := ∃ d o x o', e = .returned (.tuple #[.pointer (some ⟨d, o, none⟩), .pointer (some ⟨x, o', none⟩), .bool true]) ∧ d < w'.heap.size ∧ w'.cell? ⟨d, o + 1, none⟩ = some (.int .i64 3) ∧ Below w.heap.size w w'
theorem past_alloc {W2 W3 : World} {ob : Obj} {d o : Nat} {v : Value} (hb : Below (W2.alloc ob).heap.size (W2.alloc ob) W3) (hd : d < W2.heap.size) (h : W2.cell? ⟨d, o, none⟩ = some v) : W3.cell? ⟨d, o, none⟩ = some v := by
  have h1 : Below W2.heap.size W2 (W2.alloc ob) := (Below.refl _ W2).alloc (Nat.le_refl _) ob
  rw [hb.cell (p := ⟨d, o, none⟩) (Nat.lt_of_lt_of_le hd h1.size), h1.cell (p := ⟨d, o, none⟩) hd]
  exact h
theorem past_size {W2 W3 : World} {ob : Obj} {d : Nat} (hb : Below (W2.alloc ob).heap.size (W2.alloc ob) W3) (hd : d < W2.heap.size) : d < W3.heap.size :=
  Nat.lt_of_lt_of_le hd (Nat.le_trans ((Below.refl _ W2).alloc (Nat.le_refl _) ob).size hb.size)
theorem past_cell {W2 X W3 : World} {d o : Nat} {v : Value} (hX : Below W2.heap.size W2 X) (hb : Below X.heap.size X W3) (hd : d < W2.heap.size) (h : W2.cell? ⟨d, o, none⟩ = some v) : W3.cell? ⟨d, o, none⟩ = some v := by
  rw [hb.cell (p := ⟨d, o, none⟩) (Nat.lt_of_lt_of_le hd hX.size), hX.cell (p := ⟨d, o, none⟩) hd]
  exact h
set_option maxHeartbeats 8000000 in
set_option maxRecDepth 100000 in
theorem law_bad (A : Option Addr) (n c : Nat) (l : List Int) (now : Int) (w : World) (hn : n = l.length) (hmax : n ≤ 10) (hS : IntsIn w A l) (hI : ∀ x ∈ l, I64 x) (hbad : ∃ x ∈ l, ¬ (0 ≤ x ∧ x ≤ 15))
    (hwk : ∀ W, Below w.heap.size w W → Calls Tryz.prog 5 #[] W (True1 W)) (hst : ∀ W, Below w.heap.size w W → Calls Tryz.prog 7 #[] W (StartRet W)) : Calls Tryz.prog 4 #[.slice A n c, .bool false, .int .i64 now] w (True1 w) := by
  have HBY := Lib.hid (show ∀ W, Below w.heap.size w W → Calls Tryz.prog 12 #[.agg #[.int .i64 7, .int .i64 2, .int .i64 (-1), .int .i64 0, .int .i64 1, .string ⟨#[109, 97, 105, 110]⟩, .int .i64 1, .slice A n c]] W (BytesRet W (lineL 2 (-1) l)) from fun W hW => by
    rw [hn, ← cat_line]
    exact refBytes 7 2 (-1) 0 1 1 ⟨#[109, 97, 105, 110]⟩ A c l W (by constructor <;> decide) (by constructor <;> decide) (by constructor <;> decide) (by constructor <;> decide) (by constructor <;> decide) (by constructor <;> decide) (by decide) (hS.below hW) (by omega) hI)
  have HOF := Lib.hid (fun (d o g N cap : Nat) (W : World) => offer_bad d o g n N cap 2 (-1) l W (.inl ⟨rfl, rfl⟩) hn hmax hI hbad)
  have hne : lineL 2 (-1) l ≠ [] := by
    intro h
    have h1 : 0 < (encI 7).length := venc_pos _
    have h2 := congrArg List.length h
    unfold lineL at h2
    rw [List.length_append] at h2
    simp only [List.length_nil] at h2
    omega
  have HNE := Lib.hid hne
  have HWK := Lib.hid hwk
  have HST := Lib.hid hst
  obtain ⟨B, hB⟩ : ∃ B, B = lineL 2 (-1) l := ⟨_, rfl⟩
  rw [← hB] at HBY HOF HNE
  clear hn hS hI hbad hwk hst hne hB
  go_enter Tryz.func4, Tryz.ntmps4
  go_wp2_with (first
    | (go_at_call 5; go_loud (refine (HWK.out _ (Below.refl _ _)).mono ?_; rintro e W1 ⟨rfl, hb1⟩))
    | (go_at_call 7; go_loud (refine (HST.out _ hb1).mono ?_; rintro e W2 ⟨d, o, x, o', rfl, hds, hdc, hb2⟩; replace hb2 := hb1.trans (hb2.mono hb1.size)))
    | (go_at_call 12; go_loud (refine (HBY.out _ (hb2.alloc hb2.size _)).mono ?_; rintro e W3 hret; obtain ⟨g, cap, rfl, hg, hcell, hb3⟩ := bytes_open hret HNE.out; have hd3 := past_alloc hb3 hds hdc; have hds3 := past_size hb3 hds; replace hb3 := (hb2.alloc hb2.size _).trans (hb3.mono (hb2.alloc hb2.size _).size); clear hret hds hdc hb1 hb2; have HC := Lib.hid hcell; clear hcell))
    | (go_at_call 9; go_loud (refine (HOF.out d o g B.length cap _ rfl hg HC.out hd3 hds3).mono ?_; rintro e W4 ⟨rfl, hb4⟩; replace hb4 := hb3.trans (hb4.mono hb3.size))))
  go_ret
  exact ⟨rfl, hb4.alloc hb4.size _⟩
set_option maxHeartbeats 8000000 in
set_option maxRecDepth 100000 in
theorem law_bad_hung (A : Option Addr) (n c : Nat) (l : List Int) (now : Int) (w : World) (hn : n = l.length) (hmax : n ≤ 10) (hS : IntsIn w A l) (hI : ∀ x ∈ l, I64 x) (hbad : ∃ x ∈ l, ¬ (0 ≤ x ∧ x ≤ 15))
    (hwk : ∀ W, Below w.heap.size w W → Calls Tryz.prog 5 #[] W (True1 W)) (hst : ∀ W, Below w.heap.size w W → Calls Tryz.prog 7 #[] W (StartRet W)) : Calls Tryz.prog 4 #[.slice A n c, .bool true, .int .i64 now] w (True1 w) := by
  have HBY := Lib.hid (show ∀ W, Below w.heap.size w W → Calls Tryz.prog 12 #[.agg #[.int .i64 7, .int .i64 3, .int .i64 0, .int .i64 0, .int .i64 1, .string ⟨#[109, 97, 105, 110]⟩, .int .i64 1, .slice A n c]] W (BytesRet W (lineL 3 0 l)) from fun W hW => by
    rw [hn, ← cat_line]
    exact refBytes 7 3 0 0 1 1 ⟨#[109, 97, 105, 110]⟩ A c l W (by constructor <;> decide) (by constructor <;> decide) (by constructor <;> decide) (by constructor <;> decide) (by constructor <;> decide) (by constructor <;> decide) (by decide) (hS.below hW) (by omega) hI)
  have HOF := Lib.hid (fun (d o g N cap : Nat) (W : World) => offer_bad d o g n N cap 3 0 l W (.inr ⟨rfl, rfl⟩) hn hmax hI hbad)
  have hne : lineL 3 0 l ≠ [] := by
    intro h
    have h1 : 0 < (encI 7).length := venc_pos _
    have h2 := congrArg List.length h
    unfold lineL at h2
    rw [List.length_append] at h2
    simp only [List.length_nil] at h2
    omega
  have HNE := Lib.hid hne
  have HWK := Lib.hid hwk
  have HST := Lib.hid hst
  obtain ⟨B, hB⟩ : ∃ B, B = lineL 3 0 l := ⟨_, rfl⟩
  rw [← hB] at HBY HOF HNE
  clear hn hS hI hbad hwk hst hne hB
  go_enter Tryz.func4, Tryz.ntmps4
  go_wp2_with (first
    | (go_at_call 5; go_loud (refine (HWK.out _ (Below.refl _ _)).mono ?_; rintro e W1 ⟨rfl, hb1⟩))
    | (go_at_call 7; go_loud (refine (HST.out _ hb1).mono ?_; rintro e W2 ⟨d, o, x, o', rfl, hds, hdc, hb2⟩; replace hb2 := hb1.trans (hb2.mono hb1.size)))
    | (go_at_call 12; go_loud (refine (HBY.out _ (hb2.alloc hb2.size _)).mono ?_; rintro e W3 hret; obtain ⟨g, cap, rfl, hg, hcell, hb3⟩ := bytes_open hret HNE.out; have hd3 := past_alloc hb3 hds hdc; have hds3 := past_size hb3 hds; replace hb3 := (hb2.alloc hb2.size _).trans (hb3.mono (hb2.alloc hb2.size _).size); clear hret hds hdc hb1 hb2; have HC := Lib.hid hcell; clear hcell))
    | (go_at_call 9; go_loud (refine (HOF.out d o g B.length cap _ rfl hg HC.out hd3 hds3).mono ?_; rintro e W4 ⟨rfl, hb4⟩; replace hb4 := hb3.trans (hb4.mono hb3.size))))
  go_ret
  exact ⟨rfl, hb4.alloc hb4.size _⟩
set_option maxHeartbeats 8000000 in
set_option maxRecDepth 100000 in
theorem law_long (A : Option Addr) (n c : Nat) (h : Bool) (now : Int) (w : World) (hmax : (10 : Int) < n)
    (hwk : ∀ W, Below w.heap.size w W → Calls Tryz.prog 5 #[] W (True1 W)) : Calls Tryz.prog 4 #[.slice A n c, .bool h, .int .i64 now] w (True1 w) := by
  have HWK := Lib.hid hwk
  clear hwk
  go_enter Tryz.func4, Tryz.ntmps4
  go_wp2_with (first
    | (go_at_call 5; go_loud (refine (HWK.out _ (Below.refl _ _)).mono ?_; rintro e W1 ⟨rfl, hb1⟩)))
  go_ret
  exact ⟨rfl, hb1⟩
end Go.Proofs.YtnfmgkkhejminaaGreatDoor
