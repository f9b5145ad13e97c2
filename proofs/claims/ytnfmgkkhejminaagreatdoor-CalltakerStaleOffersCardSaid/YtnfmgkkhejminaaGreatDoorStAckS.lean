/-
  The reader of encoded lines, and what HandleOffer answers to a line in which a number that was said is out of range: ErrSyntax.
-/
import Derived.Laws.BitsLemmas
import Derived.Laws.Bits64b
import Derived.Test.YtnfmgkkhejminaaGreatDoorStAckG
import Derived.Laws.CopyOwn
import Derived.Deep.OwnRows
/-! What reading a number does to bits. -/
namespace Go.Proofs.YtnfmgkkhejminaaGreatDoor.Wi
open Go
theorem u8_and127 (x : Int) (h0 : 0 ≤ x) (h1 : x < 256) : bits .and .u8 x 127 = x % 128 := bits_mask .u8 8 (by decide) wraps_u8 7 (by decide) x h0 h1
theorem u64_join (a c i : Nat) (ha : a < 2 ^ i) (hu : a + c * 2 ^ i < 18446744073709551616) : bits .or .u64 (a : Int) ((c * 2 ^ i : Nat) : Int) = ((a + c * 2 ^ i : Nat) : Int) := by
  rw [bits_or_u64_nat a _ (by omega) (by omega), Nat.or_comm, Nat.mul_comm c, ← Nat.two_pow_add_eq_or_of_lt ha, Nat.add_comm]
theorem u64_and1 (u : Nat) (h : u < 18446744073709551616) : bits .and .u64 (u : Int) 1 = ((u % 2 : Nat) : Int) := by
  have := bits_and_u64_nat u 1 h (by decide)
  have e : u &&& 1 = u % 2 := Nat.and_two_pow_sub_one_eq_mod u 1
  rw [e] at this
  exact this
theorem i64_xor0 (a : Nat) (h : a < 9223372036854775808) : bits .xor .i64 (a : Int) 0 = a := by
  show IntKind.i64.wrap (((BitVec.ofInt 64 (a : Int) ^^^ 0#64 : BitVec 64).toNat : Nat) : Int) = a
  rw [BitVec.xor_zero, BitVec.ofInt_natCast, BitVec.toNat_ofNat, Nat.mod_eq_of_lt (by omega), IntKind.wrap_i64]
  omega
theorem i64_xor1 (a : Nat) (h : a < 9223372036854775808) : bits .xor .i64 (a : Int) (-1) = -(a : Int) - 1 := by
  show IntKind.i64.wrap (((BitVec.ofInt 64 (a : Int) ^^^ BitVec.allOnes 64 : BitVec 64).toNat : Nat) : Int) = -(a : Int) - 1
  rw [BitVec.xor_allOnes, BitVec.ofInt_natCast, BitVec.toNat_not, BitVec.toNat_ofNat, Nat.mod_eq_of_lt (a := a) (by omega), IntKind.wrap_i64]
  have : ((2 ^ 64 - 1 - a : Nat) : Int) = 18446744073709551615 - (a : Int) := by omega
  rw [this]
  omega
/-- the number back -/
theorem unzz {n : Int} {u : Nat} (h : zz n = u) : (u % 2 = 0 → ((u / 2 : Nat) : Int) = n) ∧ (u % 2 = 1 → -((u / 2 : Nat) : Int) - 1 = n) := by
  unfold zz at h
  split at h <;> constructor <;> intro h2 <;> omega
theorem pow128 (i : Nat) : (2 : Nat) ^ (7 * i) = 128 ^ i := by rw [Nat.pow_mul]
theorem wrap_u64_nat (x : Nat) (h : x < 18446744073709551616) : IntKind.u64.wrap (x : Int) = x := by
  rw [show IntKind.u64.wrap (x : Int) = (x : Int) % 18446744073709551616 by simp [IntKind.wrap, IntKind.bits, IntKind.signed]]
  omega
theorem acc_eq (a y i : Nat) (hy : y < 256) (ha : a < 128 ^ i) (hu : a + (y % 128) * 128 ^ i < 18446744073709551616) :
    bits .or .u64 (a : Int) (IntKind.u64.wrap (IntKind.u64.wrap (bits .and .u8 (y : Int) 127) * 2 ^ (7 * i))) = ((a + (y % 128) * 128 ^ i : Nat) : Int) := by
  rw [u8_and127 (y : Int) (by omega) (by omega)]
  have e1 : ((y : Int) % 128) = ((y % 128 : Nat) : Int) := by omega
  rw [e1, wrap_u64_nat _ (by omega)]
  have e2 : ((y % 128 : Nat) : Int) * 2 ^ (7 * i) = ((y % 128 * 2 ^ (7 * i) : Nat) : Int) := by
    rw [Int.natCast_mul, Int.natCast_pow]
    rfl
  rw [e2, wrap_u64_nat _ (by rw [pow128]; omega), u64_join a (y % 128) (7 * i) (by rw [pow128]; exact ha) (by rw [pow128]; exact hu), pow128]
theorem acc_eq0 (a y : Nat) (hy : y < 256) (ha : a < 1) :
    bits .or .u64 (a : Int) (IntKind.u64.wrap (IntKind.u64.wrap (bits .and .u8 (y : Int) 127))) = ((a + y % 128 : Nat) : Int) := by
  have := acc_eq a y 0 hy (by simpa using ha) (by omega)
  simpa using this
theorem fin_eq {n : Int} {Z : Nat} (hz : Z < 18446744073709551616) (h : zz n = Z) :
    bits .xor .i64 (IntKind.i64.wrap ((Z : Int) / 2)) (IntKind.i64.wrap (-IntKind.i64.wrap (bits .and .u64 (Z : Int) 1))) = n := by
  rw [u64_and1 Z hz]
  have e1 : ((Z : Int) / 2) = ((Z / 2 : Nat) : Int) := by omega
  rw [e1, show IntKind.i64.wrap ((Z / 2 : Nat) : Int) = ((Z / 2 : Nat) : Int) by rw [IntKind.wrap_i64]; omega]
  obtain ⟨h0, h1⟩ := unzz h
  rcases Nat.mod_two_eq_zero_or_one Z with h2 | h2
  · rw [h2]
    rw [show IntKind.i64.wrap (-IntKind.i64.wrap ((0 : Nat) : Int)) = 0 by decide, i64_xor0 _ (by omega)]
    exact h0 h2
  · rw [h2]
    rw [show IntKind.i64.wrap (-IntKind.i64.wrap ((1 : Nat) : Int)) = -1 by decide, i64_xor1 _ (by omega)]
    exact h1 h2
theorem more_eq {a v p Z : Nat} (h : a + v * p = Z) : a + v % 128 * p + v / 128 * (p * 128) = Z := by
  have h1 : v % 128 * p + v / 128 * (p * 128) = v * p := by
    rw [Nat.mul_comm p 128, ← Nat.mul_assoc, ← Nat.add_mul]
    congr 1
    omega
  omega
theorem more_lt {a v p : Nat} (h : a < p) : a + v % 128 * p < p * 128 := by
  have h1 : (v % 128 + 1) * p ≤ 128 * p := Nat.mul_le_mul_right _ (by omega)
  rw [Nat.add_mul] at h1
  omega
theorem more_le9 {a v i Z : Nat} (h : a + v * 128 ^ i = Z) (hz : Z < 18446744073709551616) (hi : i ≤ 9) (hv : ¬ v < 128) : i + 1 ≤ 9 := by
  rcases Nat.lt_or_ge i 9 with h1 | h1
  · omega
  · have e : i = 9 := by omega
    subst e
    have : (128 : Nat) ^ 9 = 9223372036854775808 := by decide
    rw [this] at h
    omega
theorem last_one {a v Z : Nat} (h : a + v * 128 ^ 9 = Z) (hz : Z < 18446744073709551616) (hv : 9 = 0 ∨ 1 ≤ v) : v = 1 := by
  have : (128 : Nat) ^ 9 = 9223372036854775808 := by decide
  rw [this] at h
  omega
end Go.Proofs.YtnfmgkkhejminaaGreatDoor.Wi

namespace Go.Proofs.YtnfmgkkhejminaaGreatDoor
open Go Go.RowKit Wi
/-- what lies ahead of a reader -/
def Ahead (w : World) (b : Nat) (l : List UInt8) (v : Value) : Prop :=
  (l = [] ∧ ∃ a c, v = .slice a 0 c) ∨ ∃ o c, v = .slice (some ⟨b, o, none⟩) l.length c ∧ 0 < l.length ∧ l.length ≤ c ∧ ∀ k, k < l.length → w.cell? ⟨b, o + k, none⟩ = some (.int .u8 (l.getD k 0).toNat)
/-- a reader in block r that has met no error, over bytes in block b -/
def RAt (w : World) (r b : Nat) (l : List UInt8) : Prop :=
  r ≠ b ∧ w.cell? ⟨r, 1, none⟩ = some (.int .i64 0) ∧ w.frozen? ⟨r, 0, none⟩ = false ∧ ∃ v, w.cell? ⟨r, 0, none⟩ = some v ∧ Ahead w b l v
theorem Ahead.set {w : World} {r b : Nat} {l : List UInt8} {v u : Value} (h : Ahead w b l v) (hrb : r ≠ b) : Ahead (w.setCell ⟨r, 0, none⟩ u) b l v := by
  rcases h with h | ⟨o, c, h1, h2, h3, h4⟩
  · exact .inl h
  · refine .inr ⟨o, c, h1, h2, h3, fun k hk => ?_⟩
    rw [World.cell?_setCell_other _ _ _ _ (by first | omega | (simp; done) | (simp; intro e; exact absurd e.symm hrb))]
    exact h4 k hk
theorem rat_set {w : World} {r b : Nat} {l : List UInt8} {v0 v : Value} (hrb : r ≠ b) (h1 : w.cell? ⟨r, 1, none⟩ = some (.int .i64 0)) (hfz : w.frozen? ⟨r, 0, none⟩ = false) (h0 : w.cell? ⟨r, 0, none⟩ = some v0) (ha : Ahead w b l v) : RAt (w.setCell ⟨r, 0, none⟩ v) r b l := by
  refine ⟨hrb, ?_, ?_, v, ?_, ha.set hrb⟩
  · rw [World.cell?_setCell_other _ _ _ _ (by simp)]
    exact h1
  · simpa using hfz
  · exact World.cell?_setCell_same _ _ _ h0
set_option maxHeartbeats 4000000 in
set_option maxRecDepth 100000 in
theorem rd_next (r b : Nat) (x : UInt8) (l : List UInt8) (w : World) (h : RAt w r b (x :: l)) (hlen : l.length ≤ 1000000) :
    Calls Tryz.prog 117 #[.pointer (some ⟨r, 0, none⟩)] w fun e w' => e = .returned (.tuple #[.int .u8 x.toNat, .bool true]) ∧ (∃ v, w' = w.setCell ⟨r, 0, none⟩ v) ∧ RAt w' r b l := by
  obtain ⟨hrb, h1, hfz, v, h0, hv⟩ := h
  rcases hv with ⟨he, _⟩ | ⟨o, c, rfl, hp, hcap, hc⟩
  · cases he
  have hx := hc 0 (by simp)
  simp only [Nat.add_zero, List.getD_cons_zero] at hx
  simp only [List.length_cons] at h0 hcap
  have hn0 : ((l.length + 1 : Nat) : Int) ≠ 0 := by omega
  have HC := Lib.hid hc
  clear hc hp
  go_enter Tryz.func117, Tryz.ntmps117
  go_wp2
  all_goals
    go_ret2
    refine ⟨rfl, ⟨_, rfl⟩, rat_set hrb h1 hfz h0 ?_⟩
  · have hl : l = [] := List.eq_nil_of_length_eq_zero (by omega)
    subst hl
    exact .inl ⟨rfl, _, _, rfl⟩
  · cases l with
    | nil => exact .inl ⟨rfl, _, _, rfl⟩
    | cons y l =>
      refine .inr ⟨o + 1, c - 1, rfl, by simp, by simp only [List.length_cons] at hcap ⊢; omega, fun k hk => ?_⟩
      have := HC.out (k + 1) (by simp only [List.length_cons] at hk ⊢; omega)
      rw [show o + 1 + k = o + (k + 1) by omega]
      simpa using this
end Go.Proofs.YtnfmgkkhejminaaGreatDoor

namespace Go.Proofs.YtnfmgkkhejminaaGreatDoor
open Go Go.RowKit Wi
theorem set_set (w : World) (r : Nat) (u v : Value) : (w.setCell ⟨r, 0, none⟩ u).setCell ⟨r, 0, none⟩ v = w.setCell ⟨r, 0, none⟩ v := by
  have : (w.setCell ⟨r, 0, none⟩ u).setCell ⟨r, 0, none⟩ v = { w with heap := ((w.setCell ⟨r, 0, none⟩ u).setCell ⟨r, 0, none⟩ v).heap } := rfl
  rw [this]
  have e : ((w.setCell ⟨r, 0, none⟩ u).setCell ⟨r, 0, none⟩ v).heap = (w.setCell ⟨r, 0, none⟩ v).heap := by
    apply Array.ext_getElem?
    intro k
    simp only [World.setCell, Array.getElem?_modify]
    by_cases h : r = k
    · subst h
      simp only [if_true]
      cases w.heap[r]? with
      | none => rfl
      | some o => cases o <;> simp
    · rw [if_neg h, if_neg h, if_neg h]
  rw [e]
  rfl
/-- nothing but what lies ahead of the reader has turned -/
def Turned (w w' : World) (r : Nat) : Prop := w' = w ∨ ∃ v, w' = w.setCell ⟨r, 0, none⟩ v
theorem Turned.next {w w1 w2 : World} {r : Nat} (h : Turned w w1 r) (h2 : ∃ v, w2 = w1.setCell ⟨r, 0, none⟩ v) : ∃ v, w2 = w.setCell ⟨r, 0, none⟩ v := by
  obtain ⟨v, rfl⟩ := h2
  rcases h with rfl | ⟨u, rfl⟩
  · exact ⟨v, rfl⟩
  · refine ⟨v, ?_⟩
    exact set_set w r u v
set_option maxHeartbeats 4000000 in
set_option maxRecDepth 100000 in
theorem rd_int (r b : Nat) (n : Int) (rest : List UInt8) (w : World) (hR : RAt w r b (encI n ++ rest)) (hlen : rest.length ≤ 900000) (hn0 : -9223372036854775808 ≤ n) (hn1 : n ≤ 9223372036854775807) :
    Calls Tryz.prog 46 #[.pointer (some ⟨r, 0, none⟩)] w fun e w' => e = .returned (.int .i64 n) ∧ (∃ v, w' = w.setCell ⟨r, 0, none⟩ v) ∧ RAt w' r b rest := by
  have hz := zz_lt hn0 hn1
  obtain ⟨Z, hZ⟩ : ∃ Z, Z = zz n := ⟨_, rfl⟩
  have HZ := Lib.hid hZ
  unfold encI at hR
  rw [← hZ] at hR hz
  clear hZ
  go_enter Tryz.func46, Tryz.ntmps46
  go_wp2
  go_loopw [3, 7] (fun x j wr => ∃ (i a v : Nat), x = .int .u64 a ∧ j = .int .i64 i ∧ i ≤ 9 ∧ a < 128 ^ i ∧ a + v * 128 ^ i = Z ∧ (i = 0 ∨ 1 ≤ v) ∧ Turned w wr r ∧ RAt wr r b (venc v ++ rest)) (fun _ j _ => 10 - (intOf j).toNat)
  case atStart => exact ⟨0, 0, Z, rfl, rfl, by omega, by decide, by simp, .inl rfl, .inl rfl, hR⟩
  case round =>
    obtain ⟨i, a, v, rfl, rfl, hi, ha, hs, hv1, ht, hr⟩ := hrel
    have d0 : (i : Int) < 10 := by omega
    have hw64 : ∀ k : Int, wrap64 k = IntKind.i64.wrap k := fun k => by (rw [IntKind.wrap_i64]; unfold wrap64; rfl)
    by_cases hv : v < 128
    · rw [venc_small hv] at hr
      have hnx := rd_next r b (UInt8.ofNat v) rest wr hr (by omega)
      have e8 : ((UInt8.ofNat v).toNat : Int) = v := u8_nat v (by omega)
      rw [e8] at hnx
      have HNX := Lib.hid hnx
      clear hnx e8 hr
      have d5 : (v : Int) < 128 := by omega
      have hm : v % 128 = v := by omega
      have hacc := acc_eq a v i (by omega) ha (by rw [hm]; omega)
      rw [hm, hs] at hacc
      rcases Nat.eq_zero_or_pos i with h0 | h0
      · have d1 : ((i : Int) == 9) = false := by simp; omega
        have d2 : ¬ ((i : Int) > 0) := by omega
        have hacc0 := acc_eq0 a v (by omega) (by rw [h0] at ha; simpa using ha)
        rw [hm] at hacc0
        rw [h0] at hs
        have HF := Lib.hid (show bits .xor .i64 (wrap64 (bits .or .u64 (a : Int) (IntKind.u64.wrap (IntKind.u64.wrap (bits .and .u8 (v : Int) 127))) / 2)) (wrap64 (-wrap64 (bits .and .u64 (bits .or .u64 (a : Int) (IntKind.u64.wrap (IntKind.u64.wrap (bits .and .u8 (v : Int) 127)))) 1))) = n by
          rw [hw64, hw64, hw64, hacc0, show a + v = Z by simpa using hs]
          exact fin_eq hz HZ.out.symm)
        clear hacc hacc0 hs hw64 hm ha
        go_wp2_with (go_at_call 117; go_loud (refine HNX.out.mono ?_; rintro e w2 ⟨rfl, hw2, hr2⟩))
        go_wp2
        go_ret
        exact ⟨congrArg (fun z => Ending.returned (.int .i64 z)) HF.out, ht.next hw2, hr2⟩
      · have HF := Lib.hid (show bits .xor .i64 (wrap64 (bits .or .u64 (a : Int) (IntKind.u64.wrap (IntKind.u64.wrap (bits .and .u8 (v : Int) 127) * 2 ^ (7 * i))) / 2)) (wrap64 (-wrap64 (bits .and .u64 (bits .or .u64 (a : Int) (IntKind.u64.wrap (IntKind.u64.wrap (bits .and .u8 (v : Int) 127) * 2 ^ (7 * i)))) 1))) = n by
          rw [hw64, hw64, hw64, hacc]
          exact fin_eq hz HZ.out.symm)
        have d2 : (i : Int) > 0 := by omega
        have d3 : ((v : Int) == 0) = false := by simp; omega
        by_cases h9 : i = 9
        · subst h9
          have hv1' : v = 1 := by
            exact last_one hs hz hv1
          have d4 : ((v : Int) != 1) = false := by rw [hv1']; rfl
          have hc1 : ((v : Nat) : Int) = 1 := by omega
          have hp63 : (2 : Int) ^ (7 * 9) = 9223372036854775808 := by decide
          have hF := HF.out
          rw [hc1, hp63] at hF
          have HF9 := Lib.hid hF
          clear hacc hs hw64 hm ha hF hp63 HF
          go_wp2_with (go_at_call 117; go_loud (refine HNX.out.mono ?_; rintro e w2 ⟨rfl, hw2, hr2⟩))
          go_wp2
          go_ret
          exact ⟨congrArg (fun z => Ending.returned (.int .i64 z)) HF9.out, ht.next hw2, hr2⟩
        · have d1 : ((i : Int) == 9) = false := by simp; omega
          clear hacc hs hw64 hm ha
          go_wp2_with (go_at_call 117; go_loud (refine HNX.out.mono ?_; rintro e w2 ⟨rfl, hw2, hr2⟩))
          go_wp2
          go_ret
          exact ⟨congrArg (fun z => Ending.returned (.int .i64 z)) HF.out, ht.next hw2, hr2⟩
    · rw [venc_big hv] at hr
      have hvl : (venc (v / 128)).length ≤ 10 := by
        refine venc_len10 ?_
        have h1 : v ≤ v * 128 ^ i := Nat.le_mul_of_pos_right _ (Nat.pow_pos (by decide))
        omega
      have hnx := rd_next r b (UInt8.ofNat (v % 128 + 128)) (venc (v / 128) ++ rest) wr hr (by rw [List.length_append]; omega)
      have e8 : ((UInt8.ofNat (v % 128 + 128)).toNat : Int) = (v % 128 + 128 : Nat) := u8_nat _ (by omega)
      rw [e8] at hnx
      have HNX := Lib.hid hnx
      clear hnx e8 hr hvl
      have d5 : ¬ ((v % 128 + 128 : Nat) : Int) < 128 := by omega
      have hi9 := more_le9 hs hz hi hv
      have hm1 := more_eq hs
      have hm2 := more_lt (v := v) ha
      have hym : (v % 128 + 128) % 128 = v % 128 := by omega
      have hbnd : a + v % 128 * 128 ^ i < 18446744073709551616 := by omega
      have hacc := acc_eq a (v % 128 + 128) i (by omega) ha (by rw [hym]; exact hbnd)
      rw [hym] at hacc
      have hpi : 128 ^ (i + 1) = 128 ^ i * 128 := rfl
      have HREL := Lib.hid (show a + v % 128 * 128 ^ i < 128 ^ (i + 1) ∧ a + v % 128 * 128 ^ i + v / 128 * 128 ^ (i + 1) = Z ∧ (i + 1 = 0 ∨ 1 ≤ v / 128) from ⟨by rw [hpi]; exact hm2, by rw [hpi]; exact hm1, .inr (by omega)⟩)
      have d1 : ((i : Int) == 9) = false := by simp; omega
      have d3 : (((v % 128 + 128 : Nat) : Int) == 0) = false := by simp; omega
      generalize hA : a + v % 128 * 128 ^ i = a' at hacc HREL
      rcases Nat.eq_zero_or_pos i with h0 | h0
      · have d2 : ¬ ((i : Int) > 0) := by omega
        have hacc0 := acc_eq0 a (v % 128 + 128) (by omega) (by rw [h0] at ha; simpa using ha)
        rw [hym, show a + v % 128 = a' by rw [← hA, h0]; simp] at hacc0
        generalize v % 128 + 128 = y at HNX d5 d3 hacc hacc0
        have HA := Lib.hid hacc0
        clear hacc hacc0 hm1 hm2 hym hbnd hs ha hw64 hpi hA
        go_wp2_with (go_at_call 117; go_loud (refine HNX.out.mono ?_; rintro e w2 ⟨rfl, hw2, hr2⟩))
        go_wp2
        go_roundw
        case rel => exact ⟨i + 1, a', v / 128, by rw [HA.out], by go_num, by omega, HREL.out.1, HREL.out.2.1, HREL.out.2.2, .inr (ht.next hw2), hr2⟩
        case measure => simp [intOf]; omega
      · have d2 : (i : Int) > 0 := by omega
        generalize v % 128 + 128 = y at HNX d5 d3 hacc
        have HA := Lib.hid hacc
        clear hacc hm1 hm2 hym hbnd hs ha hw64 hpi hA
        go_wp2_with (go_at_call 117; go_loud (refine HNX.out.mono ?_; rintro e w2 ⟨rfl, hw2, hr2⟩))
        go_wp2
        go_roundw
        case rel => exact ⟨i + 1, a', v / 128, by rw [HA.out], by go_num, by omega, HREL.out.1, HREL.out.2.1, HREL.out.2.2, .inr (ht.next hw2), hr2⟩
        case measure => simp [intOf]; omega
end Go.Proofs.YtnfmgkkhejminaaGreatDoor

namespace Go.Proofs.YtnfmgkkhejminaaGreatDoor
open Go Go.RowKit Wi
/-- the length of what lies ahead -/
theorem Ahead.slice {w : World} {b : Nat} {l : List UInt8} {v : Value} (h : Ahead w b l v) : ∃ a c, v = .slice a l.length c := by
  rcases h with ⟨rfl, a, c, rfl⟩ | ⟨o, c, rfl, _⟩
  · exact ⟨a, c, rfl⟩
  · exact ⟨_, c, rfl⟩
set_option maxHeartbeats 4000000 in
set_option maxRecDepth 100000 in
theorem rd_length (r b n : Nat) (rest : List UInt8) (w : World) (hR : RAt w r b (encI n ++ rest)) (hn : n ≤ rest.length) (hlen : rest.length ≤ 900000) :
    Calls Tryz.prog 119 #[.pointer (some ⟨r, 0, none⟩)] w fun e w' => e = .returned (.int .i64 n) ∧ (∃ v, w' = w.setCell ⟨r, 0, none⟩ v) ∧ RAt w' r b rest := by
  have HI := Lib.hid (rd_int r b n rest w hR hlen (by omega) (by omega))
  obtain ⟨m, hm⟩ : ∃ m : Nat, m = rest.length := ⟨_, rfl⟩
  rw [← hm] at hn hlen
  have HM := Lib.hid hm
  clear hR hm
  go_enter Tryz.func119, Tryz.ntmps119
  go_wp2_with (go_at_call 46; go_loud (refine HI.out.mono ?_; rintro e w2 ⟨rfl, hw2, hr2⟩; have HR := Lib.hid hr2; obtain ⟨hrb, h1, hfz, v, h0, hv⟩ := hr2; obtain ⟨a, c, rfl⟩ := hv.slice; rw [← HM.out] at h0; clear hv))
  go_wp2
  go_ret
  exact ⟨rfl, hw2, HR.out⟩
set_option maxHeartbeats 4000000 in
set_option maxRecDepth 100000 in
theorem rd_finish (r b : Nat) (w : World) (hR : RAt w r b []) : Calls Tryz.prog 48 #[.pointer (some ⟨r, 0, none⟩)] w fun e w' => e = .returned (.int .i64 0) ∧ w' = w := by
  obtain ⟨hrb, h1, hfz, v, h0, hv⟩ := hR
  obtain ⟨a, c, rfl⟩ := hv.slice
  simp only [List.length_nil] at h0
  clear hv
  go_enter Tryz.func48, Tryz.ntmps48
  go_wp2
  go_ret
  exact ⟨rfl, rfl⟩
end Go.Proofs.YtnfmgkkhejminaaGreatDoor

namespace Go.Proofs.YtnfmgkkhejminaaGreatDoor
open Go Go.RowKit Wi
theorem sizeOne5 : (Tryz.prog.info? 5).map (·.size) = some 1 := by kernel_rfl
theorem byteCells_at (l : List UInt8) (k : Nat) (h : k < l.length) : (Lib.byteCells l)[k]? = some (.int .u8 (l.getD k 0).toNat) := by
  simp [Lib.byteCells, h]
theorem byteCells_one (l : List UInt8) : ∀ v ∈ Lib.byteCells l, v.oneCell' = true := by
  intro u hu
  simp [Lib.byteCells] at hu
  obtain ⟨b, _, rfl⟩ := hu
  rfl
set_option maxHeartbeats 4000000 in
set_option maxRecDepth 100000 in
theorem newReader (g n cap : Nat) (l : List UInt8) (w : World) (hn : n = l.length) (h0 : 0 < n) (hmax : n ≤ 1000000) (hg : g < w.heap.size) (hc : ∀ k, k < n → w.cell? ⟨g, k, none⟩ = some (.int .u8 (l.getD k 0).toNat)) :
    Calls Tryz.prog 45 #[.slice (some ⟨g, 0, none⟩) n cap] w fun e w' => ∃ r b, e = .returned (.pointer (some ⟨r, 0, none⟩)) ∧ w.heap.size ≤ r ∧ w.heap.size ≤ b ∧ r < w'.heap.size ∧ b < w'.heap.size ∧ RAt w' r b l ∧ Below w.heap.size w w' := by
  have hmake := run_make_row' (P := Tryz.prog) 30 5 (.int .u8 0) 1 Tryz.underlying30 info5 rfl .i64 .i64 n (by omega) (by omega)
  have hW : ∀ W : World, W = w.alloc (.cells (madeCells #[.int .u8 0] n) 5) → W.heap[w.heap.size]? = some (.cells (List.replicate n (Value.int .u8 0)).toArray 5 (0, 0)) := fun W e => by
    subst e
    rw [heap_alloc_new]
    congr 1
    congr 1
    apply Array.ext
    · simp [madeCells]
    · intro i h1 h2
      simp [madeCells, Nat.mod_one]
  have hb1 : Below w.heap.size w (w.alloc (.cells (madeCells #[.int .u8 0] n) 5)) := (Below.refl _ _).alloc (Nat.le_refl _) _
  have hW1 := hW _ rfl
  have hbl : (Lib.byteCells l).length = n := by rw [Lib.byteCells_length]; exact hn.symm
  obtain ⟨W2, hcopy, hW2, hb2⟩ : ∃ W2, (Builtin.copy_ #[30, 30] 3 #[.slice (some ⟨w.heap.size, 0, none⟩) n n, .slice (some ⟨g, 0, none⟩) n cap]).run Tryz.prog (w.alloc (.cells (madeCells #[.int .u8 0] n) 5)) = .ok (goInt n) W2 ∧ W2.heap[w.heap.size]? = some (.cells (Lib.byteCells l).toArray 5 (0, 0)) ∧ Below w.heap.size w W2 := by
    have h := run_copy_row (P := Tryz.prog) (w.alloc (.cells (madeCells #[.int .u8 0] n) 5)) 30 30 3 5 w.heap.size 0 n n ⟨g, 0, none⟩ n cap _ 5 (Lib.byteCells l) Tryz.underlying30 sizeOne5 hW1 (by rw [hbl]; exact (Nat.min_self n).symm) (fun j v hj => by
      have hjl : j < l.length := by have := (List.getElem?_eq_some_iff.1 hj).1; rw [hbl, hn] at this; exact this
      rw [byteCells_at l j hjl] at hj
      cases hj
      have e : (⟨g, 0, none⟩ : Addr).add j = ⟨g, j, none⟩ := by unfold Addr.add; split <;> simp_all
      rw [e, World.cell?_alloc_past _ _ _ hg]
      exact hc j (by omega)) (by rw [hbl]; simp) (byteCells_one l)
    rw [hbl] at h
    refine ⟨_, h, ?_, below_setRow hb1 (Nat.le_refl _) _⟩
    rw [setRow_heap _ _ _ _ _ _ hW1]
    simp
  have hs2 := hb2.size
  have HN := Lib.hid hn
  have HW := Lib.hid hW2
  clear hn hW hW2 hW1 hb1 hbl hc
  go_enter Tryz.func45, Tryz.ntmps45
  go_wp2
  go_ret
  have hlt : w.heap.size < W2.heap.size := (Array.getElem?_eq_some_iff.1 HW.out).1
  refine ⟨W2.heap.size, w.heap.size, rfl, hs2, Nat.le_refl _, by simp, by simp; omega, ⟨by omega, by simp, by simp, _, by simp; rfl, .inr ⟨0, n, by rw [HN.out], by rw [← HN.out]; exact h0, by rw [HN.out]; exact Nat.le_refl _, fun k hk => ?_⟩⟩, hb2.alloc hs2 _⟩
  rw [World.cell?_alloc_past _ _ _ hlt, Nat.zero_add]
  simp only [World.cell?, HW.out]
  have := byteCells_at l k hk
  simpa using this
end Go.Proofs.YtnfmgkkhejminaaGreatDoor

namespace Go.Proofs.YtnfmgkkhejminaaGreatDoor
open Go Go.RowKit Wi
theorem turned_below {w w' : World} {r B : Nat} (h : ∃ v, w' = w.setCell ⟨r, 0, none⟩ v) (hB : B ≤ r) : Below B w w' ∧ w'.heap.size = w.heap.size := by
  obtain ⟨v, rfl⟩ := h
  exact ⟨(Below.refl _ _).setCell (p := ⟨r, 0, none⟩) hB _, by simp [World.setCell]⟩
theorem Ahead.cons_form {w : World} {b : Nat} {l : List UInt8} {v : Value} (h : Ahead w b l v) (hl : 0 < l.length) : ∃ o c, v = .slice (some ⟨b, o, none⟩) l.length c ∧ l.length ≤ c ∧ ∀ k, k < l.length → w.cell? ⟨b, o + k, none⟩ = some (.int .u8 (l.getD k 0).toNat) := by
  rcases h with ⟨rfl, _⟩ | ⟨o, c, h1, _, h2, h3⟩
  · simp at hl
  · exact ⟨o, c, h1, h2, h3⟩
/-- room for n bytes -/
theorem made5 (w : World) (n : Nat) : (w.alloc (.cells (madeCells #[.int .u8 0] n) 5)).heap[w.heap.size]? = some (.cells (List.replicate n (Value.int .u8 0)).toArray 5 (0, 0)) := by
  rw [heap_alloc_new]
  congr 1
  congr 1
  apply Array.ext
  · simp [madeCells]
  · intro i h1 h2
    simp [madeCells, Nat.mod_one]
/-- copy of the first bytes of a row into a new one -/
theorem copy5 (w1 : World) (g n b o m c : Nat) (l : List UInt8) (hW : w1.heap[g]? = some (.cells (List.replicate n (Value.int .u8 0)).toArray 5 (0, 0))) (hn : n = l.length) (hm : n ≤ m) (hc : ∀ k, k < n → w1.cell? ⟨b, o + k, none⟩ = some (.int .u8 (l.getD k 0).toNat)) (B : Nat) (w : World) (hb : Below B w w1) (hB : B ≤ g) :
    ∃ W2, (Builtin.copy_ #[30, 30] 3 #[.slice (some ⟨g, 0, none⟩) n n, .slice (some ⟨b, o, none⟩) m c]).run Tryz.prog w1 = .ok (goInt n) W2 ∧ W2.heap[g]? = some (.cells (Lib.byteCells l).toArray 5 (0, 0)) ∧ Below B w W2 ∧ (∀ k, k ≠ g → W2.heap[k]? = w1.heap[k]?) ∧ W2.heap.size = w1.heap.size := by
  have hbl : (Lib.byteCells l).length = n := by rw [Lib.byteCells_length]; exact hn.symm
  have h := run_copy_row (P := Tryz.prog) w1 30 30 3 5 g 0 n n ⟨b, o, none⟩ m c _ 5 (Lib.byteCells l) Tryz.underlying30 sizeOne5 hW (by rw [hbl]; exact (Nat.min_eq_right hm).symm) (fun j v hj => by
    have hjl : j < l.length := by have := (List.getElem?_eq_some_iff.1 hj).1; rw [hbl, hn] at this; exact this
    rw [byteCells_at l j hjl] at hj
    cases hj
    have e : (⟨b, o, none⟩ : Addr).add j = ⟨b, o + j, none⟩ := by unfold Addr.add; split <;> simp_all
    rw [e]
    exact hc j (by omega)) (by rw [hbl]; simp) (byteCells_one l)
  rw [hbl] at h
  refine ⟨_, h, ?_, below_setRow hb hB _, fun k hk => setRow_other _ _ _ _ hk, by simp [World.setRow]⟩
  rw [setRow_heap _ _ _ _ _ _ hW]
  simp
structure Prep (w w2 W3 : World) (r b n B o c m : Nat) (s : List UInt8) : Prop where
  v0 : w2.cell? ⟨r, 0, none⟩ = some (.slice (some ⟨b, o, none⟩) m c)
  copy : (Builtin.copy_ #[30, 30] 3 #[.slice (some ⟨w.heap.size, 0, none⟩) n n, .slice (some ⟨b, o, none⟩) m c]).run Tryz.prog (w2.alloc (.cells (madeCells #[.int .u8 0] n) 5)) = .ok (goInt n) W3
  v3 : W3.cell? ⟨r, 0, none⟩ = some (.slice (some ⟨b, o, none⟩) m c)
  e3 : W3.cell? ⟨r, 1, none⟩ = some (.int .i64 0)
  f3 : W3.frozen? ⟨r, 0, none⟩ = false
  cap : m ≤ c
  row : W3.heap[w.heap.size]? = some (.cells (Lib.byteCells s).toArray 5 (0, 0))
  below : Below B w W3
  bytes : W3.heap[b]? = w2.heap[b]?
  size : W3.heap.size = w.heap.size + 1
theorem prep (w w2 : World) (r b n B : Nat) (s rest : List UInt8) (hr2 : RAt w2 r b (s ++ rest)) (hn : n = s.length) (h0 : 0 < n) (hr : r < w.heap.size) (hbl : b < w.heap.size) (hBw : B ≤ w.heap.size) (hb2 : Below B w w2) (hs2 : w2.heap.size = w.heap.size) :
    ∃ o c W3, Prep w w2 W3 r b n B o c (s.length + rest.length) s ∧ ∀ k, k < (s ++ rest).length → w2.cell? ⟨b, o + k, none⟩ = some (.int .u8 ((s ++ rest).getD k 0).toNat) := by
  obtain ⟨hrb, h1, hfz, v, hv0, hv⟩ := hr2
  obtain ⟨o, c, rfl, hcap, hc⟩ := hv.cons_form (by rw [List.length_append, ← hn]; omega)
  rw [List.length_append] at hv0 hcap
  obtain ⟨W3, hcopy, hW3, hb3, hoth, hs3⟩ := copy5 (w2.alloc (.cells (madeCells #[.int .u8 0] n) 5)) w.heap.size n b o (s.length + rest.length) c s (by have := made5 w2 n; rw [hs2] at this; exact this) hn (by rw [← hn]; omega) (fun k hk => by
    rw [World.cell?_alloc_past _ _ _ (by show b < w2.heap.size; omega), hc k (by rw [List.length_append, ← hn]; omega)]
    have : (s ++ rest).getD k 0 = s.getD k 0 := by
      rw [List.getD_eq_getElem?_getD, List.getElem?_append_left (by rw [← hn]; exact hk), ← List.getD_eq_getElem?_getD]
    rw [this]) B w (hb2.alloc (by omega) _) hBw
  have hrW : W3.heap[r]? = w2.heap[r]? := by rw [hoth r (by omega)]; exact Lib.alloc_old w2 _ r (by omega)
  have hbW : W3.heap[b]? = w2.heap[b]? := by rw [hoth b (by omega)]; exact Lib.alloc_old w2 _ b (by omega)
  refine ⟨o, c, W3, ⟨hv0, hcopy, (World.cell?_of_block (w := w2) hrW).trans hv0, (World.cell?_of_block (w := w2) hrW).trans h1, ?_, hcap, hW3, hb3, hbW, by rw [hs3]; simp [hs2]⟩, hc⟩
  have : W3.frozen? ⟨r, 0, none⟩ = w2.frozen? ⟨r, 0, none⟩ := by simp [World.frozen?, hrW]
  rw [this]; exact hfz
theorem Prep.done {w w2 W3 : World} {r b n B o c : Nat} {s rest : List UInt8} (h : Prep w w2 W3 r b n B o c (s.length + rest.length) s) (hc : ∀ k, k < (s ++ rest).length → w2.cell? ⟨b, o + k, none⟩ = some (.int .u8 ((s ++ rest).getD k 0).toNat)) (hn : n = s.length) (hrb : r ≠ b) (hr : r < w.heap.size) (hB : B ≤ r)
    {v : Value} (hv : (c = n ∧ v = .slice (some ⟨b, o, none⟩) (s.length + rest.length - n) 0) ∨ (¬ c = n ∧ v = .slice (some ⟨b, o + n, none⟩) (s.length + rest.length - n) (c - n))) :
    (W3.setCell ⟨r, 0, none⟩ v).heap[w.heap.size]? = some (.cells (Lib.byteCells s).toArray 5 (0, 0)) ∧ RAt (W3.setCell ⟨r, 0, none⟩ v) r b rest ∧ Below B w (W3.setCell ⟨r, 0, none⟩ v) := by
  have hcap := h.cap
  have e : s.length + rest.length - n = rest.length := by omega
  rw [e] at hv
  refine ⟨?_, rat_set hrb h.e3 h.f3 h.v3 ?_, h.below.setCell (p := ⟨r, 0, none⟩) hB _⟩
  · rw [Below.heap_setCell _ _ _ _ (by show _ ≠ r; omega)]
    exact h.row
  · cases rest with
    | nil =>
      rcases hv with ⟨_, rfl⟩ | ⟨_, rfl⟩ <;> exact .inl ⟨rfl, _, _, rfl⟩
    | cons y l =>
      rcases hv with ⟨h1, rfl⟩ | ⟨h1, rfl⟩
      · simp only [List.length_cons] at hcap
        omega
      · refine .inr ⟨o + n, c - n, rfl, by simp, by omega, fun k hk => ?_⟩
        have h2 := hc (n + k) (by rw [List.length_append]; omega)
        rw [World.cell?_of_block (w := w2) h.bytes, show o + n + k = o + (n + k) by omega, h2]
        have : (s ++ y :: l).getD (n + k) 0 = (y :: l).getD k 0 := by
          rw [List.getD_eq_getElem?_getD, List.getElem?_append_right (by omega), hn, Nat.add_sub_cancel_left, ← List.getD_eq_getElem?_getD]
        rw [this]
set_option maxHeartbeats 4000000 in
set_option maxRecDepth 100000 in
theorem rd_bytes (r b n B : Nat) (s rest : List UInt8) (w : World) (hR : RAt w r b (encI n ++ (s ++ rest))) (hn : n = s.length) (h0 : 0 < n) (hlen : (s ++ rest).length ≤ 900000) (hB : B ≤ r) (hr : r < w.heap.size) (hbl : b < w.heap.size) (hBw : B ≤ w.heap.size) :
    Calls Tryz.prog 47 #[.pointer (some ⟨r, 0, none⟩)] w fun e w' => ∃ g, e = .returned (.slice (some ⟨g, 0, none⟩) n n) ∧ w'.heap[g]? = some (.cells (Lib.byteCells s).toArray 5 (0, 0)) ∧ w.heap.size ≤ g ∧ RAt w' r b rest ∧ Below B w w' := by
  have HI := Lib.hid (rd_length r b n (s ++ rest) w hR (by rw [List.length_append]; omega) hlen)
  have hmake := run_make_row' (P := Tryz.prog) 30 5 (.int .u8 0) 1 Tryz.underlying30 info5 rfl .i64 .i64 n (by rw [List.length_append] at hlen; omega) (by rw [List.length_append] at hlen; omega)
  have HN := Lib.hid hn
  have HL := Lib.hid hlen
  have d0 : ((n : Int) == 0) = false := by simp; omega
  have hle : (n : Int) ≤ (s.length : Int) + (rest.length : Int) := by omega
  clear hR hn hlen
  go_enter Tryz.func47, Tryz.ntmps47
  go_wp2_with (go_at_call 119; go_loud (refine HI.out.mono ?_; rintro e w2 ⟨rfl, hw2, hr2⟩; obtain ⟨hb2, hs2⟩ := turned_below hw2 hB; clear hw2; have HRB := Lib.hid hr2.1; obtain ⟨o, c, W3, hP, hc⟩ := prep w w2 r b n B s rest hr2 HN.out h0 hr hbl hBw hb2 hs2; have HP := Lib.hid hP; have HC := Lib.hid hc; obtain ⟨hv0, hcopy, hv3, he3, hf3, hcap, _, _, _, hs3⟩ := hP; clear hc hr2))
  all_goals go_ret
  · obtain ⟨q1, q2, q3⟩ := HP.out.done HC.out HN.out HRB.out hr hB (.inl ⟨by assumption, rfl⟩)
    exact ⟨_, rfl, q1, Nat.le_refl _, q2, q3⟩
  · obtain ⟨q1, q2, q3⟩ := HP.out.done HC.out HN.out HRB.out hr hB (.inr ⟨by assumption, rfl⟩)
    exact ⟨_, rfl, q1, Nat.le_refl _, q2, q3⟩
end Go.Proofs.YtnfmgkkhejminaaGreatDoor

namespace Go.Proofs.YtnfmgkkhejminaaGreatDoor
open Go Go.RowKit Wi
theorem fold_push : ∀ (s : List UInt8) (acc : ByteArray), (s.map fun b => (b.toNat : Int)).foldl (fun r n => r.push (UInt8.ofNat n.toNat)) acc = ⟨acc.data ++ s.toArray⟩
  | [], acc => by simp
  | b :: s, acc => by
    simp only [List.map_cons, List.foldl_cons]
    rw [fold_push s]
    have : UInt8.ofNat ((b.toNat : Int).toNat) = b := by simp
    rw [this]
    simp [ByteArray.push]
theorem row_cell {W : World} {g : Nat} {s : List UInt8} (hrow : W.heap[g]? = some (.cells (Lib.byteCells s).toArray 5 (0, 0))) (j : Nat) (hj : j < s.length) : W.cell? ⟨g, j, none⟩ = some (.int .u8 (s.getD j 0).toNat) := by
  simp only [World.cell?, hrow]
  have := byteCells_at s j hj
  simpa using this
theorem conv_str (W : World) (g n : Nat) (s : List UInt8) (hrow : W.heap[g]? = some (.cells (Lib.byteCells s).toArray 5 (0, 0))) (hn : n = s.length) : (convert 30 9 (.slice (some ⟨g, 0, none⟩) n n)).run Tryz.prog W = .ok (.string ⟨s.toArray⟩) W := by
  rw [run_convert_bytes_string W 30 9 5 _ n n Tryz.underlying30 Tryz.underlying5 Tryz.underlying9]
  have hl := run_loadCells_list (P := Tryz.prog) W ⟨g, 0, none⟩ (Lib.byteCells s) (fun j v hj => by
    have hjl : j < s.length := by have := (List.getElem?_eq_some_iff.1 hj).1; rw [Lib.byteCells_length] at this; exact this
    rw [byteCells_at s j hjl] at hj
    cases hj
    have e : (⟨g, 0, none⟩ : Addr).add j = ⟨g, j, none⟩ := by unfold Addr.add; split <;> simp_all
    rw [e]
    exact row_cell hrow j hjl)
  rw [Lib.byteCells_length, ← hn] at hl
  have e : Lib.byteCells s = (s.map fun b => (b.toNat : Int)).map (Value.int .u8) := by simp [Lib.byteCells]
  rw [run_bytesToString W ⟨g, 0, none⟩ n n (s.map fun b => (b.toNat : Int)) (by rw [hl, e]), fold_push, show (ByteArray.empty.data ++ s.toArray) = s.toArray from by (show #[] ++ s.toArray = _; simp)]
set_option maxHeartbeats 4000000 in
set_option maxRecDepth 100000 in
theorem rd_str (r b n B : Nat) (s rest : List UInt8) (w : World) (hR : RAt w r b (encI n ++ (s ++ rest))) (hn : n = s.length) (h0 : 0 < n) (hlen : (s ++ rest).length ≤ 900000) (hB : B ≤ r) (hr : r < w.heap.size) (hbl : b < w.heap.size) (hBw : B ≤ w.heap.size) :
    Calls Tryz.prog 64 #[.pointer (some ⟨r, 0, none⟩)] w fun e w' => e = .returned (.string ⟨s.toArray⟩) ∧ RAt w' r b rest ∧ Below B w w' := by
  have HI := Lib.hid (rd_bytes r b n B s rest w hR hn h0 hlen hB hr hbl hBw)
  have HN := Lib.hid hn
  clear hR hn hlen
  go_enter Tryz.func64, Tryz.ntmps64
  go_wp2_with (go_at_call 47; go_loud (refine HI.out.mono ?_; rintro e w2 ⟨g, rfl, hrow, _, hr2, hb2⟩; have hcv := conv_str w2 g n s hrow HN.out; have HR := Lib.hid hr2; clear hr2 hrow))
  go_ret
  exact ⟨rfl, HR.out, hb2⟩
end Go.Proofs.YtnfmgkkhejminaaGreatDoor

namespace Go.Proofs.YtnfmgkkhejminaaGreatDoor
open Go Go.RowKit Wi
theorem info3 : (Tryz.prog.info? 3).map (fun i => (i.zero, i.size, i.bytes)) = some (some (.int .i64 0), 1, 8) := by kernel_rfl
/-- the first k numbers, then noughts -/
def intCells (l : List Int) (k : Nat) : List Value := ((l.take k) ++ List.replicate (l.length - k) 0).map (Value.int .i64)
theorem intCells_len (l : List Int) (k : Nat) (h : k ≤ l.length) : (intCells l k).length = l.length := by simp [intCells]; omega
theorem intCells_set (l : List Int) (k : Nat) (h : k < l.length) : (intCells l k).set k (.int .i64 (l.getD k 0)) = intCells l (k + 1) := by
  unfold intCells
  rw [← List.map_set]
  congr 1
  apply List.ext_getElem?
  intro j
  rw [List.getElem?_set]
  have hl : (l.take k).length = k := by rw [List.length_take]; omega
  have hl2 : (l.take (k + 1)).length = k + 1 := by rw [List.length_take]; omega
  by_cases h1 : k = j
  · subst h1
    rw [if_pos rfl, if_pos (by simp; omega), List.getElem?_append_left (by omega), List.getElem?_take_of_lt (by omega)]
    simp [h]
  · rw [if_neg h1]
    by_cases h2 : j < k
    · rw [List.getElem?_append_left (by omega), List.getElem?_append_left (by omega), List.getElem?_take_of_lt h2, List.getElem?_take_of_lt (by omega)]
    · rw [List.getElem?_append_right (by omega), List.getElem?_append_right (by omega), hl, hl2, List.getElem?_replicate, List.getElem?_replicate]
      by_cases h3 : j < l.length
      · rw [if_pos (by omega), if_pos (by omega)]
      · rw [if_neg (by omega), if_neg (by omega)]
theorem intCells_all (l : List Int) : intCells l l.length = l.map (Value.int .i64) := by simp [intCells]
theorem made3 (w : World) (l : List Int) (n : Nat) (hn : n = l.length) : (w.alloc (.cells (madeCells #[.int .i64 0] n) 3)).heap[w.heap.size]? = some (.cells (intCells l 0).toArray 3 (0, 0)) := by
  subst hn
  rw [heap_alloc_new]
  congr 1
  congr 1
  apply Array.ext
  · simp [madeCells, intCells]
  · intro i h1 h2
    simp [madeCells, intCells, Nat.mod_one]
theorem set_row {w : World} {g k : Nat} {L : List Value} {t : TypeId} (h : w.heap[g]? = some (.cells L.toArray t (0, 0))) (u : Value) : (w.setCell ⟨g, k, none⟩ u).heap[g]? = some (.cells (L.set k u).toArray t (0, 0)) := by
  simp only [World.setCell, Array.getElem?_modify, if_true, h, Option.map_some]
  simp
theorem RAt.other {w : World} {r b g k : Nat} {l : List UInt8} {u : Value} (h : RAt w r b l) (hr : g ≠ r) (hb : g ≠ b) : RAt (w.setCell ⟨g, k, none⟩ u) r b l := by
  have hh : ∀ i, i ≠ g → (w.setCell ⟨g, k, none⟩ u).heap[i]? = w.heap[i]? := fun i hi => Below.heap_setCell _ _ _ _ (by show i ≠ g; exact hi)
  obtain ⟨hrb, h1, hfz, v, hv0, hv⟩ := h
  refine ⟨hrb, (World.cell?_of_block (w := w) (hh r (Ne.symm hr))).trans h1, ?_, v, (World.cell?_of_block (w := w) (hh r (Ne.symm hr))).trans hv0, ?_⟩
  · have : (w.setCell ⟨g, k, none⟩ u).frozen? ⟨r, 0, none⟩ = w.frozen? ⟨r, 0, none⟩ := by simp [World.frozen?, hh r (Ne.symm hr)]
    rw [this]; exact hfz
  · rcases hv with hv | ⟨o, c, e, p, q, hc⟩
    · exact .inl hv
    · exact .inr ⟨o, c, e, p, q, fun i hi => (World.cell?_of_block (w := w) (hh b (Ne.symm hb))).trans (hc i hi)⟩
theorem RAt.alloc {w : World} {r b : Nat} {l : List UInt8} {o : Obj} (h : RAt w r b l) (hr : r < w.heap.size) (hb : b < w.heap.size) : RAt (w.alloc o) r b l := by
  obtain ⟨hrb, h1, hfz, v, hv0, hv⟩ := h
  have e : (w.alloc o).heap[r]? = w.heap[r]? := Lib.alloc_old w _ r hr
  refine ⟨hrb, (World.cell?_alloc_past _ _ _ hr).trans h1, ?_, v, (World.cell?_alloc_past _ _ _ hr).trans hv0, ?_⟩
  · have : (w.alloc o).frozen? ⟨r, 0, none⟩ = w.frozen? ⟨r, 0, none⟩ := by simp [World.frozen?, e]
    rw [this]; exact hfz
  · rcases hv with hv | ⟨o, c, e, p, q, hc⟩
    · exact .inl hv
    · exact .inr ⟨o, c, e, p, q, fun i hi => (World.cell?_alloc_past _ _ _ hb).trans (hc i hi)⟩
theorem flat_drop {l : List Int} {k : Nat} (h : k < l.length) : (l.drop k).flatMap encI = encI (l.getD k 0) ++ (l.drop (k + 1)).flatMap encI := by
  rw [List.drop_eq_getElem_cons h, List.flatMap_cons]
  simp [h]
set_option maxHeartbeats 4000000 in
set_option maxRecDepth 100000 in
theorem rd_ints (r b n B : Nat) (l : List Int) (rest : List UInt8) (w : World) (hR : RAt w r b (encI n ++ (l.flatMap encI ++ rest))) (hn : n = l.length) (h0 : 0 < n) (hmax : n ≤ 1000) (hrl : rest.length ≤ 1000) (hI : ∀ x ∈ l, I64 x) (hB : B ≤ r) (hr : r < w.heap.size) (hbl : b < w.heap.size) (hBw : B ≤ w.heap.size) :
    Calls Tryz.prog 65 #[.pointer (some ⟨r, 0, none⟩)] w fun e w' => ∃ g, e = .returned (.slice (some ⟨g, 0, none⟩) n n) ∧ w'.heap[g]? = some (.cells (l.map (Value.int .i64)).toArray 3 (0, 0)) ∧ w.heap.size ≤ g ∧ RAt w' r b rest ∧ Below B w w' := by
  have hfl := flat_len l hI
  have hge : l.length ≤ (l.flatMap encI).length := by
    clear hfl hR hn hI
    induction l with
    | nil => simp
    | cons x l ih =>
      have := venc_pos (zz x)
      simp only [List.flatMap_cons, List.length_append, List.length_cons, encI]
      omega
  have HL := Lib.hid (rd_length r b n (l.flatMap encI ++ rest) w hR (by rw [List.length_append]; omega) (by rw [List.length_append]; omega))
  have hmake := run_make_row' (P := Tryz.prog) 22 3 (.int .i64 0) 8 Tryz.underlying22 info3 rfl .i64 .i64 n (by omega) (by omega)
  have HN := Lib.hid hn
  have HI := Lib.hid hI
  have d0 : ((n : Int) == 0) = false := by simp; omega
  clear hR hn hI hge hfl
  go_enter Tryz.func65, Tryz.ntmps65
  go_wp2_with (go_at_call 119; go_loud (refine HL.out.mono ?_; rintro e w2 ⟨rfl, hw2, hr2⟩; obtain ⟨hb2, hs2⟩ := turned_below hw2 hB; clear hw2; have HR := Lib.hid hr2; clear hr2))
  have hA : RAt (w2.alloc (.cells (madeCells #[.int .i64 0] n) 3)) r b (l.flatMap encI ++ rest) := HR.out.alloc (by omega) (by omega)
  have hB1 : Below B w (w2.alloc (.cells (madeCells #[.int .i64 0] n) 3)) := hb2.alloc (by omega) _
  have hM : (w2.alloc (.cells (madeCells #[.int .i64 0] n) 3)).heap[w.heap.size]? = some (.cells (intCells l 0).toArray 3 (0, 0)) := by
    have := made3 w2 l n HN.out
    rw [hs2] at this
    exact this
  go_loopw [14] (fun j wr => ∃ k : Nat, k ≤ n ∧ j = .int .i64 k ∧ wr.heap[w.heap.size]? = some (.cells (intCells l k).toArray 3 (0, 0)) ∧ RAt wr r b ((l.drop k).flatMap encI ++ rest) ∧ Below B w wr ∧ wr.heap.size = w.heap.size + 1) (fun j _ => n - (intOf j).toNat)
  case atStart => exact ⟨0, Nat.zero_le _, rfl, hM, by simpa using hA, hB1, by simp [hs2]⟩
  case round =>
    obtain ⟨k, hk, rfl, hrow, hrr, hb, hsz⟩ := hrel
    by_cases hlt : k < n
    · have hkl : k < l.length := by rw [← HN.out]; exact hlt
      have hki : (k : Int) < n := by omega
      have hzr := HI.out (l.getD k 0) (by rw [List.getD_eq_getElem?_getD, List.getElem?_eq_getElem hkl]; exact List.getElem_mem hkl)
      have hfd := flat_drop hkl
      have hset := intCells_set l k hkl
      have hclen := intCells_len l k (Nat.le_of_lt hkl)
      obtain ⟨z, hz⟩ : ∃ z, z = l.getD k 0 := ⟨_, rfl⟩
      rw [← hz] at hzr hfd hset
      rw [hfd, List.append_assoc] at hrr
      have hdl : ((l.drop (k + 1)).flatMap encI ++ rest).length ≤ 900000 := by
        have := flat_len (l.drop (k + 1)) (fun x hx => HI.out x (List.mem_of_mem_drop hx))
        rw [List.length_append]
        have h2 : (l.drop (k + 1)).length ≤ l.length := by simp
        have h3 := HN.out
        omega
      have HZ := Lib.hid (rd_int r b z _ wr hrr hdl hzr.1 hzr.2)
      have HSET := Lib.hid hset
      have HCL := Lib.hid hclen
      clear hrr hfd hset hclen hdl hz
      go_wp2_with (go_at_call 46; go_loud (refine HZ.out.mono ?_; rintro e w3 ⟨rfl, hw3, hr3⟩; obtain ⟨hb3, hs3⟩ := turned_below hw3 hB; have hrow3 : w3.heap[w.heap.size]? = some (.cells (intCells l k).toArray 3 (0, 0)) := (by (obtain ⟨v, rfl⟩ := hw3; rw [Below.heap_setCell _ _ _ _ (by show w.heap.size ≠ r; omega)]; exact hrow)); have hrw := hr3.other (g := w.heap.size) (k := k) (u := .int .i64 z) (by omega) (by omega); have h14 := hrw.2.1; have HRW := Lib.hid hrw; have hck : w3.cell? ⟨w.heap.size, k, none⟩ = some (((intCells l k)[k]?).getD undef) := (by (simp only [World.cell?, hrow3]; have : k < (intCells l k).length := (by rw [HCL.out]; exact hkl); simp [this])); have hfk : w3.frozen? ⟨w.heap.size, k, none⟩ = false := (by simp [World.frozen?, hrow3]); have HROW := Lib.hid (set_row hrow3 (k := k) (.int .i64 z)); clear hrw hr3 hw3 hrow3))
      go_wp2
      go_roundw
      case rel => exact ⟨k + 1, by omega, by go_num, by rw [← HSET.out]; exact HROW.out, HRW.out, (hb.trans hb3).setCell (p := ⟨w.heap.size, k, none⟩) hBw _, by simp only [World.setCell, Array.size_modify]; omega⟩
      case measure => simp [intOf]; omega
    · obtain rfl : k = n := by omega
      have HF := Lib.hid (show wr.heap[w.heap.size]? = some (.cells (l.map (Value.int .i64)).toArray 3 (0, 0)) ∧ RAt wr r b rest by
        refine ⟨?_, ?_⟩
        · rw [← intCells_all l, ← HN.out]; exact hrow
        · have e : l.drop k = [] := by rw [HN.out]; simp
          rw [e] at hrr
          simpa using hrr)
      clear hrow hrr
      go_wp2
      go_ret
      exact ⟨_, rfl, HF.out.1, Nat.le_refl _, HF.out.2, hb⟩
end Go.Proofs.YtnfmgkkhejminaaGreatDoor

namespace Go.Proofs.YtnfmgkkhejminaaGreatDoor
open Go Go.RowKit Wi
theorem v66 (w : World) : Calls Tryz.prog 66 #[.int .i64 7] w fun e w' => e = .returned (.bool true) ∧ w' = w := by
  go_enter Tryz.func66, Tryz.ntmps66
  go_wp2
  go_ret
  exact ⟨rfl, rfl⟩
theorem v67 (w : World) : Calls Tryz.prog 67 #[.int .i64 0] w fun e w' => e = .returned (.bool true) ∧ w' = w := by
  go_enter Tryz.func67, Tryz.ntmps67
  go_wp2
  go_ret
  exact ⟨rfl, rfl⟩
theorem v68 (w : World) : Calls Tryz.prog 68 #[.int .i64 0] w fun e w' => e = .returned (.bool true) ∧ w' = w := by
  go_enter Tryz.func68, Tryz.ntmps68
  go_wp2
  go_ret
  exact ⟨rfl, rfl⟩
theorem v69 (w : World) : Calls Tryz.prog 69 #[.int .i64 1] w fun e w' => e = .returned (.bool true) ∧ w' = w := by
  go_enter Tryz.func69, Tryz.ntmps69
  go_wp2
  go_ret
  exact ⟨rfl, rfl⟩
theorem v70 (w : World) : Calls Tryz.prog 70 #[.string ⟨#[109, 97, 105, 110]⟩, .int .i64 1] w fun e w' => e = .returned (.bool true) ∧ w' = w := by
  have hs : (⟨#[109, 97, 105, 110]⟩ : ByteArray).size = 4 := rfl
  go_enter Tryz.func70, Tryz.ntmps70
  go_wp2
  go_ret
  exact ⟨rfl, rfl⟩
end Go.Proofs.YtnfmgkkhejminaaGreatDoor

namespace Go.Proofs.YtnfmgkkhejminaaGreatDoor
open Go Go.RowKit Wi
def mainB : List UInt8 := [109, 97, 105, 110]
/-- the bytes of a line, one behind the other -/
def lineL (st si : Int) (l : List Int) : List UInt8 := encI 7 ++ (encI st ++ (encI si ++ (encI 0 ++ (encI 1 ++ (encI 4 ++ (mainB ++ (encI 1 ++ (encI l.length ++ (l.flatMap encI ++ [])))))))))
theorem cat_line (st si : Int) (l : List Int) : cat (lb 7 st si 0 1 1 mainB l) 8 = lineL st si l := by
  simp [cat, lb, ln, lineL, encS, encL, mainB]
theorem ints_cell {W : World} {g : Nat} {l : List Int} (h : W.heap[g]? = some (.cells (l.map (Value.int .i64)).toArray 3 (0, 0))) (k : Nat) (hk : k < l.length) : W.cell? ⟨g, k, none⟩ = some (.int .i64 (l.getD k 0)) := by
  simp only [World.cell?, h]
  simp [hk]
set_option maxHeartbeats 8000000 in
set_option maxRecDepth 100000 in
theorem unmarshal_bad (g n N cap : Nat) (st si : Int) (l : List Int) (w : World) (hst : (st = 2 ∧ si = -1) ∨ (st = 3 ∧ si = 0)) (hn : n = l.length) (hmax : n ≤ 10) (hI : ∀ x ∈ l, I64 x) (hbad : ∃ x ∈ l, ¬ (0 ≤ x ∧ x ≤ 15))
    (hN : N = (lineL st si l).length) (hg : g < w.heap.size) (hc : ∀ k, k < N → w.cell? ⟨g, k, none⟩ = some (.int .u8 ((lineL st si l).getD k 0).toNat)) :
    Calls Tryz.prog 24 #[.slice (some ⟨g, 0, none⟩) N cap] w fun e w' => e = .returned (.tuple #[.pointer none, .int .i64 2]) ∧ Below w.heap.size w w' := by
  have hfl := flat_len l hI
  have hlen : (lineL st si l).length ≤ 900000 := by
    have e1 := encI_len10 (n := 7) (by decide) (by decide)
    have e2 := encI_len10 (n := st) (by omega) (by omega)
    have e3 := encI_len10 (n := si) (by omega) (by omega)
    have e4 := encI_len10 (n := 0) (by decide) (by decide)
    have e5 := encI_len10 (n := 1) (by decide) (by decide)
    have e6 := encI_len10 (n := 4) (by decide) (by decide)
    have e7 := encI_len10 (n := l.length) (by omega) (by omega)
    have e8 : mainB.length = 4 := rfl
    unfold lineL
    simp only [List.length_append, List.length_nil]
    omega
  have h0N : 0 < N := by
    rw [hN]
    unfold lineL
    have : 0 < (encI 7).length := venc_pos _
    simp only [List.length_append]
    omega
  have HNR := Lib.hid (newReader g N cap (lineL st si l) w hN h0N (by omega) hg hc)
  have hl0 : 0 < n := by
    obtain ⟨x, hx, _⟩ := hbad
    rw [hn]
    exact List.length_pos_of_mem hx
  have HN := Lib.hid hn
  have HI := Lib.hid hI
  have HBAD := Lib.hid hbad
  unfold lineL at HNR hlen
  have e4 : (encI 4 ++ (mainB ++ (encI 1 ++ (encI l.length ++ (l.flatMap encI ++ []))))) = encI ((4 : Nat) : Int) ++ (mainB ++ (encI 1 ++ (encI (n : Int) ++ (l.flatMap encI ++ [])))) := by rw [hn]; rfl
  rw [e4] at HNR hlen
  clear hfl hc hN h0N hn hI hbad e4 hg
  have HE := Lib.hid (show ∀ x : Int, 0 < (encI x).length from fun x => venc_pos _)
  rcases hst with ⟨rfl, rfl⟩ | ⟨rfl, rfl⟩
  · go_enter Tryz.func24, Tryz.ntmps24
    go_wp2_with (first
      | (go_at_call 45; go_loud (refine HNR.out.mono ?_; rintro e W ⟨r, b, rfl, hBr, hBb, hrs, hbs, hra, hbb⟩))
      | (go_at_call 46; go_loud (refine (rd_int r b _ _ _ hra (by simp only [List.length_append] at hlen ⊢; omega) (by decide) (by decide)).mono ?_; rintro e W1 ⟨rfl, hW1, hra1⟩; obtain ⟨hb1, hs1⟩ := turned_below hW1 hBr; replace hbb := hbb.trans hb1; replace hra := hra1; replace hrs : r < W1.heap.size := (by rw [hs1]; exact hrs); replace hbs : b < W1.heap.size := (by rw [hs1]; exact hbs); rw [List.length_append] at hlen; replace hlen := Nat.le_trans (Nat.le_add_left _ _) hlen; clear hb1 hs1 hW1 hra1))
      | (go_at_call 64; go_loud (refine (rd_str r b 4 w.heap.size [109, 97, 105, 110] _ _ hra rfl (by decide) (by rw [List.length_append] at hlen; exact Nat.le_trans (Nat.le_add_left _ _) hlen) hBr hrs hbs hbb.size).mono ?_; rintro e W1 ⟨rfl, hra1, hb1⟩; replace hbb := hbb.trans hb1; replace hra := hra1; replace hrs : r < W1.heap.size := Nat.lt_of_lt_of_le hrs hb1.size; replace hbs : b < W1.heap.size := Nat.lt_of_lt_of_le hbs hb1.size; rw [List.length_append, List.length_append] at hlen; replace hlen := Nat.le_trans (Nat.le_add_left _ _) (Nat.le_trans (Nat.le_add_left _ _) hlen); clear hb1 hra1))
      | (go_at_call 65; go_loud (refine (rd_ints r b n w.heap.size l [] _ hra HN.out hl0 (by omega) (by simp) HI.out hBr hrs hbs hbb.size).mono ?_; rintro e W1 ⟨g2, rfl, hrow, hg2, hra1, hb1⟩; replace hbb := hbb.trans hb1; have HFIN := Lib.hid (rd_finish r b W1 hra1); have HROW := Lib.hid hrow; clear hb1 hra1 hra hrow hlen))
      | (go_at_call 48; go_loud (refine HFIN.out.mono ?_; rintro e W2 ⟨rfl, rfl⟩))
      | (go_at_call 66; refine (v66 _).mono ?_; rintro e W3 ⟨rfl, rfl⟩)
      | (go_at_call 67; refine (v67 _).mono ?_; rintro e W3 ⟨rfl, rfl⟩)
      | (go_at_call 68; refine (v68 _).mono ?_; rintro e W3 ⟨rfl, rfl⟩)
      | (go_at_call 69; refine (v69 _).mono ?_; rintro e W3 ⟨rfl, rfl⟩)
      | (go_at_call 70; refine (v70 _).mono ?_; rintro e W3 ⟨rfl, rfl⟩))
    go_loop [115] (fun j => ∃ k : Nat, k ≤ n ∧ j = .int .i64 k ∧ ∀ i, i < k → 0 ≤ l.getD i 0 ∧ l.getD i 0 ≤ 15) (fun j => n - (intOf j).toNat)
    case atStart => exact ⟨0, Nat.zero_le _, rfl, fun i hi => by omega⟩
    case round =>
      obtain ⟨k, hk, rfl, hgood⟩ := hrel
      by_cases hlt : k < n
      · have hkl : k < l.length := by rw [← HN.out]; exact hlt
        have hki : (k : Int) < n := by omega
        have hcell := ints_cell HROW.out k hkl
        obtain ⟨z, hz⟩ : ∃ z, z = l.getD k 0 := ⟨_, rfl⟩
        have HG := Lib.hid hgood
        have HZ := Lib.hid hz
        rw [← hz] at hcell
        clear hgood hz
        by_cases hz0 : z < 0
        · go_wp2
          go_ret2
          exact ⟨rfl, hbb⟩
        · by_cases hz1 : z > 15
          · go_wp2
            go_ret2
            exact ⟨rfl, hbb⟩
          · go_wp2
            go_round
            case rel =>
              refine ⟨k + 1, by omega, by go_num, fun i hi => ?_⟩
              rcases Nat.lt_or_ge i k with h1 | h1
              · exact HG.out i h1
              · obtain rfl : i = k := by omega
                rw [← HZ.out]
                omega
            case measure => simp [intOf]; omega
      · obtain rfl : k = n := by omega
        exfalso
        obtain ⟨x, hx, hxb⟩ := HBAD.out
        obtain ⟨i, hi⟩ := List.getElem?_of_mem hx
        obtain ⟨hil, he⟩ := List.getElem?_eq_some_iff.1 hi
        have := hgood i (by rw [HN.out]; exact hil)
        rw [List.getD_eq_getElem?_getD, hi] at this
        exact hxb this
  · go_enter Tryz.func24, Tryz.ntmps24
    go_wp2_with (first
      | (go_at_call 45; go_loud (refine HNR.out.mono ?_; rintro e W ⟨r, b, rfl, hBr, hBb, hrs, hbs, hra, hbb⟩))
      | (go_at_call 46; go_loud (refine (rd_int r b _ _ _ hra (by simp only [List.length_append] at hlen ⊢; omega) (by decide) (by decide)).mono ?_; rintro e W1 ⟨rfl, hW1, hra1⟩; obtain ⟨hb1, hs1⟩ := turned_below hW1 hBr; replace hbb := hbb.trans hb1; replace hra := hra1; replace hrs : r < W1.heap.size := (by rw [hs1]; exact hrs); replace hbs : b < W1.heap.size := (by rw [hs1]; exact hbs); rw [List.length_append] at hlen; replace hlen := Nat.le_trans (Nat.le_add_left _ _) hlen; clear hb1 hs1 hW1 hra1))
      | (go_at_call 64; go_loud (refine (rd_str r b 4 w.heap.size [109, 97, 105, 110] _ _ hra rfl (by decide) (by rw [List.length_append] at hlen; exact Nat.le_trans (Nat.le_add_left _ _) hlen) hBr hrs hbs hbb.size).mono ?_; rintro e W1 ⟨rfl, hra1, hb1⟩; replace hbb := hbb.trans hb1; replace hra := hra1; replace hrs : r < W1.heap.size := Nat.lt_of_lt_of_le hrs hb1.size; replace hbs : b < W1.heap.size := Nat.lt_of_lt_of_le hbs hb1.size; rw [List.length_append, List.length_append] at hlen; replace hlen := Nat.le_trans (Nat.le_add_left _ _) (Nat.le_trans (Nat.le_add_left _ _) hlen); clear hb1 hra1))
      | (go_at_call 65; go_loud (refine (rd_ints r b n w.heap.size l [] _ hra HN.out hl0 (by omega) (by simp) HI.out hBr hrs hbs hbb.size).mono ?_; rintro e W1 ⟨g2, rfl, hrow, hg2, hra1, hb1⟩; replace hbb := hbb.trans hb1; have HFIN := Lib.hid (rd_finish r b W1 hra1); have HROW := Lib.hid hrow; clear hb1 hra1 hra hrow hlen))
      | (go_at_call 48; go_loud (refine HFIN.out.mono ?_; rintro e W2 ⟨rfl, rfl⟩))
      | (go_at_call 66; refine (v66 _).mono ?_; rintro e W3 ⟨rfl, rfl⟩)
      | (go_at_call 67; refine (v67 _).mono ?_; rintro e W3 ⟨rfl, rfl⟩)
      | (go_at_call 68; refine (v68 _).mono ?_; rintro e W3 ⟨rfl, rfl⟩)
      | (go_at_call 69; refine (v69 _).mono ?_; rintro e W3 ⟨rfl, rfl⟩)
      | (go_at_call 70; refine (v70 _).mono ?_; rintro e W3 ⟨rfl, rfl⟩))
    go_loop [115] (fun j => ∃ k : Nat, k ≤ n ∧ j = .int .i64 k ∧ ∀ i, i < k → 0 ≤ l.getD i 0 ∧ l.getD i 0 ≤ 15) (fun j => n - (intOf j).toNat)
    case atStart => exact ⟨0, Nat.zero_le _, rfl, fun i hi => by omega⟩
    case round =>
      obtain ⟨k, hk, rfl, hgood⟩ := hrel
      by_cases hlt : k < n
      · have hkl : k < l.length := by rw [← HN.out]; exact hlt
        have hki : (k : Int) < n := by omega
        have hcell := ints_cell HROW.out k hkl
        obtain ⟨z, hz⟩ : ∃ z, z = l.getD k 0 := ⟨_, rfl⟩
        have HG := Lib.hid hgood
        have HZ := Lib.hid hz
        rw [← hz] at hcell
        clear hgood hz
        by_cases hz0 : z < 0
        · go_wp2
          go_ret2
          exact ⟨rfl, hbb⟩
        · by_cases hz1 : z > 15
          · go_wp2
            go_ret2
            exact ⟨rfl, hbb⟩
          · go_wp2
            go_round
            case rel =>
              refine ⟨k + 1, by omega, by go_num, fun i hi => ?_⟩
              rcases Nat.lt_or_ge i k with h1 | h1
              · exact HG.out i h1
              · obtain rfl : i = k := by omega
                rw [← HZ.out]
                omega
            case measure => simp [intOf]; omega
      · obtain rfl : k = n := by omega
        exfalso
        obtain ⟨x, hx, hxb⟩ := HBAD.out
        obtain ⟨i, hi⟩ := List.getElem?_of_mem hx
        obtain ⟨hil, he⟩ := List.getElem?_eq_some_iff.1 hi
        have := hgood i (by rw [HN.out]; exact hil)
        rw [List.getD_eq_getElem?_getD, hi] at this
        exact hxb this
end Go.Proofs.YtnfmgkkhejminaaGreatDoor

namespace Go.Proofs.YtnfmgkkhejminaaGreatDoor
open Go Go.RowKit Wi
theorem zpk {w W : World} (hW : Below (w.alloc (.cells #[.int .i64 0, .int .i64 0, .slice none 0 0] 33)).heap.size (w.alloc (.cells #[.int .i64 0, .int .i64 0, .slice none 0 0] 33)) W) :
    W.cell? ⟨w.heap.size, 0, none⟩ = some (.int .i64 0) ∧ W.cell? ⟨w.heap.size, 1, none⟩ = some (.int .i64 0) ∧ W.cell? ⟨w.heap.size, 2, none⟩ = some (.slice none 0 0) ∧ W.frozen? ⟨w.heap.size, 0, none⟩ = false ∧ W.frozen? ⟨w.heap.size, 1, none⟩ = false ∧ W.frozen? ⟨w.heap.size, 2, none⟩ = false := by
  have hq : W.heap[w.heap.size]? = some (.cells #[.int .i64 0, .int .i64 0, .slice none 0 0] 33) := by rw [hW.block _ (by simp)]; show (w.heap.push _)[w.heap.size]? = _; simp
  simp [World.cell?, World.frozen?, hq]
set_option maxHeartbeats 4000000 in
set_option maxRecDepth 100000 in
theorem offer_bad (d o g n N cap : Nat) (st si : Int) (l : List Int) (w : World) (hst : (st = 2 ∧ si = -1) ∨ (st = 3 ∧ si = 0)) (hn : n = l.length) (hmax : n ≤ 10) (hI : ∀ x ∈ l, I64 x) (hbad : ∃ x ∈ l, ¬ (0 ≤ x ∧ x ≤ 15))
    (hN : N = (lineL st si l).length) (hg : g < w.heap.size) (hc : ∀ k, k < N → w.cell? ⟨g, k, none⟩ = some (.int .u8 ((lineL st si l).getD k 0).toNat)) (hd : w.cell? ⟨d, o + 1, none⟩ = some (.int .i64 3)) (hds : d < w.heap.size) :
    Calls Tryz.prog 9 #[.pointer (some ⟨d, o, none⟩), .slice (some ⟨g, 0, none⟩) N cap, .slice none 0 0, .int .i64 1, .int .i64 100] w fun e w' => e = .returned (.tuple #[.agg #[.int .i64 0, .int .i64 0, .slice none 0 0], .int .i64 2]) ∧ Below w.heap.size w w' := by
  have HU := Lib.hid (show ∀ W, Below w.heap.size w W → Calls Tryz.prog 24 #[.slice (some ⟨g, 0, none⟩) N cap] W fun e w' => e = .returned (.tuple #[.pointer none, .int .i64 2]) ∧ Below W.heap.size W w' from fun W hW =>
    unmarshal_bad g n N cap st si l W hst hn hmax hI hbad hN (Nat.lt_of_lt_of_le hg hW.size) fun k hk => by rw [hW.cell hg]; exact hc k hk)
  clear hst hn hmax hI hbad hN hc
  go_enter Tryz.func9, Tryz.ntmps9
  go_wp2_with (first
      | (go_at_call 24; go_loud (refine (HU.out _ ((Below.refl _ w).alloc (Nat.le_refl _) _)).mono ?_; rintro e W ⟨rfl, hW⟩; obtain ⟨hq0, hq1, hq2, hf0, hf1, hf2⟩ := zpk hW)))
  have hB : Below w.heap.size w W := ((Below.refl _ w).alloc (Nat.le_refl _) _).trans (hW.mono (by simp))
  refine bodyPost_ret (v := .tuple #[.agg #[.int .i64 0, .int .i64 0, .slice none 0 0], .int .i64 2]) ?_ rfl ⟨rfl, ((hB.setCell (Nat.le_refl _) _).setCell (Nat.le_refl _) _).setCell (Nat.le_refl _) _⟩
  simp [results, Tryz.results9, go_sem, hq0, hq1, hq2]
end Go.Proofs.YtnfmgkkhejminaaGreatDoor
