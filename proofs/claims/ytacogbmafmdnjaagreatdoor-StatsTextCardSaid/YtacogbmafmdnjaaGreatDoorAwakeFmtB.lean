/-
  What the reference's Num answers in this program: the decimal numeral of every number of 64 bits.
-/
import Derived.Test.YtacogbmafmdnjaaGreatDoorProg
import Derived.Lib.ItoaNum
import Derived.Lib.ItoaMem
import Derived.Lib.ItoaLen
import Derived.Laws.BytesArg
import Derived.WalkKit
import Derived.Lib.Hide
import Derived.KernelRfl
namespace Go.Proofs.YtacogbmafmdnjaaGreatDoor
open Go Go.RowKit

/-- a string of one byte -/
theorem conv1 (W : World) (c : Int) : (convert 61 9 (.slice (some ⟨W.heap.size, 0, none⟩) 1 1)).run Tryz.prog (W.alloc (.cells #[.int .u8 c] 5)) = .ok (.string ⟨#[UInt8.ofNat c.toNat]⟩) (W.alloc (.cells #[.int .u8 c] 5)) := by
  have h := run_convert_bytes_arg (P := Tryz.prog) (W.alloc (.cells #[.int .u8 c] 5)) 61 5 Tryz.underlying61 Tryz.underlying5 W.heap.size 0 1 1 [c] rfl (fun i hi => by
    obtain rfl : i = 0 := by omega
    simp) 9 Tryz.underlying9
  rw [h]
  rfl

set_option maxHeartbeats 1000000 in
set_option maxRecDepth 100000 in
theorem num_small (n : Int) (w : World) (h0 : 0 ≤ n) (h1 : n < 10) :
    Calls Tryz.prog 47 #[.int .i64 n] w fun e w' => e = .returned (.string ⟨#[UInt8.ofNat (48 + n % 10).toNat]⟩) ∧ Below w.heap.size w w' := by
  have hcv := conv1
  go_enter Tryz.func47, Tryz.ntmps47
  go_wp2
  go_ret
  exact ⟨rfl, (Below.refl _ _).alloc (Nat.le_refl _) _⟩

set_option maxHeartbeats 1000000 in
set_option maxRecDepth 100000 in
theorem num_step (n : Int) (w : World) (s : ByteArray) (h0 : 10 ≤ n) (h1 : n ≤ 9223372036854775807) (hs : s.size ≤ 1000)
    (ih : ∀ W : World, Calls Tryz.prog 47 #[.int .i64 (n / 10)] W fun e w' => e = .returned (.string s) ∧ Below W.heap.size W w') :
    Calls Tryz.prog 47 #[.int .i64 n] w fun e w' => e = .returned (.string (s ++ ⟨#[UInt8.ofNat (48 + n % 10).toNat]⟩)) ∧ Below w.heap.size w w' := by
  have hcv := conv1
  have IH := Lib.hid ih
  clear ih
  go_enter Tryz.func47, Tryz.ntmps47
  go_wp2_with (go_at_call 47; refine (IH.out _).mono ?_; rintro e w1 ⟨rfl, hb1⟩)
  go_ret
  exact ⟨rfl, ((Below.refl _ _).alloc (Nat.le_refl _) _).trans (hb1.mono (by simp))⟩

theorem digits_size (n : Int) (h0 : 0 ≤ n) (h1 : n ≤ 9223372036854775807) : (Lib.decDigits n.toNat).length ≤ 21 := by
  have := Lib.itoa_length_le n (by omega) h1
  unfold Lib.itoa at this
  rwa [if_neg (by omega)] at this

theorem num_nn : ∀ (u : Nat) (n : Int), n.toNat < u → 0 ≤ n → n ≤ 9223372036854775807 → ∀ w : World,
    Calls Tryz.prog 47 #[.int .i64 n] w fun e w' => e = .returned (.string ⟨(Lib.decDigits n.toNat).toArray⟩) ∧ Below w.heap.size w w'
  | 0, n, h, _, _, _ => by omega
  | u + 1, n, h, h0, h1, w => by
    by_cases h10 : n < 10
    · refine (num_small n w h0 h10).mono fun e w' ⟨he, hb⟩ => ⟨?_, hb⟩
      rw [he, Lib.decDigits_one (by omega)]
      have e1 : (48 + n % 10).toNat = 48 + n.toNat := by omega
      rw [e1]
    · have e2 : (n / 10).toNat = n.toNat / 10 := by omega
      have hd := digits_size (n / 10) (by omega) (by omega)
      refine (num_step n w ⟨(Lib.decDigits (n / 10).toNat).toArray⟩ (by omega) h1 (by show (Lib.decDigits (n / 10).toNat).toArray.size ≤ 1000; simp; omega) (fun W => num_nn u (n / 10) (by omega) (by omega) (by omega) W)).mono fun e w' ⟨he, hb⟩ => ⟨?_, hb⟩
      rw [he, e2]
      congr 2
      rw [Lib.decDigits.eq_def n.toNat, dif_neg (by omega)]
      have e1 : (48 + n % 10).toNat = 48 + n.toNat % 10 := by omega
      rw [e1]
      apply ByteArray.ext
      simp [ByteArray.data_append]

set_option maxHeartbeats 1000000 in
set_option maxRecDepth 100000 in
theorem num_neg (n : Int) (w : World) (h0 : n < 0) (h1 : -9223372036854775808 < n) :
    Calls Tryz.prog 47 #[.int .i64 n] w fun e w' => e = .returned (.string (⟨#[45]⟩ ++ ⟨(Lib.decDigits (-n).toNat).toArray⟩)) ∧ Below w.heap.size w w' := by
  have ih : ∀ W : World, Calls Tryz.prog 47 #[.int .i64 (-n)] W fun e w' => e = .returned (.string ⟨(Lib.decDigits (-n).toNat).toArray⟩) ∧ Below W.heap.size W w' := fun W => by
    exact num_nn ((-n).toNat + 1) (-n) (by omega) (by omega) (by omega) W
  have hsz : (⟨(Lib.decDigits (-n).toNat).toArray⟩ : ByteArray).size ≤ 1000 := by
    have := digits_size (-n) (by omega) (by omega)
    show (Lib.decDigits (-n).toNat).toArray.size ≤ 1000
    simp; omega
  generalize (⟨(Lib.decDigits (-n).toNat).toArray⟩ : ByteArray) = s at ih hsz ⊢
  have IH := Lib.hid ih
  clear ih
  go_enter Tryz.func47, Tryz.ntmps47
  go_wp2_with fail
  refine (IH.out _).mono ?_
  rintro e w1 ⟨rfl, hb1⟩
  go_wp2
  go_ret
  exact ⟨rfl, hb1⟩

set_option maxHeartbeats 1000000 in
set_option maxRecDepth 100000 in
theorem num_min (w : World) :
    Calls Tryz.prog 47 #[.int .i64 (-9223372036854775808)] w fun e w' => e = .returned (.string ⟨#[45, 57, 50, 50, 51, 51, 55, 50, 48, 51, 54, 56, 53, 52, 55, 55, 53, 56, 48, 56]⟩) ∧ w' = w := by
  go_enter Tryz.func47, Tryz.ntmps47
  go_wp2
  go_ret
  exact ⟨rfl, rfl⟩

theorem itoa_min : Lib.itoa (-9223372036854775808) = [45, 57, 50, 50, 51, 51, 55, 50, 48, 51, 54, 56, 53, 52, 55, 55, 53, 56, 48, 56] := by
  have e := Lib.itoa_neg 9223372036854775808 (by omega)
  rw [show (-((9223372036854775808 : Nat) : Int)) = -9223372036854775808 by rfl] at e
  rw [e]
  simp [Lib.decDigits]

theorem num_any (n : Int) (w : World) (h0 : -9223372036854775808 ≤ n) (h1 : n ≤ 9223372036854775807) :
    Calls Tryz.prog 47 #[.int .i64 n] w fun e w' => e = .returned (.string ⟨(Lib.itoa n).toArray⟩) ∧ Below w.heap.size w w' := by
  by_cases hn : n < 0
  · by_cases hm : -9223372036854775808 < n
    · refine (num_neg n w hn hm).mono fun e w' ⟨he, hb⟩ => ⟨?_, hb⟩
      rw [he]
      unfold Lib.itoa
      rw [if_pos hn, show n.natAbs = (-n).toNat by omega]
      congr 2
    · obtain rfl : n = -9223372036854775808 := by omega
      refine (num_min w).mono fun e w' ⟨he, hw⟩ => ⟨?_, by rw [hw]; exact Below.refl _ _⟩
      rw [he, itoa_min]
  · refine (num_nn (n.toNat + 1) n (by omega) (by omega) h1 w).mono fun e w' ⟨he, hb⟩ => ⟨?_, hb⟩
    rw [he]
    unfold Lib.itoa
    rw [if_neg hn]

end Go.Proofs.YtacogbmafmdnjaaGreatDoor
