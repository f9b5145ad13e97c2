/-
  What the small tests of configurations answer in this program, for all arguments.
-/
import Derived.Test.YtgaimkgaooiieaaGreatDoorAwakeCfgA
namespace Go.Proofs.YtgaimkgaooiieaaGreatDoor
open Go Go.RowKit

theorem ret_bool {a b : Bool} (h : a = b) : Ending.returned (.bool a) = .returned (.bool b) := by rw [h]
theorem idx_any (i n : Int) (w : World) : Calls Tryz.prog 63 #[.int .i64 i, .int .i64 n] w fun e w' => e = .returned (.bool (idxB i n)) ∧ w = w' := by
  by_cases h1 : 0 ≤ i
  · by_cases h2 : i < n
    · have HR := Lib.hid (show idxB i n = true from decide_eq_true ⟨h1, h2⟩)
      go_enter Tryz.func63, Tryz.ntmps63
      go_wp2
      go_ret
      exact ⟨by rw [HR.out]; rfl, rfl⟩
    · have HR := Lib.hid (show idxB i n = false from decide_eq_false (by omega))
      go_enter Tryz.func63, Tryz.ntmps63
      go_wp2
      go_ret
      exact ⟨by rw [HR.out]; rfl, rfl⟩
  · have HR := Lib.hid (show idxB i n = false from decide_eq_false (by omega))
    go_enter Tryz.func63, Tryz.ntmps63
    go_wp2
    go_ret
    exact ⟨by rw [HR.out]; rfl, rfl⟩
theorem kind_any (k : Int) (w : World) : Calls Tryz.prog 132 #[.int .i64 k] w fun e w' => e = .returned (.bool (kindB k)) ∧ w = w' := by
  by_cases h1 : 1 ≤ k
  · by_cases h2 : k ≤ 4
    · have HR := Lib.hid (show kindB k = true from decide_eq_true ⟨h1, h2⟩)
      go_enter Tryz.func132, Tryz.ntmps132
      go_wp2
      go_ret
      exact ⟨by rw [HR.out]; rfl, rfl⟩
    · have HR := Lib.hid (show kindB k = false from decide_eq_false (by omega))
      go_enter Tryz.func132, Tryz.ntmps132
      go_wp2
      go_ret
      exact ⟨by rw [HR.out]; rfl, rfl⟩
  · have HR := Lib.hid (show kindB k = false from decide_eq_false (by omega))
    go_enter Tryz.func132, Tryz.ntmps132
    go_wp2
    go_ret
    exact ⟨by rw [HR.out]; rfl, rfl⟩
def withinB (n l h : Int) : Bool := decide (l ≤ n ∧ n ≤ h)
theorem within_any (n l h : Int) (w : World) : Calls Tryz.prog 29 #[.int .i64 n, .int .i64 l, .int .i64 h] w fun e w' => e = .returned (.bool (withinB n l h)) ∧ w = w' := by
  by_cases h1 : l ≤ n
  · by_cases h2 : n ≤ h
    · have HR := Lib.hid (show withinB n l h = true from decide_eq_true ⟨h1, h2⟩)
      go_enter Tryz.func29, Tryz.ntmps29
      go_wp2
      go_ret
      exact ⟨by rw [HR.out]; rfl, rfl⟩
    · have HR := Lib.hid (show withinB n l h = false from decide_eq_false (by omega))
      go_enter Tryz.func29, Tryz.ntmps29
      go_wp2
      go_ret
      exact ⟨by rw [HR.out]; rfl, rfl⟩
  · have HR := Lib.hid (show withinB n l h = false from decide_eq_false (by omega))
    go_enter Tryz.func29, Tryz.ntmps29
    go_wp2
    go_ret
    exact ⟨by rw [HR.out]; rfl, rfl⟩

set_option maxRecDepth 100000 in
theorem unit_any (cen : Int) (Ad : Option Addr) (nd cd : Nat) (x2 x3 x4 x5 x6 x7 x8 x9 x10 x11 x12 x13 x14 : Value) (u : TriD) (w : World) (_hnd : nd ≤ 140737488355328) :
    Calls Tryz.prog 26 #[.agg #[.int .i64 cen, .slice Ad nd cd, x2, x3, x4, x5, x6, x7, x8, x9, x10, x11, x12, x13, x14], .agg #[.int .i64 u.x, .int .i64 u.y, .int .i64 u.z]] w (Says (unitB cen nd u) w) := by
  obtain ⟨k, h, n⟩ := u
  have hB : Below w.heap.size w ((w.alloc (.cells #[.int .i64 cen, .slice Ad nd cd, x2, x3, x4, x5, x6, x7, x8, x9, x10, x11, x12, x13, x14] 27)).alloc (.cells #[.int .i64 k, .int .i64 h, .int .i64 n] 88)) := ((Below.refl _ w).alloc (Nat.le_refl _) _).alloc (by simp) _
  have HB := Lib.hid hB
  clear hB
  go_enter Tryz.func26, Tryz.ntmps26
  go_wp2
  all_goals
    go_ret
    refine ⟨ret_bool ?_, HB.out⟩
    rw [Bool.eq_iff_iff]
    simp [unitB, kindB, idxB]
    omega
set_option maxRecDepth 100000 in
theorem edge_any (x0 : Value) (Ad : Option Addr) (nd cd : Nat) (x2 x3 x4 x5 x6 x7 x8 x9 x10 x11 x12 x13 x14 : Value) (u : TriD) (w : World) (_hnd : nd ≤ 140737488355328) :
    Calls Tryz.prog 25 #[.agg #[x0, .slice Ad nd cd, x2, x3, x4, x5, x6, x7, x8, x9, x10, x11, x12, x13, x14], .agg #[.int .i64 u.x, .int .i64 u.y, .int .i64 u.z]] w (Says (edgeB nd u) w) := by
  obtain ⟨f, t, z⟩ := u
  have hB : Below w.heap.size w ((w.alloc (.cells #[x0, .slice Ad nd cd, x2, x3, x4, x5, x6, x7, x8, x9, x10, x11, x12, x13, x14] 27)).alloc (.cells #[.int .i64 f, .int .i64 t, .int .i64 z] 85)) := ((Below.refl _ w).alloc (Nat.le_refl _) _).alloc (by simp) _
  have HB := Lib.hid hB
  clear hB
  go_enter Tryz.func25, Tryz.ntmps25
  go_wp2
  all_goals
    go_ret
    refine ⟨ret_bool ?_, HB.out⟩
    rw [Bool.eq_iff_iff]
    simp [edgeB, timeB, idxB]
    omega
theorem bytes_snoc {s : ByteArray} {k : Nat} (h : k < s.size) (hp : (s.data.toList.take k).all byteB = true) (hb : byteB s[k] = true) : (s.data.toList.take (k + 1)).all byteB = true := by
  rw [List.take_succ_eq_append_getElem (by simpa using h), List.all_append, hp]
  simpa using (show byteB s.data[k] = true from hb)
theorem code_no {s : ByteArray} {k : Nat} (h : k < s.size) (hb : byteB s[k] = false) : codeB s = false := by
  have : s.data.toList.all byteB = false := by
    rw [List.all_eq_false]
    exact ⟨s[k], List.getElem_mem (by simpa using h), by simp [hb]⟩
  simp [codeB, this]
theorem code_yes {s : ByteArray} (hp : (s.data.toList.take s.size).all byteB = true) (v : Bool) (hv : decide (1 ≤ s.size ∧ s.size ≤ 40) = v) : codeB s = v := by
  rw [List.take_of_length_le (by simp)] at hp
  simp [codeB, hp, ← hv]
theorem code_size {s : ByteArray} (h : ¬ (1 ≤ s.size ∧ s.size ≤ 40)) : codeB s = false := by
  simp only [codeB, decide_eq_false h, Bool.and_false]
set_option maxHeartbeats 2000000 in
theorem code_ref (s : ByteArray) (w : World) (hs : s.size ≤ 140737488355328) : Calls Tryz.prog 68 #[.string s] w fun e w' => e = .returned (.bool (codeB s)) ∧ w = w' := by
  go_enter Tryz.func68, Tryz.ntmps68
  go_wp2
  go_loop [3] (fun i => ∃ k : Nat, k ≤ s.size ∧ i = .int .i64 k ∧ Hid ((s.data.toList.take k).all byteB = true)) (fun i => s.size - (intOf i).toNat)
  case atStart => exact ⟨0, Nat.zero_le _, rfl, Lib.hid rfl⟩
  case round =>
    obtain ⟨k, hk, rfl, HP⟩ := hrel
    by_cases hlt : k < s.size
    · by_cases hb : byteB s[k] = true
      · have HS := Lib.hid (bytes_snoc hlt HP.out hb)
        have h33 : 33 ≤ (s[k].toNat : Int) := (of_decide_eq_true hb).1
        have h126 : (s[k].toNat : Int) ≤ 126 := (of_decide_eq_true hb).2
        clear hb
        go_wp2
        go_round
        case rel => exact ⟨k + 1, by omega, by go_num, HS⟩
        case measure => simp [intOf]; omega
      · have HR := Lib.hid (code_no hlt (by simpa using hb))
        have hn : ¬ (33 ≤ (s[k].toNat : Int) ∧ (s[k].toNat : Int) ≤ 126) := fun h => hb (decide_eq_true h)
        by_cases h33 : 33 ≤ (s[k].toNat : Int)
        · have h126 : ¬ (s[k].toNat : Int) ≤ 126 := fun h => hn ⟨h33, h⟩
          clear hb hn
          go_wp2
          go_ret
          exact ⟨by rw [HR.out]; rfl, rfl⟩
        · clear hb hn
          go_wp2
          go_ret
          exact ⟨by rw [HR.out]; rfl, rfl⟩
    · obtain rfl : k = s.size := by omega
      go_wp2
      all_goals
        go_ret
        refine ⟨ret_bool (Eq.symm (code_yes HP.out _ ?_)), rfl⟩
        rw [Bool.eq_iff_iff]
        simp
        omega
set_option maxHeartbeats 2000000 in
theorem code_any (s : ByteArray) (w : World) (hs : s.size ≤ 140737488355328) : Calls Tryz.prog 133 #[.string s] w fun e w' => e = .returned (.bool (codeB s)) ∧ w = w' := by
  by_cases h1 : 1 ≤ s.size
  · by_cases h40 : s.size ≤ 40
    · go_enter Tryz.func133, Tryz.ntmps133
      go_wp2
      go_loop [14] (fun i => ∃ k : Nat, k ≤ s.size ∧ i = .int .i64 k ∧ Hid ((s.data.toList.take k).all byteB = true)) (fun i => s.size - (intOf i).toNat)
      case atStart => exact ⟨0, Nat.zero_le _, rfl, Lib.hid rfl⟩
      case round =>
        obtain ⟨k, hk, rfl, HP⟩ := hrel
        by_cases hlt : k < s.size
        · by_cases hb : byteB s[k] = true
          · have HS := Lib.hid (bytes_snoc hlt HP.out hb)
            have h33 : 33 ≤ (s[k].toNat : Int) := (of_decide_eq_true hb).1
            have h126 : (s[k].toNat : Int) ≤ 126 := (of_decide_eq_true hb).2
            clear hb
            go_wp2
            go_round
            case rel => exact ⟨k + 1, by omega, by go_num, HS⟩
            case measure => simp [intOf]; omega
          · have HR := Lib.hid (code_no hlt (by simpa using hb))
            have hn : ¬ (33 ≤ (s[k].toNat : Int) ∧ (s[k].toNat : Int) ≤ 126) := fun h => hb (decide_eq_true h)
            by_cases h33 : 33 ≤ (s[k].toNat : Int)
            · have h126 : ¬ (s[k].toNat : Int) ≤ 126 := fun h => hn ⟨h33, h⟩
              clear hb hn
              go_wp2
              go_ret
              exact ⟨by rw [HR.out]; rfl, rfl⟩
            · clear hb hn
              go_wp2
              go_ret
              exact ⟨by rw [HR.out]; rfl, rfl⟩
        · obtain rfl : k = s.size := by omega
          go_wp2
          go_ret
          exact ⟨ret_bool (Eq.symm (code_yes HP.out _ (decide_eq_true ⟨h1, h40⟩))), rfl⟩
    · have HR := Lib.hid (code_size (s := s) (by omega))
      go_enter Tryz.func133, Tryz.ntmps133
      go_wp2
      go_ret
      exact ⟨by rw [HR.out]; rfl, rfl⟩
  · have HR := Lib.hid (code_size (s := s) (by omega))
    go_enter Tryz.func133, Tryz.ntmps133
    go_wp2
    go_ret
    exact ⟨by rw [HR.out]; rfl, rfl⟩
end Go.Proofs.YtgaimkgaooiieaaGreatDoor
