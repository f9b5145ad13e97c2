/-
  The rules for unknown numbers hold, and a run of the law at unknown numbers tells what the law does.
-/
import Derived.Test.YtnfmgkkhejminaaGreatDoorAwakeAckQ
import Derived.Tactics
import Derived.WalkKit
import Derived.Test.YtnfmgkkhejminaaGreatDoorAwakeAckX
namespace Go.Proofs.YtnfmgkkhejminaaGreatDoor
open Go Go.RowKit Go.Ev
theorem sixteen {n : Int} (h0 : 0 ≤ n) (h1 : n ≤ 15) : n = 0 ∨ n = 1 ∨ n = 2 ∨ n = 3 ∨ n = 4 ∨ n = 5 ∨ n = 6 ∨ n = 7 ∨ n = 8 ∨ n = 9 ∨ n = 10 ∨ n = 11 ∨ n = 12 ∨ n = 13 ∨ n = 14 ∨ n = 15 := by omega
theorem r_conv1 {n : Int} (h0 : 0 ≤ n) (h1 : n ≤ 15) : ∃ q a, (Value.int .i64 n) = .int q a ∧ (Value.int .u64 n) = .int .u64 (IntKind.u64.wrap a) := by
  rcases sixteen h0 h1 with rfl | rfl | rfl | rfl | rfl | rfl | rfl | rfl | rfl | rfl | rfl | rfl | rfl | rfl | rfl | rfl <;> exact ⟨_, _, rfl, by kernel_rfl⟩
theorem r_mul {n : Int} (h0 : 0 ≤ n) (h1 : n ≤ 15) : scalB .mul (.int .u64 n) (.int .u64 2) = some (.int .u64 (2 * n)) := by
  rcases sixteen h0 h1 with rfl | rfl | rfl | rfl | rfl | rfl | rfl | rfl | rfl | rfl | rfl | rfl | rfl | rfl | rfl | rfl <;> kernel_rfl
theorem r_lss0 {n : Int} (h0 : 0 ≤ n) (h1 : n ≤ 15) : scalB .lss (.int .i64 n) (.int .i64 0) = some (.bool false) := by
  rcases sixteen h0 h1 with rfl | rfl | rfl | rfl | rfl | rfl | rfl | rfl | rfl | rfl | rfl | rfl | rfl | rfl | rfl | rfl <;> kernel_rfl
theorem r_geq128 {n : Int} (h0 : 0 ≤ n) (h1 : n ≤ 15) : scalB .geq (.int .u64 (2 * n)) (.int .u64 128) = some (.bool false) := by
  rcases sixteen h0 h1 with rfl | rfl | rfl | rfl | rfl | rfl | rfl | rfl | rfl | rfl | rfl | rfl | rfl | rfl | rfl | rfl <;> kernel_rfl
theorem r_conv2 {n : Int} (h0 : 0 ≤ n) (h1 : n ≤ 15) : ∃ q a, (Value.int .u64 (2 * n)) = .int q a ∧ (Value.int .u8 (2 * n)) = .int .u8 (IntKind.u8.wrap a) := by
  rcases sixteen h0 h1 with rfl | rfl | rfl | rfl | rfl | rfl | rfl | rfl | rfl | rfl | rfl | rfl | rfl | rfl | rfl | rfl <;> exact ⟨_, _, rfl, by kernel_rfl⟩
theorem r_and127 {n : Int} (h0 : 0 ≤ n) (h1 : n ≤ 15) : scalB .and (.int .u8 (2 * n)) (.int .u8 127) = some (.int .u8 (2 * n)) := by
  rcases sixteen h0 h1 with rfl | rfl | rfl | rfl | rfl | rfl | rfl | rfl | rfl | rfl | rfl | rfl | rfl | rfl | rfl | rfl <;> kernel_rfl
theorem r_conv3 {n : Int} (h0 : 0 ≤ n) (h1 : n ≤ 15) : ∃ q a, (Value.int .u8 (2 * n)) = .int q a ∧ (Value.int .u64 (2 * n)) = .int .u64 (IntKind.u64.wrap a) := by
  rcases sixteen h0 h1 with rfl | rfl | rfl | rfl | rfl | rfl | rfl | rfl | rfl | rfl | rfl | rfl | rfl | rfl | rfl | rfl <;> exact ⟨_, _, rfl, by kernel_rfl⟩
theorem r_shl0 {n : Int} (h0 : 0 ≤ n) (h1 : n ≤ 15) : scalB .shl (.int .u64 (2 * n)) (.int .i64 0) = some (.int .u64 (2 * n)) := by
  rcases sixteen h0 h1 with rfl | rfl | rfl | rfl | rfl | rfl | rfl | rfl | rfl | rfl | rfl | rfl | rfl | rfl | rfl | rfl <;> kernel_rfl
theorem r_or0 {n : Int} (h0 : 0 ≤ n) (h1 : n ≤ 15) : scalB .or (.int .u64 0) (.int .u64 (2 * n)) = some (.int .u64 (2 * n)) := by
  rcases sixteen h0 h1 with rfl | rfl | rfl | rfl | rfl | rfl | rfl | rfl | rfl | rfl | rfl | rfl | rfl | rfl | rfl | rfl <;> kernel_rfl
theorem r_lss128 {n : Int} (h0 : 0 ≤ n) (h1 : n ≤ 15) : scalB .lss (.int .u8 (2 * n)) (.int .u8 128) = some (.bool true) := by
  rcases sixteen h0 h1 with rfl | rfl | rfl | rfl | rfl | rfl | rfl | rfl | rfl | rfl | rfl | rfl | rfl | rfl | rfl | rfl <;> kernel_rfl
theorem r_shr1 {n : Int} (h0 : 0 ≤ n) (h1 : n ≤ 15) : scalB .shr (.int .u64 (2 * n)) (.int .u64 1) = some (.int .u64 n) := by
  rcases sixteen h0 h1 with rfl | rfl | rfl | rfl | rfl | rfl | rfl | rfl | rfl | rfl | rfl | rfl | rfl | rfl | rfl | rfl <;> kernel_rfl
theorem r_conv4 {n : Int} (h0 : 0 ≤ n) (h1 : n ≤ 15) : ∃ q a, (Value.int .u64 n) = .int q a ∧ (Value.int .i64 n) = .int .i64 (IntKind.i64.wrap a) := by
  rcases sixteen h0 h1 with rfl | rfl | rfl | rfl | rfl | rfl | rfl | rfl | rfl | rfl | rfl | rfl | rfl | rfl | rfl | rfl <;> exact ⟨_, _, rfl, by kernel_rfl⟩
theorem r_and1 {n : Int} (h0 : 0 ≤ n) (h1 : n ≤ 15) : scalB .and (.int .u64 (2 * n)) (.int .u64 1) = some (.int .u64 0) := by
  rcases sixteen h0 h1 with rfl | rfl | rfl | rfl | rfl | rfl | rfl | rfl | rfl | rfl | rfl | rfl | rfl | rfl | rfl | rfl <;> kernel_rfl
theorem r_xor0 {n : Int} (h0 : 0 ≤ n) (h1 : n ≤ 15) : scalB .xor (.int .i64 n) (.int .i64 0) = some (.int .i64 n) := by
  rcases sixteen h0 h1 with rfl | rfl | rfl | rfl | rfl | rfl | rfl | rfl | rfl | rfl | rfl | rfl | rfl | rfl | rfl | rfl <;> kernel_rfl
theorem r_gtr15 {n : Int} (h0 : 0 ≤ n) (h1 : n ≤ 15) : scalB .gtr (.int .i64 n) (.int .i64 15) = some (.bool false) := by
  rcases sixteen h0 h1 with rfl | rfl | rfl | rfl | rfl | rfl | rfl | rfl | rfl | rfl | rfl | rfl | rfl | rfl | rfl | rfl <;> kernel_rfl
/-- what the letters stand for -/
def valK (l : List Int) (now top : Int) (i : Nat) : Value :=
  if i < 10 then .int .i64 (l.getD i 0) else if i < 20 then .int .u64 (l.getD (i - 10) 0) else if i < 30 then .int .u64 (2 * l.getD (i - 20) 0) else if i < 40 then .int .u8 (2 * l.getD (i - 30) 0) else if i < 41 then .int .i64 now else .int .i64 top
theorem valK_shape (l : List Int) (now top : Int) (i : Nat) : (∃ k n, valK l now top i = .int k n) ∨ (∃ s, valK l now top i = .string s) ∨ ∃ a m c, valK l now top i = .slice a m c := by
  unfold valK
  refine .inl ?_
  repeat' split
  all_goals exact ⟨_, _, rfl⟩
def small (l : List Int) : Prop := ∀ x ∈ l, 0 ≤ x ∧ x ≤ 15
theorem small_at {l : List Int} (h : small l) (i : Nat) : 0 ≤ l.getD i 0 ∧ l.getD i 0 ≤ 15 := by
  rw [List.getD_eq_getElem?_getD]
  cases hi : l[i]? with
  | none => simp
  | some x => simpa using h x (List.mem_of_getElem? hi)
theorem sym_holds0 {l : List Int} {now top : Int} (h : small l) {R : List Rule} (hR : ∀ r ∈ R, r.Holds (valK l now top)) : ∀ r ∈ symR0 R, r.Holds (valK l now top) := by
  obtain ⟨h0, h1⟩ := small_at h 0
  exact List.forall_mem_cons.2 ⟨r_conv1 h0 h1, List.forall_mem_cons.2 ⟨r_mul h0 h1, List.forall_mem_cons.2 ⟨r_lss0 h0 h1, List.forall_mem_cons.2 ⟨r_geq128 h0 h1, List.forall_mem_cons.2 ⟨r_conv2 h0 h1, List.forall_mem_cons.2 ⟨r_and127 h0 h1, List.forall_mem_cons.2 ⟨r_conv3 h0 h1, List.forall_mem_cons.2 ⟨r_shl0 h0 h1, List.forall_mem_cons.2 ⟨r_or0 h0 h1, List.forall_mem_cons.2 ⟨r_lss128 h0 h1, List.forall_mem_cons.2 ⟨r_shr1 h0 h1, List.forall_mem_cons.2 ⟨r_conv4 h0 h1, List.forall_mem_cons.2 ⟨r_and1 h0 h1, List.forall_mem_cons.2 ⟨r_xor0 h0 h1, List.forall_mem_cons.2 ⟨r_gtr15 h0 h1, hR⟩⟩⟩⟩⟩⟩⟩⟩⟩⟩⟩⟩⟩⟩⟩
theorem sym_holds1 {l : List Int} {now top : Int} (h : small l) {R : List Rule} (hR : ∀ r ∈ R, r.Holds (valK l now top)) : ∀ r ∈ symR1 R, r.Holds (valK l now top) := by
  obtain ⟨h0, h1⟩ := small_at h 1
  exact List.forall_mem_cons.2 ⟨r_conv1 h0 h1, List.forall_mem_cons.2 ⟨r_mul h0 h1, List.forall_mem_cons.2 ⟨r_lss0 h0 h1, List.forall_mem_cons.2 ⟨r_geq128 h0 h1, List.forall_mem_cons.2 ⟨r_conv2 h0 h1, List.forall_mem_cons.2 ⟨r_and127 h0 h1, List.forall_mem_cons.2 ⟨r_conv3 h0 h1, List.forall_mem_cons.2 ⟨r_shl0 h0 h1, List.forall_mem_cons.2 ⟨r_or0 h0 h1, List.forall_mem_cons.2 ⟨r_lss128 h0 h1, List.forall_mem_cons.2 ⟨r_shr1 h0 h1, List.forall_mem_cons.2 ⟨r_conv4 h0 h1, List.forall_mem_cons.2 ⟨r_and1 h0 h1, List.forall_mem_cons.2 ⟨r_xor0 h0 h1, List.forall_mem_cons.2 ⟨r_gtr15 h0 h1, hR⟩⟩⟩⟩⟩⟩⟩⟩⟩⟩⟩⟩⟩⟩⟩
theorem sym_holds2 {l : List Int} {now top : Int} (h : small l) {R : List Rule} (hR : ∀ r ∈ R, r.Holds (valK l now top)) : ∀ r ∈ symR2 R, r.Holds (valK l now top) := by
  obtain ⟨h0, h1⟩ := small_at h 2
  exact List.forall_mem_cons.2 ⟨r_conv1 h0 h1, List.forall_mem_cons.2 ⟨r_mul h0 h1, List.forall_mem_cons.2 ⟨r_lss0 h0 h1, List.forall_mem_cons.2 ⟨r_geq128 h0 h1, List.forall_mem_cons.2 ⟨r_conv2 h0 h1, List.forall_mem_cons.2 ⟨r_and127 h0 h1, List.forall_mem_cons.2 ⟨r_conv3 h0 h1, List.forall_mem_cons.2 ⟨r_shl0 h0 h1, List.forall_mem_cons.2 ⟨r_or0 h0 h1, List.forall_mem_cons.2 ⟨r_lss128 h0 h1, List.forall_mem_cons.2 ⟨r_shr1 h0 h1, List.forall_mem_cons.2 ⟨r_conv4 h0 h1, List.forall_mem_cons.2 ⟨r_and1 h0 h1, List.forall_mem_cons.2 ⟨r_xor0 h0 h1, List.forall_mem_cons.2 ⟨r_gtr15 h0 h1, hR⟩⟩⟩⟩⟩⟩⟩⟩⟩⟩⟩⟩⟩⟩⟩
theorem sym_holds3 {l : List Int} {now top : Int} (h : small l) {R : List Rule} (hR : ∀ r ∈ R, r.Holds (valK l now top)) : ∀ r ∈ symR3 R, r.Holds (valK l now top) := by
  obtain ⟨h0, h1⟩ := small_at h 3
  exact List.forall_mem_cons.2 ⟨r_conv1 h0 h1, List.forall_mem_cons.2 ⟨r_mul h0 h1, List.forall_mem_cons.2 ⟨r_lss0 h0 h1, List.forall_mem_cons.2 ⟨r_geq128 h0 h1, List.forall_mem_cons.2 ⟨r_conv2 h0 h1, List.forall_mem_cons.2 ⟨r_and127 h0 h1, List.forall_mem_cons.2 ⟨r_conv3 h0 h1, List.forall_mem_cons.2 ⟨r_shl0 h0 h1, List.forall_mem_cons.2 ⟨r_or0 h0 h1, List.forall_mem_cons.2 ⟨r_lss128 h0 h1, List.forall_mem_cons.2 ⟨r_shr1 h0 h1, List.forall_mem_cons.2 ⟨r_conv4 h0 h1, List.forall_mem_cons.2 ⟨r_and1 h0 h1, List.forall_mem_cons.2 ⟨r_xor0 h0 h1, List.forall_mem_cons.2 ⟨r_gtr15 h0 h1, hR⟩⟩⟩⟩⟩⟩⟩⟩⟩⟩⟩⟩⟩⟩⟩
theorem sym_holds4 {l : List Int} {now top : Int} (h : small l) {R : List Rule} (hR : ∀ r ∈ R, r.Holds (valK l now top)) : ∀ r ∈ symR4 R, r.Holds (valK l now top) := by
  obtain ⟨h0, h1⟩ := small_at h 4
  exact List.forall_mem_cons.2 ⟨r_conv1 h0 h1, List.forall_mem_cons.2 ⟨r_mul h0 h1, List.forall_mem_cons.2 ⟨r_lss0 h0 h1, List.forall_mem_cons.2 ⟨r_geq128 h0 h1, List.forall_mem_cons.2 ⟨r_conv2 h0 h1, List.forall_mem_cons.2 ⟨r_and127 h0 h1, List.forall_mem_cons.2 ⟨r_conv3 h0 h1, List.forall_mem_cons.2 ⟨r_shl0 h0 h1, List.forall_mem_cons.2 ⟨r_or0 h0 h1, List.forall_mem_cons.2 ⟨r_lss128 h0 h1, List.forall_mem_cons.2 ⟨r_shr1 h0 h1, List.forall_mem_cons.2 ⟨r_conv4 h0 h1, List.forall_mem_cons.2 ⟨r_and1 h0 h1, List.forall_mem_cons.2 ⟨r_xor0 h0 h1, List.forall_mem_cons.2 ⟨r_gtr15 h0 h1, hR⟩⟩⟩⟩⟩⟩⟩⟩⟩⟩⟩⟩⟩⟩⟩
theorem sym_holds5 {l : List Int} {now top : Int} (h : small l) {R : List Rule} (hR : ∀ r ∈ R, r.Holds (valK l now top)) : ∀ r ∈ symR5 R, r.Holds (valK l now top) := by
  obtain ⟨h0, h1⟩ := small_at h 5
  exact List.forall_mem_cons.2 ⟨r_conv1 h0 h1, List.forall_mem_cons.2 ⟨r_mul h0 h1, List.forall_mem_cons.2 ⟨r_lss0 h0 h1, List.forall_mem_cons.2 ⟨r_geq128 h0 h1, List.forall_mem_cons.2 ⟨r_conv2 h0 h1, List.forall_mem_cons.2 ⟨r_and127 h0 h1, List.forall_mem_cons.2 ⟨r_conv3 h0 h1, List.forall_mem_cons.2 ⟨r_shl0 h0 h1, List.forall_mem_cons.2 ⟨r_or0 h0 h1, List.forall_mem_cons.2 ⟨r_lss128 h0 h1, List.forall_mem_cons.2 ⟨r_shr1 h0 h1, List.forall_mem_cons.2 ⟨r_conv4 h0 h1, List.forall_mem_cons.2 ⟨r_and1 h0 h1, List.forall_mem_cons.2 ⟨r_xor0 h0 h1, List.forall_mem_cons.2 ⟨r_gtr15 h0 h1, hR⟩⟩⟩⟩⟩⟩⟩⟩⟩⟩⟩⟩⟩⟩⟩
theorem sym_holds6 {l : List Int} {now top : Int} (h : small l) {R : List Rule} (hR : ∀ r ∈ R, r.Holds (valK l now top)) : ∀ r ∈ symR6 R, r.Holds (valK l now top) := by
  obtain ⟨h0, h1⟩ := small_at h 6
  exact List.forall_mem_cons.2 ⟨r_conv1 h0 h1, List.forall_mem_cons.2 ⟨r_mul h0 h1, List.forall_mem_cons.2 ⟨r_lss0 h0 h1, List.forall_mem_cons.2 ⟨r_geq128 h0 h1, List.forall_mem_cons.2 ⟨r_conv2 h0 h1, List.forall_mem_cons.2 ⟨r_and127 h0 h1, List.forall_mem_cons.2 ⟨r_conv3 h0 h1, List.forall_mem_cons.2 ⟨r_shl0 h0 h1, List.forall_mem_cons.2 ⟨r_or0 h0 h1, List.forall_mem_cons.2 ⟨r_lss128 h0 h1, List.forall_mem_cons.2 ⟨r_shr1 h0 h1, List.forall_mem_cons.2 ⟨r_conv4 h0 h1, List.forall_mem_cons.2 ⟨r_and1 h0 h1, List.forall_mem_cons.2 ⟨r_xor0 h0 h1, List.forall_mem_cons.2 ⟨r_gtr15 h0 h1, hR⟩⟩⟩⟩⟩⟩⟩⟩⟩⟩⟩⟩⟩⟩⟩
theorem sym_holds7 {l : List Int} {now top : Int} (h : small l) {R : List Rule} (hR : ∀ r ∈ R, r.Holds (valK l now top)) : ∀ r ∈ symR7 R, r.Holds (valK l now top) := by
  obtain ⟨h0, h1⟩ := small_at h 7
  exact List.forall_mem_cons.2 ⟨r_conv1 h0 h1, List.forall_mem_cons.2 ⟨r_mul h0 h1, List.forall_mem_cons.2 ⟨r_lss0 h0 h1, List.forall_mem_cons.2 ⟨r_geq128 h0 h1, List.forall_mem_cons.2 ⟨r_conv2 h0 h1, List.forall_mem_cons.2 ⟨r_and127 h0 h1, List.forall_mem_cons.2 ⟨r_conv3 h0 h1, List.forall_mem_cons.2 ⟨r_shl0 h0 h1, List.forall_mem_cons.2 ⟨r_or0 h0 h1, List.forall_mem_cons.2 ⟨r_lss128 h0 h1, List.forall_mem_cons.2 ⟨r_shr1 h0 h1, List.forall_mem_cons.2 ⟨r_conv4 h0 h1, List.forall_mem_cons.2 ⟨r_and1 h0 h1, List.forall_mem_cons.2 ⟨r_xor0 h0 h1, List.forall_mem_cons.2 ⟨r_gtr15 h0 h1, hR⟩⟩⟩⟩⟩⟩⟩⟩⟩⟩⟩⟩⟩⟩⟩
theorem sym_holds8 {l : List Int} {now top : Int} (h : small l) {R : List Rule} (hR : ∀ r ∈ R, r.Holds (valK l now top)) : ∀ r ∈ symR8 R, r.Holds (valK l now top) := by
  obtain ⟨h0, h1⟩ := small_at h 8
  exact List.forall_mem_cons.2 ⟨r_conv1 h0 h1, List.forall_mem_cons.2 ⟨r_mul h0 h1, List.forall_mem_cons.2 ⟨r_lss0 h0 h1, List.forall_mem_cons.2 ⟨r_geq128 h0 h1, List.forall_mem_cons.2 ⟨r_conv2 h0 h1, List.forall_mem_cons.2 ⟨r_and127 h0 h1, List.forall_mem_cons.2 ⟨r_conv3 h0 h1, List.forall_mem_cons.2 ⟨r_shl0 h0 h1, List.forall_mem_cons.2 ⟨r_or0 h0 h1, List.forall_mem_cons.2 ⟨r_lss128 h0 h1, List.forall_mem_cons.2 ⟨r_shr1 h0 h1, List.forall_mem_cons.2 ⟨r_conv4 h0 h1, List.forall_mem_cons.2 ⟨r_and1 h0 h1, List.forall_mem_cons.2 ⟨r_xor0 h0 h1, List.forall_mem_cons.2 ⟨r_gtr15 h0 h1, hR⟩⟩⟩⟩⟩⟩⟩⟩⟩⟩⟩⟩⟩⟩⟩
theorem sym_holds9 {l : List Int} {now top : Int} (h : small l) {R : List Rule} (hR : ∀ r ∈ R, r.Holds (valK l now top)) : ∀ r ∈ symR9 R, r.Holds (valK l now top) := by
  obtain ⟨h0, h1⟩ := small_at h 9
  exact List.forall_mem_cons.2 ⟨r_conv1 h0 h1, List.forall_mem_cons.2 ⟨r_mul h0 h1, List.forall_mem_cons.2 ⟨r_lss0 h0 h1, List.forall_mem_cons.2 ⟨r_geq128 h0 h1, List.forall_mem_cons.2 ⟨r_conv2 h0 h1, List.forall_mem_cons.2 ⟨r_and127 h0 h1, List.forall_mem_cons.2 ⟨r_conv3 h0 h1, List.forall_mem_cons.2 ⟨r_shl0 h0 h1, List.forall_mem_cons.2 ⟨r_or0 h0 h1, List.forall_mem_cons.2 ⟨r_lss128 h0 h1, List.forall_mem_cons.2 ⟨r_shr1 h0 h1, List.forall_mem_cons.2 ⟨r_conv4 h0 h1, List.forall_mem_cons.2 ⟨r_and1 h0 h1, List.forall_mem_cons.2 ⟨r_xor0 h0 h1, List.forall_mem_cons.2 ⟨r_gtr15 h0 h1, hR⟩⟩⟩⟩⟩⟩⟩⟩⟩⟩⟩⟩⟩⟩⟩
theorem rules_hold {l : List Int} {now top : Int} (h : small l) (c : Nat) (h1 : c = 1 → 2 ≤ l.getD 0 0) (h2 : c ≠ 0 → c ≠ 1 → 2 ≤ l.getD 1 0) (k : Nat) : ∀ r ∈ rulesK k c, r.Holds (valK l now top) := by
  have hg : ∀ r ∈ geR c, r.Holds (valK l now top) := by
    match c with
    | 0 => intro r hr; cases hr
    | 1 => exact List.forall_mem_cons.2 ⟨h_geq .i64 (l.getD 0 0) 2 true (by rw [decide_eq_false (by have := h1 rfl; omega)]; rfl), fun r hr => by cases hr⟩
    | c + 2 => exact List.forall_mem_cons.2 ⟨h_geq .i64 (l.getD 1 0) 2 true (by rw [decide_eq_false (by have := h2 (by omega) (by omega); omega)]; rfl), fun r hr => by cases hr⟩
  match k with
  | 0 => exact hg
  | 1 => exact (sym_holds0 h hg)
  | 2 => exact (sym_holds0 h (sym_holds1 h hg))
  | 3 => exact (sym_holds0 h (sym_holds1 h (sym_holds2 h hg)))
  | 4 => exact (sym_holds0 h (sym_holds1 h (sym_holds2 h (sym_holds3 h hg))))
  | 5 => exact (sym_holds0 h (sym_holds1 h (sym_holds2 h (sym_holds3 h (sym_holds4 h hg)))))
  | 6 => exact (sym_holds0 h (sym_holds1 h (sym_holds2 h (sym_holds3 h (sym_holds4 h (sym_holds5 h hg))))))
  | 7 => exact (sym_holds0 h (sym_holds1 h (sym_holds2 h (sym_holds3 h (sym_holds4 h (sym_holds5 h (sym_holds6 h hg)))))))
  | 8 => exact (sym_holds0 h (sym_holds1 h (sym_holds2 h (sym_holds3 h (sym_holds4 h (sym_holds5 h (sym_holds6 h (sym_holds7 h hg))))))))
  | 9 => exact (sym_holds0 h (sym_holds1 h (sym_holds2 h (sym_holds3 h (sym_holds4 h (sym_holds5 h (sym_holds6 h (sym_holds7 h (sym_holds8 h hg)))))))))
  | 10 => exact (sym_holds0 h (sym_holds1 h (sym_holds2 h (sym_holds3 h (sym_holds4 h (sym_holds5 h (sym_holds6 h (sym_holds7 h (sym_holds8 h (sym_holds9 h hg))))))))))
  | k + 11 => intro r hr; cases hr
def top (now : Int) : Int := min (max now 0) 1099511627776
theorem tick_any (now : Int) (w : World) : Calls Tryz.prog 17 #[.int .i64 now] w fun e w' => e = .returned (.int .i64 (top now)) ∧ w' = w := by
  go_enter Tryz.func17, Tryz.ntmps17
  go_wp2
  all_goals go_ret
  all_goals
    refine ⟨congrArg (fun z => Ending.returned (Value.int .i64 z)) ?_, rfl⟩
    rename_i h1
    unfold top
    try split at h1
    all_goals omega
/-- the rules for calls -/
theorem calls_hold {l : List Int} {now : Int} (hw : CRule.Holds Tryz.prog (valK l now (top now)) ⟨5, [], [t64], .bool true⟩) : ∀ r ∈ callsK, r.Holds Tryz.prog (valK l now (top now)) :=
  List.forall_mem_cons.2 ⟨hw, List.forall_mem_cons.2 ⟨fun w _ _ => ⟨w, Below.refl _ w, ⟨_, _, Tryz.func17, rfl, by kernel_rfl⟩, fun cs => by
    obtain ⟨e, w', fr, ⟨rfl, rfl⟩, q1, q2, q3⟩ := tick_any now w cs
    exact ⟨fr, q1, q2, q3⟩⟩, fun r hr => by cases hr⟩⟩
end Go.Proofs.YtnfmgkkhejminaaGreatDoor

namespace Go.Proofs.YtnfmgkkhejminaaGreatDoor
open Go Go.RowKit Go.Ev
theorem wakes_run : okTrue 2 (@run tab0 Tryz.prog 5 [] (stT 2 [t64])) = true := by
  have h := wakes_runF
  rw [@runF_eq tab0 Tryz.prog good47 good47_ok] at h
  exact h
/-- the rule for later runs -/
theorem wakes_rule (val : Nat → Value) : CRule.Holds Tryz.prog val ⟨5, [], [t64], .bool true⟩ := rule_of_run mix globs t64_lt wakes_run val
theorem wakes_calls {w : World} (hw : 2 ≤ w.heap.size) (hT : t64.In w) : Calls Tryz.prog 5 #[] w fun e w' => e = .returned (.bool true) ∧ Below w.heap.size w w' :=
  (@answers_of_run Tryz.prog tab0 val0 mix (ok0 Tryz.prog) 5 [] [] 2 [t64] (Nat.le_of_eq globs) t64_lt wakes_run (fun m => by simp) w hw (fun t ht => by obtain rfl := List.mem_singleton.1 ht; exact hT)).calls

theorem start_calls {w : World} (hw : 2 ≤ w.heap.size) (hT : t64.In w) : Calls Tryz.prog 7 #[] w fun e w' => ∃ d o x o', e = .returned (.tuple #[.pointer (some ⟨d, o, none⟩), .pointer (some ⟨x, o', none⟩), .bool true]) ∧ d < w'.heap.size ∧ w'.cell? ⟨d, o + 1, none⟩ = some (.int .i64 3) ∧ Below w.heap.size w w' := by
  letI : OTab := tab0
  letI : OVal := val0
  have h := start_runF
  rw [@runF_eq tab0 Tryz.prog good47 good47_ok] at h
  unfold okStart at h
  split at h
  · rename_i b o c o2 st hr
    rw [Bool.and_eq_true] at h
    obtain ⟨hlow, h3⟩ := h
    have hlow := Nat.le_of_ble_eq_true hlow
    have hrel := rel_tabs (P := Tryz.prog) (Nat.le_of_eq globs) hw t64_lt (fun t ht => by obtain rfl := List.mem_singleton.1 ht; exact hT)
    obtain ⟨m', w', cv, s, hv, _, q⟩ := run_sound mix (ok0 Tryz.prog) hr hrel (fun b hb _ => if_neg (by have : 2 ≤ b := hb; omega)) (concL_nil _)
    have hc := s.chk 2 w (Nat.le_refl _) hlow ⟨fun b x k _ hk hb => (by rw [hrel.wf b hb] at hk; cases hk), Nat.le_refl _, fun _ _ => rfl⟩
    split at h3
    · rename_i z hl
      have hz : z = 3 := by rw [eqI_eq] at h3; simpa using h3
      subst hz
      rw [show Value.tuple ⟨[Value.pointer (some ⟨b, o, none⟩), Value.pointer (some ⟨c, o2, none⟩), Value.bool true]⟩ = Value.tuple ⟨[Value.pointer (some ⟨b, o, none⟩), Value.pointer (some ⟨c, o2, none⟩), Value.bool true]⟩ from rfl] at hv
      simp only [conc] at hv
      obtain ⟨cs, h1, rfl⟩ := Option.map_eq_some_iff.1 hv
      obtain ⟨v1, r1, k1, k2, rfl⟩ := concL_cons h1
      obtain ⟨v2, r2, k3, k4, rfl⟩ := concL_cons k2
      obtain ⟨v3, r3, k5, k6, rfl⟩ := concL_cons k4
      have hr3 : r3 = [] := by simpa using k6.symm
      subst hr3
      obtain ⟨x, hx, _, rfl⟩ := conc_pointer k1
      obtain ⟨y, hy, _, rfl⟩ := conc_pointer k3
      have hv3 : v3 = .bool true := by simpa [conc] using k5.symm
      subst hv3
      obtain ⟨cv, hcv, hcell⟩ := load1_sound s.rel (a := ⟨b, Nat.succ o, none⟩) hx hl
      have hcv' : cv = .int .i64 3 := by simpa [conc] using hcv.symm
      subst hcv'
      intro cs
      obtain ⟨fr, q1, q2, q3⟩ := q cs
      exact ⟨_, w', fr, ⟨x.blk, x.sh + o, y.blk, y.sh + o2, rfl, s.rel.inb _ _ hx, hcell, ⟨s.os, s.tape, s.output, s.size, fun k hk => hc.2.2 k hk⟩⟩, q1, q2, q3⟩
    · cases h3
  · cases h
end Go.Proofs.YtnfmgkkhejminaaGreatDoor

namespace Go.Proofs.YtnfmgkkhejminaaGreatDoor
open Go Go.RowKit Go.Ev
def mapS (g off c : Nat) : Map := fun b => if b = 2 then some ⟨g, off, c⟩ else if b < 2 then some ⟨b, 0, limT [t64] b⟩ else none
theorem mapS_some {g off c b : Nat} {x : M} (h : mapS g off c b = some x) : (b = 2 ∧ x = ⟨g, off, c⟩) ∨ (b < 2 ∧ x = ⟨b, 0, limT [t64] b⟩) := by
  unfold mapS at h
  split at h
  · cases h; exact .inl ⟨by assumption, rfl⟩
  · split at h
    · cases h; exact .inr ⟨by assumption, rfl⟩
    · cases h
noncomputable def blkK (k a b : Nat) : Blk := .cells k ((fillT (saidK k a b) 0 .lf).put (some (.float .f64 0)) roI)
theorem stK_get {k a b n : Nat} {x : Blk} (h : (stK k a b).mem.get n = some x) : (n = 2 ∧ k ≠ 0 ∧ x = blkK k a b) ∨ (n = 0 ∧ x = .cells t64.vals.length (fillT t64.vals 0 .lf)) := by
  have key : ∀ {n : Nat} {x : Blk}, (memT [t64]).get n = some x → n = 0 ∧ x = .cells t64.vals.length (fillT t64.vals 0 .lf) := fun {n x} h => by
    obtain ⟨t, ht, h1, h2, _⟩ := memT_get _ _ _ h
    obtain rfl := List.mem_singleton.1 ht
    exact ⟨h1.symm, h2⟩
  cases k with
  | zero => exact .inr (key h)
  | succ k =>
    have h' : ((memT [t64]).put (some (blkK (k + 1) a b)) 2).get n = some x := h
    rw [get_memput] at h'
    split at h'
    · cases h'
      exact .inl ⟨by assumption, by omega, rfl⟩
    · exact .inr (key h')
/-- the numbers that were said, as they lie in the memory -/
def SaidAt (w : World) (g off c : Nat) (l : List Int) : Prop :=
  g < w.heap.size ∧ (l ≠ [] → g ≠ 0 ∧ ∃ arr e lo hi, w.heap[g]? = some (.cells arr e (lo, hi)) ∧ off + c ≤ arr.size ∧ l.length ≤ c ∧ ∀ i, i < l.length → arr[off + i]? = some (.int .i64 (l.getD i 0)))
def Code0 (k a b : Nat) (l : List Int) : Prop := (k ≠ 0 → (a = 0 → l.getD 0 0 = 0) ∧ (a = 1 → l.getD 0 0 = 1)) ∧ (2 ≤ k → (b = 0 → l.getD 1 0 = 0) ∧ (b = 1 → l.getD 1 0 = 1))
section
variable [OTab] [OVal]
theorem cell_conc {l : List Int} {now : Int} (hval : OVal.val = valK l now (top now)) (m : Map) (a i : Nat) (hi : i < 10) (h0 : a = 0 → l.getD i 0 = 0) (h1 : a = 1 → l.getD i 0 = 1) : conc m (cellK a i) = some (.int .i64 (l.getD i 0)) := by
  match a with
  | 0 => rw [h0 rfl]; simp [cellK, conc]
  | 1 => rw [h1 rfl]; simp [cellK, conc]
  | a + 2 =>
    show conc m (.float .f64 i) = _
    rw [conc, hval]
    simp [valK, hi]
theorem said_cell {l : List Int} {now : Int} (hval : OVal.val = valK l now (top now)) (m : Map) {k a b : Nat} (hk : k ≤ 10) (hc : Code0 k a b l) : (saidK k a b).length = k ∧ ∀ i, i < k → ∃ v, (saidK k a b)[i]? = some v ∧ conc m v = some (.int .i64 (l.getD i 0)) := by
  match k with
  | 0 => exact ⟨rfl, fun i hi => by omega⟩
  | 1 =>
    refine ⟨rfl, fun i hi => ?_⟩
    obtain rfl : i = 0 := by omega
    exact ⟨cellK a 0, rfl, cell_conc hval m a 0 (by omega) (hc.1 (by omega)).1 (hc.1 (by omega)).2⟩
  | k + 2 =>
    refine ⟨by simp [saidK], fun i hi => ?_⟩
    match i with
    | 0 => exact ⟨cellK a 0, rfl, cell_conc hval m a 0 (by omega) (hc.1 (by omega)).1 (hc.1 (by omega)).2⟩
    | 1 => exact ⟨cellK b 1, rfl, cell_conc hval m b 1 (by omega) (hc.2 (by omega)).1 (hc.2 (by omega)).2⟩
    | i + 2 => exact ⟨.float .f64 (i + 2), by
      have : i < k := by omega
      simp [saidK, this], cell_conc hval m 2 (i + 2) (by omega) (by omega) (by omega)⟩
theorem rel_said {l : List Int} {now : Int} (hval : OVal.val = valK l now (top now)) {k a b g off c : Nat} {w : World} (hw : 2 ≤ w.heap.size) (hT : t64.In w) (hS : SaidAt w g off c l) (hk : k = l.length) (hk10 : k ≤ 10) (hc : Code0 k a b l) : Rel Tryz.prog (mapS g off c) (stK k a b) w where
  glob := fun q hq => ⟨limT [t64] q, by
    have hq2 : q < 2 := by rw [← globs]; exact hq
    unfold mapS
    rw [if_neg (by omega), if_pos hq2]⟩
  inb := fun n x hn => by
    rcases mapS_some hn with ⟨_, rfl⟩ | ⟨h, rfl⟩
    · exact hS.1
    · exact Nat.lt_of_lt_of_le h hw
  blks := fun n x kb hn hkb => by
    rcases stK_get hkb with ⟨rfl, hk0, rfl⟩ | ⟨rfl, rfl⟩
    · rcases mapS_some hn with ⟨_, rfl⟩ | ⟨h, _⟩
      · obtain ⟨_, arr, e, lo, hi, h1, h2, h3, h4⟩ := hS.2 (by intro h; rw [h] at hk; exact hk0 hk)
        obtain ⟨hl, hcell⟩ := said_cell hval (mapS g off c) hk10 hc
        refine ⟨arr, e, lo, hi, h1, h2, by rw [hk]; exact h3, fun hro => ?_, fun i hi' => ?_, fun ht => ⟨fun kk t e' => ?_, fun kk t e' => ?_⟩⟩
        · rw [get_put, if_pos rfl] at hro
          cases hro
        · obtain ⟨v, hv1, hv2⟩ := hcell i hi'
          refine ⟨v, _, ?_, hv2, h4 i (by omega)⟩
          rw [get_put, if_neg (by unfold roI; omega), fillT_get, if_pos (by omega)]
          exact hv1
        · rw [get_put, if_neg (by decide), fillT_get, if_neg (by rw [hl]; unfold tagI; omega), get_lf] at e'
          cases e'
        · rw [get_put, if_neg (by decide), fillT_get, if_neg (by rw [hl]; unfold tagI; omega), get_lf] at e'
          cases e'
      · omega
    · rcases mapS_some hn with ⟨h, _⟩ | ⟨_, rfl⟩
      · omega
      · exact (rel_tabs (P := Tryz.prog) (Nat.le_of_eq globs) hw t64_lt (fun t ht => by obtain rfl := List.mem_singleton.1 ht; exact hT)).blks 0 ⟨0, 0, limT [t64] 0⟩ _ (by unfold gmap; rw [if_pos (by decide)]) (by
          show (memT [t64]).get 0 = _
          unfold memT
          rw [get_memput, if_pos (show 0 = t64.g from rfl)]) |>.mono (fun b x hb => by
            obtain ⟨h1, rfl⟩ := gmap_some hb
            unfold mapS
            rw [if_neg (by omega), if_pos h1])
  dist := fun n n' x y kb kc hne hn hn' hkb hkc => by
    rcases stK_get hkb with ⟨rfl, hk0, rfl⟩ | ⟨rfl, rfl⟩ <;> rcases stK_get hkc with ⟨rfl, hk0', rfl⟩ | ⟨rfl, rfl⟩
    · exact absurd rfl hne
    · rcases mapS_some hn with ⟨_, rfl⟩ | ⟨h, _⟩
      · rcases mapS_some hn' with ⟨h, _⟩ | ⟨_, rfl⟩
        · omega
        · exact (hS.2 (by intro h; rw [h] at hk; exact hk0 hk)).1
      · omega
    · rcases mapS_some hn' with ⟨_, rfl⟩ | ⟨h, _⟩
      · rcases mapS_some hn with ⟨h, _⟩ | ⟨_, rfl⟩
        · omega
        · exact fun h => (hS.2 (by intro h; rw [h] at hk; exact hk0' hk)).1 h.symm
      · omega
    · exact absurd rfl hne
  wf := fun n hn => by
    cases hkb : (stK k a b).mem.get n with
    | none => rfl
    | some x =>
      have hn' : 3 ≤ n := hn
      rcases stK_get hkb with ⟨rfl, _⟩ | ⟨rfl, _⟩ <;> omega
end
/-- a run of the law tells what the law does -/
theorem said_run {h : Bool} {l : List Int} {now : Int} {k a b c g off cap : Nat} {w : World} (hrun : okK h k a b c = true) (hw : 2 ≤ w.heap.size) (hT : t64.In w) (hS : SaidAt w g off cap l) (hk : k = l.length) (hk10 : k ≤ 10) (hsm : small l) (hc : Code0 k a b l) (h1 : c = 1 → 2 ≤ l.getD 0 0) (h2 : c ≠ 0 → c ≠ 1 → 2 ≤ l.getD 1 0) :
    Calls Tryz.prog 4 #[.slice (some ⟨g, off, none⟩) k cap, .bool h, .int .i64 now] w fun e w' => e = .returned (.bool true) ∧ Below w.heap.size w w' := by
  letI : OTab := tabK k c
  letI : OVal := ⟨valK l now (top now), valK_shape l now (top now), rules_hold hsm c h1 h2 k⟩
  have hrun' : okTrue 3 (@runF (tabK k c) Tryz.prog good47 4 (argsK k h) (stK k a b)) = true := hrun
  rw [@runF_eq (tabK k c) Tryz.prog good47 good47_ok] at hrun'
  obtain ⟨st', hr, hlow⟩ := okTrue_some hrun'
  have hrel := rel_said (k := k) (a := a) (b := b) (l := l) (now := now) rfl hw hT hS hk hk10 hc
  have hca : concL (mapS g off cap) (argsK k h) = some [.slice (some ⟨g, off, none⟩) k cap, .bool h, .int .i64 now] := by
    refine concL_cons' ?_ (concL_cons' (by simp [conc]) (concL_cons' ?_ (concL_nil _)))
    · rw [conc_slice' (show mapS g off cap 2 = some ⟨g, off, cap⟩ from rfl)]
      simp [capC]
    · rw [conc]
      rfl
  have hC : CallsOk Tryz.prog := ⟨fun r hr => (by
    rcases hr with h | ⟨h, _⟩
    · exact calls_hold (wakes_rule _) r h
    · cases h), fun f args st r st' v h => (by cases h)⟩
  obtain ⟨m', w', cv, s, hv, _, q⟩ := run_sound mix hC hr hrel (fun d hd _ => by
    have hd' : 3 ≤ d := hd
    unfold mapS
    rw [if_neg (by omega), if_neg (by omega)]) hca
  have hv' : some (Value.bool true) = some cv := by rw [← hv]; simp [conc]
  cases hv'
  have hck := s.chk 3 w (Nat.le_refl _) hlow ⟨fun b x k _ hk hb => (by rw [hrel.wf b hb] at hk; cases hk), Nat.le_refl _, fun _ _ => rfl⟩
  intro cs
  obtain ⟨fr, q1, q2, q3⟩ := q cs
  exact ⟨.returned (.bool true), w', fr, ⟨rfl, ⟨s.os, s.tape, s.output, s.size, fun k hk => hck.2.2 k hk⟩⟩, q1, q2, q3⟩
/-- nothing was said, and there is no slice -/
theorem none_run {h : Bool} {now : Int} {w : World} (hrun : okN h = true) (hw : 2 ≤ w.heap.size) (hT : t64.In w) :
    Calls Tryz.prog 4 #[.slice none 0 0, .bool h, .int .i64 now] w fun e w' => e = .returned (.bool true) ∧ Below w.heap.size w w' := by
  letI : OTab := tabK 0 0
  letI : OVal := ⟨valK [] now (top now), valK_shape [] now (top now), rules_hold (fun x hx => by cases hx) 0 (by omega) (by omega) 0⟩
  have hrun' : okTrue 3 (@runF (tabK 0 0) Tryz.prog good47 4 [.slice none 0 0, .bool h, .float .f64 40] (stK 0 0 0)) = true := hrun
  rw [@runF_eq (tabK 0 0) Tryz.prog good47 good47_ok] at hrun'
  obtain ⟨st', hr, hlow⟩ := okTrue_some hrun'
  have hrel := rel_said (k := 0) (a := 0) (b := 0) (l := []) (now := now) (g := 0) (off := 0) (c := 0) rfl hw hT ⟨by omega, fun h => absurd rfl h⟩ rfl (by omega) ⟨fun h => absurd rfl h, fun h => by omega⟩
  have hca : concL (mapS 0 0 0) [.slice none 0 0, .bool h, .float .f64 40] = some [.slice none 0 0, .bool h, .int .i64 now] := by
    refine concL_cons' (by simp [conc]) (concL_cons' (by simp [conc]) (concL_cons' ?_ (concL_nil _)))
    rw [conc]
    rfl
  have hC : CallsOk Tryz.prog := ⟨fun r hr => (by
    rcases hr with h | ⟨h, _⟩
    · exact calls_hold (wakes_rule _) r h
    · cases h), fun f args st r st' v h => (by cases h)⟩
  obtain ⟨m', w', cv, s, hv, _, q⟩ := run_sound mix hC hr hrel (fun d hd _ => by
    have hd' : 3 ≤ d := hd
    unfold mapS
    rw [if_neg (by omega), if_neg (by omega)]) hca
  have hv' : some (Value.bool true) = some cv := by rw [← hv]; simp [conc]
  cases hv'
  have hck := s.chk 3 w (Nat.le_refl _) hlow ⟨fun b x k _ hk hb => (by rw [hrel.wf b hb] at hk; cases hk), Nat.le_refl _, fun _ _ => rfl⟩
  intro cs
  obtain ⟨fr, q1, q2, q3⟩ := q cs
  exact ⟨.returned (.bool true), w', fr, ⟨rfl, ⟨s.os, s.tape, s.output, s.size, fun k hk => hck.2.2 k hk⟩⟩, q1, q2, q3⟩
end Go.Proofs.YtnfmgkkhejminaaGreatDoor
