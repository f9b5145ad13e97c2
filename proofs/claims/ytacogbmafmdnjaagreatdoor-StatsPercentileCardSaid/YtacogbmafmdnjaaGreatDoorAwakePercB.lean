/-
  What stats.Percentile and the reference's Part answer in this program: for every ascending list of 1 to 100 numbers.
-/
import Derived.Lib.Hide
import Derived.Test.YtacogbmafmdnjaaGreatDoorAwakePercA
namespace Go.Proofs.YtacogbmafmdnjaaGreatDoor
open Go Go.RowKit Go.Shelf Go.Sort Go.Proofs

/-- ascending -/
def Asc (zs : List Int) : Prop := ∀ i j, i ≤ j → j < zs.length → zs.getD i 0 ≤ zs.getD j 0
def cnt (zs : List Int) (x : Int) : Nat := zs.countP fun z => decide (z ≤ x)
def at_ (n p : Nat) : Nat := (p * n + 99) / 100 - 1

theorem at_lt (n p : Nat) (hn : 1 ≤ n) (h1 : 1 ≤ p) (h2 : p ≤ 100) : at_ n p < n := by
  unfold at_
  have a : p * n ≤ 100 * n := Nat.mul_le_mul_right n h2
  have b : 1 ≤ p * n := Nat.le_trans hn (Nat.le_mul_of_pos_left n h1)
  omega
theorem at_up (n p : Nat) (hn : 1 ≤ n) (h1 : 1 ≤ p) : p * n ≤ 100 * (at_ n p + 1) := by
  unfold at_
  have b : 1 ≤ p * n := Nat.le_trans hn (Nat.le_mul_of_pos_left n h1)
  omega
theorem at_low (n p : Nat) (hn : 1 ≤ n) (h1 : 1 ≤ p) : 100 * at_ n p < p * n := by
  unfold at_
  have b : 1 ≤ p * n := Nat.le_trans hn (Nat.le_mul_of_pos_left n h1)
  omega

theorem getD_eq (zs : List Int) (i : Nat) (h : i < zs.length) : zs.getD i 0 = zs[i] := by
  simp [List.getD_eq_getElem?_getD, List.getElem?_eq_getElem h]

theorem cnt_ge (zs : List Int) (hs : Asc zs) (i : Nat) (hi : i < zs.length) : i + 1 ≤ cnt zs (zs.getD i 0) := by
  have h1 : (zs.take (i + 1)).countP (fun z => decide (z ≤ zs.getD i 0)) ≤ cnt zs (zs.getD i 0) := (List.take_sublist _ _).countP_le
  have h2 : (zs.take (i + 1)).countP (fun z => decide (z ≤ zs.getD i 0)) = (zs.take (i + 1)).length := by
    rw [List.countP_eq_length]
    intro z hz
    obtain ⟨j, hj, rfl⟩ := List.mem_iff_getElem.1 hz
    have hj' : j < i + 1 := by simp at hj; omega
    have := hs j i (by omega) hi
    rw [getD_eq zs j (by omega)] at this
    simpa using this
  have h3 : (zs.take (i + 1)).length = i + 1 := by simp; omega
  omega

theorem cnt_le (zs : List Int) (hs : Asc zs) (i : Nat) (hi : i < zs.length) (x : Int) (hx : x < zs.getD i 0) : cnt zs x ≤ i := by
  have e : cnt zs x = (zs.take i).countP (fun z => decide (z ≤ x)) + (zs.drop i).countP (fun z => decide (z ≤ x)) := by
    unfold cnt
    rw [← List.countP_append, List.take_append_drop]
  have h1 : (zs.drop i).countP (fun z => decide (z ≤ x)) = 0 := by
    rw [List.countP_eq_zero]
    intro z hz
    obtain ⟨j, hj, rfl⟩ := List.mem_iff_getElem.1 hz
    have hj' : i + j < zs.length := by simp at hj; omega
    have := hs i (i + j) (by omega) hj'
    rw [getD_eq zs (i + j) hj'] at this
    simp only [List.getElem_drop, decide_eq_true_eq]
    omega
  have h2 : (zs.take i).countP (fun z => decide (z ≤ x)) ≤ (zs.take i).length := List.countP_le_length
  have h3 : (zs.take i).length ≤ i := List.length_take_le _ _
  omega

/-- the first that is not below the wanted one is it -/
theorem first_ge (zs : List Int) (hs : Asc zs) (i k : Nat) (hi : i < zs.length) (hk : k ≤ i) (h : zs.getD i 0 ≤ zs.getD k 0) : zs.getD k 0 = zs.getD i 0 := by
  have := hs k i hk hi
  omega
/-- the first with enough not above it is it too -/
theorem part_eq (zs : List Int) (hs : Asc zs) (p k : Nat) (hn : 1 ≤ zs.length) (h1 : 1 ≤ p) (h2 : p ≤ 100) (hk : k ≤ at_ zs.length p) (h : p * zs.length ≤ 100 * cnt zs (zs.getD k 0)) : zs.getD k 0 = zs.getD (at_ zs.length p) 0 := by
  have hi := at_lt zs.length p hn h1 h2
  have ha := hs k _ hk hi
  rcases Int.lt_or_le (zs.getD k 0) (zs.getD (at_ zs.length p) 0) with hlt | hge
  · have c := cnt_le zs hs _ hi _ hlt
    have d := at_low zs.length p hn h1
    have : 100 * cnt zs (zs.getD k 0) ≤ 100 * at_ zs.length p := Nat.mul_le_mul_left 100 c
    omega
  · omega
theorem part_at (zs : List Int) (hs : Asc zs) (p : Nat) (hn : 1 ≤ zs.length) (h1 : 1 ≤ p) (h2 : p ≤ 100) : p * zs.length ≤ 100 * cnt zs (zs.getD (at_ zs.length p) 0) := by
  have hi := at_lt zs.length p hn h1 h2
  have c := cnt_ge zs hs _ hi
  have d := at_up zs.length p hn h1
  have : 100 * (at_ zs.length p + 1) ≤ 100 * cnt zs (zs.getD (at_ zs.length p) 0) := Nat.mul_le_mul_left 100 c
  omega

theorem sorted_asc (zs : List Int) (h : Asc zs) : zs.mergeSort (fun x y => decide (x ≤ y)) = zs := by
  apply List.mergeSort_of_pairwise
  rw [List.pairwise_iff_getElem]
  intro i j hi hj hij
  have := h i j (by omega) hj
  rw [getD_eq zs i hi, getD_eq zs j hj] at this
  simpa using this

/-- the per cent, kept between 1 and 100 -/
def clamp (p : Int) : Nat := (min (max p 1) 100).toNat
theorem clamp_lo (p : Int) : 1 ≤ clamp p := by unfold clamp; omega
theorem clamp_hi (p : Int) : clamp p ≤ 100 := by unfold clamp; omega
theorem clamp_eq (p : Int) : min (max p 1) 100 = (clamp p : Int) := by unfold clamp; omega

theorem cell_of_holds {w : World} {g : Nat} {S : List Int} (h : Holds (Value.int .i64) w g 0 S.toArray) (j : Nat) (hj : j < S.length) : w.cell? ⟨g, j, none⟩ = some (.int .i64 (S.getD j 0)) := by
  have h1 := (h j (by simpa using hj)).1
  rw [Nat.zero_add] at h1
  rw [h1, getElem!_pos _ j (by simpa using hj)]
  simp [List.getD, List.getElem?_eq_getElem hj]

theorem w64 (n : Int) (h1 : -9223372036854775808 ≤ n) (h2 : n ≤ 9223372036854775807) : wrap64 n = n := by unfold wrap64; omega
theorem idx_eq (n k : Nat) (hn : 1 ≤ n) (hl : n ≤ 100) (h1 : 1 ≤ k) (h2 : k ≤ 100) : wrap64 (wrap64 ((wrap64 (wrap64 ((k : Int) * (n : Int)) + 99)).tdiv 100) - 1) = ((at_ n k : Nat) : Int) := by
  have a : k * n ≤ 100 * 100 := Nat.mul_le_mul h2 hl
  have b : 1 ≤ k * n := Nat.le_trans hn (Nat.le_mul_of_pos_left n h1)
  have e : (k : Int) * (n : Int) = ((k * n : Nat) : Int) := by push_cast; rfl
  rw [e]
  unfold at_
  generalize k * n = m at a b
  have w1 : wrap64 (m : Int) = m := w64 _ (by omega) (by omega)
  have w2 : wrap64 ((m : Int) + 99) = m + 99 := w64 _ (by omega) (by omega)
  have w3 : ((m : Int) + 99).tdiv 100 = ((m + 99) / 100 : Nat) := by
    rw [Int.tdiv_eq_ediv_of_nonneg (by omega)]; omega
  have w4 : wrap64 (((m + 99) / 100 : Nat) : Int) = ((m + 99) / 100 : Nat) := w64 _ (by omega) (by omega)
  rw [w1, w2, w3, w4, w64 _ (by omega) (by omega)]
  omega

set_option maxRecDepth 100000 in
set_option maxHeartbeats 4000000 in
theorem percentile_any (b off cap : Nat) (zs : List Int) (p : Int) (hz : 1 ≤ zs.length) (hl : zs.length ≤ 100) (hs : Asc zs) (w : World) (hb : b < w.heap.size) (hI : ∀ j, j < zs.length → w.cell? ⟨b, off + j, none⟩ = some (.int .i64 (zs[j]?.getD 0))) :
    Calls Tryz.prog 18 #[.slice (some ⟨b, off, none⟩) zs.length cap, .int .i64 p] w fun e w' => e = .returned (.int .i64 (zs.getD (at_ zs.length (clamp p)) 0)) ∧ Below w.heap.size w w' := by
  have hb0 : Below w.heap.size w (w.alloc (.cells #[.slice (some ⟨b, off, none⟩) zs.length cap] 26)) := (Below.refl _ w).alloc (Nat.le_refl _) _
  have cV : ∀ (W : World), Calls Tryz.prog 40 #[.slice (some ⟨b, off, none⟩) zs.length cap] W fun e w' => e = .returned (.func (.func 76) #[] #[.pointer (some ⟨W.heap.size, 0, none⟩)]) ∧ w' = W.alloc (.cells #[.slice (some ⟨b, off, none⟩) zs.length cap] 26) :=
    fun W => (callsIn_wide (n := 6)).1 (values_in Fence.wide 6 trivial rfl _ _ _ W)
  have cS := sorted_any w.heap.size b off cap zs hz (by simp [maxLen]; omega) (by omega) (w.alloc (.cells #[.slice (some ⟨b, off, none⟩) zs.length cap] 26)) (by simp) (by simp; omega) (by simp) (fun j hj => (hb0.cell (p := ⟨b, off + j, none⟩) hb).trans (hI j hj))
  rw [sorted_asc zs hs] at cS
  have hat := at_lt zs.length (clamp p) hz (clamp_lo p) (clamp_hi p)
  have hn0 : ((zs.length : Int) == 0) = false := by rw [beq_eq_false_iff_ne]; omega
  have CV := Lib.hid cV
  have CS := Lib.hid cS
  have HI := Lib.hid hI
  have HS := Lib.hid hs
  have HB := Lib.hid hb0
  clear cV cS hI hs hb0
  obtain ⟨q, hq⟩ : ∃ q : Int, q = min (max p 1) 100 := ⟨_, rfl⟩
  have e4 : wrap64 (wrap64 ((wrap64 (wrap64 (q * ↑zs.length) + 99)).tdiv 100) - 1) = ((at_ zs.length (clamp p) : Nat) : Int) := by rw [hq, clamp_eq]; exact idx_eq _ _ hz hl (clamp_lo p) (clamp_hi p)
  obtain ⟨a, ha⟩ : ∃ a : Nat, a = at_ zs.length (clamp p) := ⟨_, rfl⟩
  rw [← ha] at e4 hat ⊢
  have HQ := Lib.hid hq
  have E4 := Lib.hid e4
  obtain ⟨y, hy⟩ : ∃ y : Int, y = zs[a]?.getD 0 := ⟨_, rfl⟩
  have hyg : zs.getD a 0 = y := by rw [hy]; simp
  rw [hyg]
  have HY := Lib.hid hy
  have HG := Lib.hid hyg
  clear hq e4 ha hy hyg
  go_enter Tryz.func18, Tryz.ntmps18
  go_wp2_with (first
    | (go_at_call 40; refine (CV.out _).mono ?_; rintro e w1 ⟨rfl, rfl⟩)
    | (go_at_call 39; refine CS.out.mono ?_; rintro e w2 ⟨g, c2, rfl, hg, hH, hB2⟩; rw [← HQ.out]; have e4 := E4.out; have hca : w2.cell? ⟨g, a, none⟩ = some (.int .i64 y) := (by rw [← HG.out]; exact cell_of_holds hH a hat); have HH := Lib.hid hH; clear hH))
  have hcc : ∀ k, k < zs.length → w2.cell? ⟨b, off + k, none⟩ = some (.int .i64 (zs[k]?.getD 0)) := fun k hk => (hB2.cell (p := ⟨b, off + k, none⟩) (by simp; omega)).trans ((HB.out.cell (p := ⟨b, off + k, none⟩) hb).trans (HI.out k hk))
  have HC := Lib.hid hcc
  have hW : Below w.heap.size w w2 := HB.out.trans (hB2.mono (by simp))
  clear hcc hca e4
  go_loopw [30] (fun i wr => ∃ k : Nat, k ≤ a ∧ i = .int .i64 k ∧ wr = w2) (fun i _ => zs.length - (intOf i).toNat)
  case atStart => exact ⟨0, Nat.zero_le _, rfl, rfl⟩
  case round =>
    obtain ⟨k, hk, rfl, rfl⟩ := hrel
    have hkl : k < zs.length := by omega
    have hck := HC.out k hkl
    obtain ⟨x, hx⟩ : ∃ x : Int, x = zs[k]?.getD 0 := ⟨_, rfl⟩
    rw [← hx] at hck
    have HX := Lib.hid hx
    clear hx
    by_cases hge : y ≤ x
    · go_wp2
      go_ret
      refine ⟨?_, hW⟩
      have := first_ge zs HS.out a k hat hk (by rw [HG.out]; simpa [← HX.out] using hge)
      rw [HG.out] at this
      rw [← this, HX.out]
      simp
    · have hka : k ≠ a := fun h => hge (by rw [HX.out, h, ← HY.out]; exact Int.le_refl _)
      have hge' : x < y := by omega
      go_wp2
      go_roundw
      case rel => exact ⟨k + 1, by omega, by go_num, trivial⟩
      case measure => simp [intOf]; omega
end Go.Proofs.YtacogbmafmdnjaaGreatDoor
