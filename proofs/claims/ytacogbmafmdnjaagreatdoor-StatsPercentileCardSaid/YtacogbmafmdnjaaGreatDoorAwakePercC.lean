/-
  What the reference's Part answers in this program: for every ascending list of 1 to 100 numbers.
-/
import Derived.Test.YtacogbmafmdnjaaGreatDoorAwakePercB
namespace Go.Proofs.YtacogbmafmdnjaaGreatDoor
open Go Go.RowKit Go.Shelf Go.Sort Go.Proofs

def cntTo (zs : List Int) (x : Int) (k : Nat) : Nat := (zs.take k).countP fun z => decide (z ≤ x)
theorem cntTo_le (zs : List Int) (x : Int) (k : Nat) : cntTo zs x k ≤ k := Nat.le_trans List.countP_le_length (List.length_take_le _ _)
theorem cntTo_all (zs : List Int) (x : Int) : cntTo zs x zs.length = cnt zs x := by simp [cntTo, cnt]
theorem cntTo_in (zs : List Int) (x : Int) (k : Nat) (hk : k < zs.length) (h : zs[k]?.getD 0 ≤ x) : cntTo zs x (k + 1) = cntTo zs x k + 1 := by
  unfold cntTo
  rw [List.take_add_one, List.countP_append]
  simp [hk] at h ⊢
  simp [h]
theorem cntTo_out (zs : List Int) (x : Int) (k : Nat) (hk : k < zs.length) (h : x < zs[k]?.getD 0) : cntTo zs x (k + 1) = cntTo zs x k := by
  unfold cntTo
  rw [List.take_add_one, List.countP_append]
  simp [hk] at h ⊢
  simp [h]

set_option maxRecDepth 100000 in
set_option maxHeartbeats 4000000 in
theorem part_mid (b off cap : Nat) (zs : List Int) (p : Int) (hp : 1 ≤ p ∧ p ≤ 100) (hz : 1 ≤ zs.length) (hl : zs.length ≤ 100) (hs : Asc zs) (w : World) (hb : b < w.heap.size) (hI : ∀ j, j < zs.length → w.cell? ⟨b, off + j, none⟩ = some (.int .i64 (zs[j]?.getD 0))) :
    Calls Tryz.prog 19 #[.slice (some ⟨b, off, none⟩) zs.length cap, .int .i64 p] w fun e w' => e = .returned (.int .i64 (zs.getD (at_ zs.length (clamp p)) 0)) ∧ Below w.heap.size w w' := by
  have hat := at_lt zs.length (clamp p) hz (clamp_lo p) (clamp_hi p)
  obtain ⟨m, hm⟩ : ∃ m : Nat, m = clamp p * zs.length := ⟨_, rfl⟩
  have hm2 : m ≤ 100 * 100 := by rw [hm]; exact Nat.mul_le_mul (clamp_hi p) hl
  have em : wrap64 (p * ↑zs.length) = (m : Int) := by
    have e : p = (clamp p : Int) := by unfold clamp; omega
    have e2 : p * (zs.length : Int) = (m : Int) := by rw [hm]; rw [e]; push_cast; congr 1; unfold clamp; omega
    rw [e2]
    exact w64 _ (by omega) (by omega)
  obtain ⟨hp1, hp2⟩ := hp
  have HM := Lib.hid hm
  obtain ⟨a, ha⟩ : ∃ a : Nat, a = at_ zs.length (clamp p) := ⟨_, rfl⟩
  rw [← ha] at hat ⊢
  have HA := Lib.hid ha
  have HI := Lib.hid hI
  have HS := Lib.hid hs
  obtain ⟨n, hn⟩ : ∃ n : Nat, n = zs.length := ⟨_, rfl⟩
  rw [← hn] at hz hl hat em ⊢
  have HN := Lib.hid hn
  have EM := Lib.hid em
  clear ha hI hs hm hn em
  obtain ⟨y, hy⟩ : ∃ y : Int, y = zs[a]?.getD 0 := ⟨_, rfl⟩
  have hyg : zs.getD a 0 = y := by rw [hy]; simp
  rw [hyg]
  have HY := Lib.hid hy
  have HG := Lib.hid hyg
  clear hy hyg
  go_enter Tryz.func19, Tryz.ntmps19
  go_wp2
  go_loopw [5] (fun i wr => ∃ k : Nat, k ≤ a ∧ i = .int .i64 k ∧ Below w.heap.size w wr) (fun i _ => n - (intOf i).toNat)
  case atStart => exact ⟨0, Nat.zero_le _, rfl, Below.refl _ _⟩
  case round =>
    obtain ⟨k, hk, rfl, hW⟩ := hrel
    have hkl : k < n := by omega
    have hck : wr.cell? ⟨b, off + k, none⟩ = some (.int .i64 (zs[k]?.getD 0)) := (hW.cell (p := ⟨b, off + k, none⟩) hb).trans (HI.out k (by rw [← HN.out]; exact hkl))
    obtain ⟨x, hx⟩ : ∃ x : Int, x = zs[k]?.getD 0 := ⟨_, rfl⟩
    rw [← hx] at hck
    have HX := Lib.hid hx
    have HCK := Lib.hid hck
    clear hx hck
    go_wp2
    go_loopw [6, 7] (fun cv jv wq => ∃ j : Nat, j ≤ n ∧ jv = .int .i64 j ∧ cv = .int .i64 (cntTo zs x j : Nat) ∧ Below w.heap.size w wq) (fun _ jv _ => n - (intOf jv).toNat)
    case atStart => exact ⟨0, Nat.zero_le _, rfl, by simp [cntTo], hW⟩
    case round =>
      obtain ⟨j, hj, rfl, rfl, hV⟩ := hrel
      have hcnt := cntTo_le zs x j
      obtain ⟨c, hc⟩ : ∃ c : Nat, c = cntTo zs x j := ⟨_, rfl⟩
      rw [← hc] at hcnt ⊢
      have HC := Lib.hid hc
      clear hc
      by_cases hlt : j < n
      · have hcj : wr.cell? ⟨b, off + j, none⟩ = some (.int .i64 (zs[j]?.getD 0)) := (hV.cell (p := ⟨b, off + j, none⟩) hb).trans (HI.out j (by rw [← HN.out]; exact hlt))
        have hck : wr.cell? ⟨b, off + k, none⟩ = some (.int .i64 x) := (hV.cell (p := ⟨b, off + k, none⟩) hb).trans (by rw [HX.out]; exact HI.out k (by rw [← HN.out]; exact hkl))
        obtain ⟨z, hz'⟩ : ∃ z : Int, z = zs[j]?.getD 0 := ⟨_, rfl⟩
        rw [← hz'] at hcj
        have HZ := Lib.hid hz'
        clear hz'
        by_cases hle : z ≤ x
        · go_wp2
          go_region
          all_goals
            go_wp2
            go_roundw
            case rel => exact ⟨j + 1, by omega, by go_num, by rw [cntTo_in zs x j (by rw [← HN.out]; exact hlt) (by rw [← HZ.out]; exact hle), ← HC.out]; go_num, hV.drew⟩
            case measure => simp [intOf]; omega
        · have hle' : x < z := by omega
          go_wp2
          go_region
          all_goals
            go_wp2
            go_roundw
            case rel => exact ⟨j + 1, by omega, by go_num, by rw [cntTo_out zs x j (by rw [← HN.out]; exact hlt) (by rw [← HZ.out]; exact hle'), ← HC.out], hV.drew⟩
            case measure => simp [intOf]; omega
      · have hjn : j = n := by omega
        have HCX := Lib.hid (show c = cnt zs x by rw [HC.out, hjn, HN.out, cntTo_all])
        have hck : wr.cell? ⟨b, off + k, none⟩ = some (.int .i64 x) := (hV.cell (p := ⟨b, off + k, none⟩) hb).trans (by rw [HX.out]; exact HI.out k (by rw [← HN.out]; exact hkl))
        have em := EM.out
        by_cases hge : m ≤ 100 * c
        · go_wp2
          go_ret
          refine ⟨?_, hV⟩
          have e2 : zs.getD k 0 = x := by rw [HX.out]; simp
          have hh := part_eq zs HS.out (clamp p) k (by rw [← HN.out]; exact hz) (clamp_lo p) (clamp_hi p) (by rw [← HA.out]; exact hk) (by rw [← HM.out, e2, ← HCX.out]; exact hge)
          rw [← HA.out, HG.out] at hh
          rw [← hh, HX.out]
          simp
        · have hka : k ≠ a := fun h => hge (by
            have hh := part_at zs HS.out (clamp p) (by rw [← HN.out]; exact hz) (clamp_lo p) (clamp_hi p)
            rw [← HA.out, HG.out, ← HM.out] at hh
            have e2 : x = y := by rw [HX.out, HY.out, h]
            rw [HCX.out, e2]; exact hh)
          have hge' : 100 * c < m := by omega
          go_wp2
          go_roundw
          case rel => exact ⟨k + 1, by omega, by go_num, hV⟩
          case measure => simp [intOf]; omega

set_option maxRecDepth 100000 in
set_option maxHeartbeats 4000000 in
theorem part_lo (b off cap : Nat) (zs : List Int) (p : Int) (hp : p < 1) (hz : 1 ≤ zs.length) (hl : zs.length ≤ 100) (hs : Asc zs) (w : World) (hb : b < w.heap.size) (hI : ∀ j, j < zs.length → w.cell? ⟨b, off + j, none⟩ = some (.int .i64 (zs[j]?.getD 0))) :
    Calls Tryz.prog 19 #[.slice (some ⟨b, off, none⟩) zs.length cap, .int .i64 p] w fun e w' => e = .returned (.int .i64 (zs.getD (at_ zs.length (clamp p)) 0)) ∧ Below w.heap.size w w' := by
  have hat := at_lt zs.length (clamp p) hz (clamp_lo p) (clamp_hi p)
  obtain ⟨m, hm⟩ : ∃ m : Nat, m = clamp p * zs.length := ⟨_, rfl⟩
  have hm2 : m ≤ 100 * 100 := by rw [hm]; exact Nat.mul_le_mul (clamp_hi p) hl
  have em : (m : Int) = zs.length := by
    have e : clamp p = 1 := by unfold clamp; omega
    rw [hm, e]; simp
  have HM := Lib.hid hm
  obtain ⟨a, ha⟩ : ∃ a : Nat, a = at_ zs.length (clamp p) := ⟨_, rfl⟩
  rw [← ha] at hat ⊢
  have HA := Lib.hid ha
  have HI := Lib.hid hI
  have HS := Lib.hid hs
  obtain ⟨n, hn⟩ : ∃ n : Nat, n = zs.length := ⟨_, rfl⟩
  rw [← hn] at hz hl hat em ⊢
  have HN := Lib.hid hn
  have EM := Lib.hid em
  clear ha hI hs hm hn em
  obtain ⟨y, hy⟩ : ∃ y : Int, y = zs[a]?.getD 0 := ⟨_, rfl⟩
  have hyg : zs.getD a 0 = y := by rw [hy]; simp
  rw [hyg]
  have HY := Lib.hid hy
  have HG := Lib.hid hyg
  clear hy hyg
  go_enter Tryz.func19, Tryz.ntmps19
  go_wp2
  go_loopw [5] (fun i wr => ∃ k : Nat, k ≤ a ∧ i = .int .i64 k ∧ Below w.heap.size w wr) (fun i _ => n - (intOf i).toNat)
  case atStart => exact ⟨0, Nat.zero_le _, rfl, Below.refl _ _⟩
  case round =>
    obtain ⟨k, hk, rfl, hW⟩ := hrel
    have hkl : k < n := by omega
    have hck : wr.cell? ⟨b, off + k, none⟩ = some (.int .i64 (zs[k]?.getD 0)) := (hW.cell (p := ⟨b, off + k, none⟩) hb).trans (HI.out k (by rw [← HN.out]; exact hkl))
    obtain ⟨x, hx⟩ : ∃ x : Int, x = zs[k]?.getD 0 := ⟨_, rfl⟩
    rw [← hx] at hck
    have HX := Lib.hid hx
    have HCK := Lib.hid hck
    clear hx hck
    go_wp2
    go_loopw [6, 7] (fun cv jv wq => ∃ j : Nat, j ≤ n ∧ jv = .int .i64 j ∧ cv = .int .i64 (cntTo zs x j : Nat) ∧ Below w.heap.size w wq) (fun _ jv _ => n - (intOf jv).toNat)
    case atStart => exact ⟨0, Nat.zero_le _, rfl, by simp [cntTo], hW⟩
    case round =>
      obtain ⟨j, hj, rfl, rfl, hV⟩ := hrel
      have hcnt := cntTo_le zs x j
      obtain ⟨c, hc⟩ : ∃ c : Nat, c = cntTo zs x j := ⟨_, rfl⟩
      rw [← hc] at hcnt ⊢
      have HC := Lib.hid hc
      clear hc
      by_cases hlt : j < n
      · have hcj : wr.cell? ⟨b, off + j, none⟩ = some (.int .i64 (zs[j]?.getD 0)) := (hV.cell (p := ⟨b, off + j, none⟩) hb).trans (HI.out j (by rw [← HN.out]; exact hlt))
        have hck : wr.cell? ⟨b, off + k, none⟩ = some (.int .i64 x) := (hV.cell (p := ⟨b, off + k, none⟩) hb).trans (by rw [HX.out]; exact HI.out k (by rw [← HN.out]; exact hkl))
        obtain ⟨z, hz'⟩ : ∃ z : Int, z = zs[j]?.getD 0 := ⟨_, rfl⟩
        rw [← hz'] at hcj
        have HZ := Lib.hid hz'
        clear hz'
        by_cases hle : z ≤ x
        · go_wp2
          go_region
          all_goals
            go_wp2
            go_roundw
            case rel => exact ⟨j + 1, by omega, by go_num, by rw [cntTo_in zs x j (by rw [← HN.out]; exact hlt) (by rw [← HZ.out]; exact hle), ← HC.out]; go_num, hV.drew⟩
            case measure => simp [intOf]; omega
        · have hle' : x < z := by omega
          go_wp2
          go_region
          all_goals
            go_wp2
            go_roundw
            case rel => exact ⟨j + 1, by omega, by go_num, by rw [cntTo_out zs x j (by rw [← HN.out]; exact hlt) (by rw [← HZ.out]; exact hle'), ← HC.out], hV.drew⟩
            case measure => simp [intOf]; omega
      · have hjn : j = n := by omega
        have HCX := Lib.hid (show c = cnt zs x by rw [HC.out, hjn, HN.out, cntTo_all])
        have hck : wr.cell? ⟨b, off + k, none⟩ = some (.int .i64 x) := (hV.cell (p := ⟨b, off + k, none⟩) hb).trans (by rw [HX.out]; exact HI.out k (by rw [← HN.out]; exact hkl))
        have em := EM.out
        by_cases hge : m ≤ 100 * c
        · go_wp2
          go_ret
          refine ⟨?_, hV⟩
          have e2 : zs.getD k 0 = x := by rw [HX.out]; simp
          have hh := part_eq zs HS.out (clamp p) k (by rw [← HN.out]; exact hz) (clamp_lo p) (clamp_hi p) (by rw [← HA.out]; exact hk) (by rw [← HM.out, e2, ← HCX.out]; exact hge)
          rw [← HA.out, HG.out] at hh
          rw [← hh, HX.out]
          simp
        · have hka : k ≠ a := fun h => hge (by
            have hh := part_at zs HS.out (clamp p) (by rw [← HN.out]; exact hz) (clamp_lo p) (clamp_hi p)
            rw [← HA.out, HG.out, ← HM.out] at hh
            have e2 : x = y := by rw [HX.out, HY.out, h]
            rw [HCX.out, e2]; exact hh)
          have hge' : 100 * c < m := by omega
          go_wp2
          go_roundw
          case rel => exact ⟨k + 1, by omega, by go_num, hV⟩
          case measure => simp [intOf]; omega

set_option maxRecDepth 100000 in
set_option maxHeartbeats 4000000 in
theorem part_hi (b off cap : Nat) (zs : List Int) (p : Int) (hp : 100 < p) (hz : 1 ≤ zs.length) (hl : zs.length ≤ 100) (hs : Asc zs) (w : World) (hb : b < w.heap.size) (hI : ∀ j, j < zs.length → w.cell? ⟨b, off + j, none⟩ = some (.int .i64 (zs[j]?.getD 0))) :
    Calls Tryz.prog 19 #[.slice (some ⟨b, off, none⟩) zs.length cap, .int .i64 p] w fun e w' => e = .returned (.int .i64 (zs.getD (at_ zs.length (clamp p)) 0)) ∧ Below w.heap.size w w' := by
  have hat := at_lt zs.length (clamp p) hz (clamp_lo p) (clamp_hi p)
  obtain ⟨m, hm⟩ : ∃ m : Nat, m = clamp p * zs.length := ⟨_, rfl⟩
  have hm2 : m ≤ 100 * 100 := by rw [hm]; exact Nat.mul_le_mul (clamp_hi p) hl
  have em : (m : Int) = 100 * zs.length := by
    have e : clamp p = 100 := by unfold clamp; omega
    rw [hm, e]; push_cast; rfl
  have HM := Lib.hid hm
  obtain ⟨a, ha⟩ : ∃ a : Nat, a = at_ zs.length (clamp p) := ⟨_, rfl⟩
  rw [← ha] at hat ⊢
  have HA := Lib.hid ha
  have HI := Lib.hid hI
  have HS := Lib.hid hs
  obtain ⟨n, hn⟩ : ∃ n : Nat, n = zs.length := ⟨_, rfl⟩
  rw [← hn] at hz hl hat em ⊢
  have HN := Lib.hid hn
  have EM := Lib.hid em
  clear ha hI hs hm hn em
  obtain ⟨y, hy⟩ : ∃ y : Int, y = zs[a]?.getD 0 := ⟨_, rfl⟩
  have hyg : zs.getD a 0 = y := by rw [hy]; simp
  rw [hyg]
  have HY := Lib.hid hy
  have HG := Lib.hid hyg
  clear hy hyg
  go_enter Tryz.func19, Tryz.ntmps19
  go_wp2
  go_loopw [5] (fun i wr => ∃ k : Nat, k ≤ a ∧ i = .int .i64 k ∧ Below w.heap.size w wr) (fun i _ => n - (intOf i).toNat)
  case atStart => exact ⟨0, Nat.zero_le _, rfl, Below.refl _ _⟩
  case round =>
    obtain ⟨k, hk, rfl, hW⟩ := hrel
    have hkl : k < n := by omega
    have hck : wr.cell? ⟨b, off + k, none⟩ = some (.int .i64 (zs[k]?.getD 0)) := (hW.cell (p := ⟨b, off + k, none⟩) hb).trans (HI.out k (by rw [← HN.out]; exact hkl))
    obtain ⟨x, hx⟩ : ∃ x : Int, x = zs[k]?.getD 0 := ⟨_, rfl⟩
    rw [← hx] at hck
    have HX := Lib.hid hx
    have HCK := Lib.hid hck
    clear hx hck
    go_wp2
    go_loopw [6, 7] (fun cv jv wq => ∃ j : Nat, j ≤ n ∧ jv = .int .i64 j ∧ cv = .int .i64 (cntTo zs x j : Nat) ∧ Below w.heap.size w wq) (fun _ jv _ => n - (intOf jv).toNat)
    case atStart => exact ⟨0, Nat.zero_le _, rfl, by simp [cntTo], hW⟩
    case round =>
      obtain ⟨j, hj, rfl, rfl, hV⟩ := hrel
      have hcnt := cntTo_le zs x j
      obtain ⟨c, hc⟩ : ∃ c : Nat, c = cntTo zs x j := ⟨_, rfl⟩
      rw [← hc] at hcnt ⊢
      have HC := Lib.hid hc
      clear hc
      by_cases hlt : j < n
      · have hcj : wr.cell? ⟨b, off + j, none⟩ = some (.int .i64 (zs[j]?.getD 0)) := (hV.cell (p := ⟨b, off + j, none⟩) hb).trans (HI.out j (by rw [← HN.out]; exact hlt))
        have hck : wr.cell? ⟨b, off + k, none⟩ = some (.int .i64 x) := (hV.cell (p := ⟨b, off + k, none⟩) hb).trans (by rw [HX.out]; exact HI.out k (by rw [← HN.out]; exact hkl))
        obtain ⟨z, hz'⟩ : ∃ z : Int, z = zs[j]?.getD 0 := ⟨_, rfl⟩
        rw [← hz'] at hcj
        have HZ := Lib.hid hz'
        clear hz'
        by_cases hle : z ≤ x
        · go_wp2
          go_region
          all_goals
            go_wp2
            go_roundw
            case rel => exact ⟨j + 1, by omega, by go_num, by rw [cntTo_in zs x j (by rw [← HN.out]; exact hlt) (by rw [← HZ.out]; exact hle), ← HC.out]; go_num, hV.drew⟩
            case measure => simp [intOf]; omega
        · have hle' : x < z := by omega
          go_wp2
          go_region
          all_goals
            go_wp2
            go_roundw
            case rel => exact ⟨j + 1, by omega, by go_num, by rw [cntTo_out zs x j (by rw [← HN.out]; exact hlt) (by rw [← HZ.out]; exact hle'), ← HC.out], hV.drew⟩
            case measure => simp [intOf]; omega
      · have hjn : j = n := by omega
        have HCX := Lib.hid (show c = cnt zs x by rw [HC.out, hjn, HN.out, cntTo_all])
        have hck : wr.cell? ⟨b, off + k, none⟩ = some (.int .i64 x) := (hV.cell (p := ⟨b, off + k, none⟩) hb).trans (by rw [HX.out]; exact HI.out k (by rw [← HN.out]; exact hkl))
        have em := EM.out
        by_cases hge : m ≤ 100 * c
        · go_wp2
          go_ret
          refine ⟨?_, hV⟩
          have e2 : zs.getD k 0 = x := by rw [HX.out]; simp
          have hh := part_eq zs HS.out (clamp p) k (by rw [← HN.out]; exact hz) (clamp_lo p) (clamp_hi p) (by rw [← HA.out]; exact hk) (by rw [← HM.out, e2, ← HCX.out]; exact hge)
          rw [← HA.out, HG.out] at hh
          rw [← hh, HX.out]
          simp
        · have hka : k ≠ a := fun h => hge (by
            have hh := part_at zs HS.out (clamp p) (by rw [← HN.out]; exact hz) (clamp_lo p) (clamp_hi p)
            rw [← HA.out, HG.out, ← HM.out] at hh
            have e2 : x = y := by rw [HX.out, HY.out, h]
            rw [HCX.out, e2]; exact hh)
          have hge' : 100 * c < m := by omega
          go_wp2
          go_roundw
          case rel => exact ⟨k + 1, by omega, by go_num, hV⟩
          case measure => simp [intOf]; omega

theorem part_any (b off cap : Nat) (zs : List Int) (p : Int) (hz : 1 ≤ zs.length) (hl : zs.length ≤ 100) (hs : Asc zs) (w : World) (hb : b < w.heap.size) (hI : ∀ j, j < zs.length → w.cell? ⟨b, off + j, none⟩ = some (.int .i64 (zs[j]?.getD 0))) :
    Calls Tryz.prog 19 #[.slice (some ⟨b, off, none⟩) zs.length cap, .int .i64 p] w fun e w' => e = .returned (.int .i64 (zs.getD (at_ zs.length (clamp p)) 0)) ∧ Below w.heap.size w w' := by
  rcases Int.lt_or_le p 1 with h | h
  · exact part_lo b off cap zs p h hz hl hs w hb hI
  · rcases Int.lt_or_le 100 p with h2 | h2
    · exact part_hi b off cap zs p h2 hz hl hs w hb hI
    · exact part_mid b off cap zs p ⟨h, h2⟩ hz hl hs w hb hI
end Go.Proofs.YtacogbmafmdnjaaGreatDoor
