/-
  StatsPercentile of samaritanlaw55 answers true for every list of steps and every per cent, where its example does.
-/
import Derived.Test.YtacogbmafmdnjaaGreatDoorAwakePercC
namespace Go.Proofs.YtacogbmafmdnjaaGreatDoor
open Go Go.RowKit Go.Shelf Go.Sort Go.Proofs

def psum (xs : List Int) (k : Nat) : Int := (xs.take k).sum
theorem psum_succ (xs : List Int) (k : Nat) (h : k < xs.length) : psum xs (k + 1) = psum xs k + xs[k]?.getD 0 := by
  unfold psum
  rw [List.take_add_one, List.sum_append]
  simp [h]
def Small (xs : List Int) : Prop := ∀ k, k < xs.length → 0 ≤ xs[k]?.getD 0 ∧ xs[k]?.getD 0 ≤ 65535
theorem psum_lo (xs : List Int) (hx : Small xs) (k : Nat) (h : k ≤ xs.length) : 0 ≤ psum xs k ∧ psum xs k ≤ 65535 * k := by
  induction k with
  | zero => simp [psum]
  | succ k ih =>
    have := ih (by omega)
    have h2 := hx k (by omega)
    rw [psum_succ xs k (by omega)]
    omega
def pre (xs : List Int) (k : Nat) : List Int := upto (fun j => psum xs (j + 1)) k
theorem pre_length (xs : List Int) (k : Nat) : (pre xs k).length = k := upto_length _ _
theorem pre_succ (xs : List Int) (k : Nat) : pre xs (k + 1) = pre xs k ++ [psum xs (k + 1)] := upto_succ _ _
theorem pre_at (xs : List Int) (n j : Nat) (h : j < n) : (pre xs n).getD j 0 = psum xs (j + 1) := by
  simp [pre, upto, h]
theorem psum_mono (xs : List Int) (hx : Small xs) (i d : Nat) (h : i + d ≤ xs.length) : psum xs i ≤ psum xs (i + d) := by
  induction d with
  | zero => exact Int.le_refl _
  | succ d ih =>
    have h1 := ih (by omega)
    have h2 := hx (i + d) (by omega)
    rw [show i + (d + 1) = (i + d) + 1 by omega, psum_succ xs _ (by omega)]
    omega
theorem pre_asc (xs : List Int) (hx : Small xs) : Asc (pre xs xs.length) := by
  intro i j hij hj
  rw [pre_length] at hj
  rw [pre_at _ _ _ (by omega), pre_at _ _ _ hj]
  have := psum_mono xs hx (i + 1) (j - i) (by omega)
  rwa [show i + 1 + (j - i) = j + 1 by omega] at this

theorem own_cells {W : World} {base g cap k : Nat} {zs : List Int} (hl : zs.length = k) (h : W.ownsRow base 2 1 (.slice (some ⟨g, 0, none⟩) k cap) k (zs.map (Value.int .i64))) : ∀ j, j < k → W.cell? ⟨g, 0 + j, none⟩ = some (.int .i64 (zs[j]?.getD 0)) := by
  intro j hj
  rw [Nat.zero_add, h.cellAt j (by omega)]
  simp [hl, hj]

/-- the steps' cells -/
def StepsIn (w : World) (A : Option Addr) (xs : List Int) : Prop := ∀ k, k < xs.length → ∃ b off, A = some ⟨b, off, none⟩ ∧ b < w.heap.size ∧ w.cell? ⟨b, off + k, none⟩ = some (.int .u16 (xs[k]?.getD 0))

set_option maxHeartbeats 1000000 in
theorem percentile_nil (A : Option Addr) (c : Nat) (p : Int) (w : World) : Calls Tryz.prog 18 #[.slice A 0 c, .int .i64 p] w fun e w' => e = .returned (.int .i64 0) ∧ Below w.heap.size w w' := by
  go_enter Tryz.func18, Tryz.ntmps18
  go_wp2
  go_ret
  exact ⟨rfl, Below.refl _ _⟩
set_option maxHeartbeats 1000000 in
theorem part_nil (A : Option Addr) (c : Nat) (p : Int) (w : World) : Calls Tryz.prog 19 #[.slice A 0 c, .int .i64 p] w fun e w' => e = .returned (.int .i64 0) ∧ Below w.heap.size w w' := by
  go_enter Tryz.func19, Tryz.ntmps19
  rcases Int.lt_or_le p 1 with h | h
  · go_wp2
    go_loop [5] (fun i => i = .int .i64 0) (fun _ => 0)
    case atStart => rfl
    case round =>
      subst hrel
      go_wp2
      go_ret
      exact ⟨rfl, Below.refl _ _⟩
  · rcases Int.lt_or_le 100 p with h2 | h2
    · go_wp2
      go_loop [5] (fun i => i = .int .i64 0) (fun _ => 0)
      case atStart => rfl
      case round =>
        subst hrel
        go_wp2
        go_ret
        exact ⟨rfl, Below.refl _ _⟩
    · go_wp2
      go_loop [5] (fun i => i = .int .i64 0) (fun _ => 0)
      case atStart => rfl
      case round =>
        subst hrel
        go_wp2
        go_ret
        exact ⟨rfl, Below.refl _ _⟩

set_option maxHeartbeats 4000000 in
set_option maxRecDepth 100000 in
theorem lawP_any (A : Option Addr) (c : Nat) (xs : List Int) (p : Int) (w : World) (hS : StepsIn w A xs) (hx : Small xs) (hlen : xs.length ≤ 9223372036854775807)
    (haw : ∀ W : World, Below w.heap.size w W → Calls Tryz.prog 9 #[] W fun e w' => e = .returned (.bool true) ∧ Below W.heap.size W w') :
    Calls Tryz.prog 5 #[.slice A xs.length c, .int .i64 p] w fun e w' => e = .returned (.bool true) ∧ Below w.heap.size w w' := by
  obtain ⟨i0, hi, hz0, hz1, hz2⟩ := info_parts info2
  obtain ⟨n, hn⟩ : ∃ n : Nat, n = xs.length := ⟨_, rfl⟩
  rw [← hn] at hlen ⊢
  have HA := Lib.hid haw
  have HS := Lib.hid hS
  have HX := Lib.hid hx
  have HN := Lib.hid hn
  clear haw hS hx hn
  by_cases hbig : 100 < n
  · go_enter Tryz.func5, Tryz.ntmps5
    go_wp2_with (go_at_call 9; refine (HA.out _ (Below.refl _ _)).mono ?_; rintro e w1 ⟨rfl, hb1⟩)
    go_ret
    exact ⟨rfl, hb1⟩
  go_enter Tryz.func5, Tryz.ntmps5
  go_wp2_with (go_at_call 9; refine (HA.out _ (Below.refl _ _)).mono ?_; rintro e w1 ⟨rfl, hb1⟩)
  go_loopw [5, 6, 17] (fun v s i wr => ∃ k : Nat, k ≤ n ∧ i = .int .i64 k ∧ s = .int .i64 (psum xs k) ∧ wr.ownsRow w.heap.size 2 1 v k ((pre xs k).map (Value.int .i64)) ∧ Below w.heap.size w wr) (fun _ _ i _ => n - (intOf i).toNat)
  case atStart => exact ⟨0, Nat.zero_le _, rfl, rfl, World.ownsRow_nil _ _ _ _, hb1⟩
  case round =>
    obtain ⟨k, hk, rfl, rfl, hown, hb⟩ := hrel
    have hps := psum_lo xs HX.out k (by rw [← HN.out]; exact hk)
    by_cases hlt : k < n
    · obtain ⟨b, off, rfl, hbl, hc0⟩ := HS.out k (by rw [← HN.out]; exact hlt)
      have hxk := HX.out k (by rw [← HN.out]; exact hlt)
      have hc : wr.cell? ⟨b, off + k, none⟩ = some (.int .u16 (xs[k]?.getD 0)) := (hb.cell (p := ⟨b, off + k, none⟩) hbl).trans hc0
      obtain ⟨x, hxx⟩ : ∃ x : Int, x = xs[k]?.getD 0 := ⟨_, rfl⟩
      rw [← hxx] at hc hxk
      have hsu : psum xs (k + 1) = psum xs k + x := by rw [hxx]; exact psum_succ xs k (by rw [← HN.out]; exact hlt)
      obtain ⟨s, hs⟩ : ∃ s : Int, s = psum xs k := ⟨_, rfl⟩
      rw [← hs] at hps hsu ⊢
      have HSU := Lib.hid hsu
      clear hc0 hxx hsu hs
      have hsz := hb.size
      have hown1 := hown.alloc (.cells #[.int .i64 (s + x)] 2)
      have hbA : Below w.heap.size w (wr.alloc (.cells #[.int .i64 (s + x)] 2)) := hb.alloc hb.size _
      go_wp2_with (at_builtin; (refine wpList_append_own _ rfl _ _ 26 rfl w.heap.size 2 i0 _ 1 8 Tryz.underlying26 hi hz0 hz1 hz2 rfl (by decide) _ _ _ rfl hown1 ⟨wr.heap.size, 0, none⟩ 1 1 [.int .i64 (s + x)] rfl rfl ?c1 ?c2 ?c3 ?c4 ?c5 ?_))
      case c1 =>
        intro j u hj
        match j, hj with
        | 0, hj => simp at hj; subst hj; simp [Addr.add]
        | j + 1, hj => simp at hj
      case c2 => intro u hu; simp at hu; rcases hu with rfl; rfl
      case c3 => unfold maxLen; omega
      case c4 => omega
      case c5 => simp; omega
      intro v' w2 hown' hgrow _
      have hb2 := hbA.grown hgrow (by simp; omega) (fun g hg => (hown1.lt g hg).1)
      clear hown1 hgrow
      go_wp2
      go_roundw
      case rel =>
        refine ⟨k + 1, by omega, by go_num, by rw [HSU.out]; try go_num, ?_, hb2⟩
        rw [pre_succ, HSU.out, List.map_append]
        exact hown'
      case measure => simp [intOf]; omega
    · obtain rfl : k = n := by omega
      rcases Nat.eq_zero_or_pos k with h0 | hk1
      · subst h0
        have hp0 : psum xs 0 = 0 := rfl
        rw [hp0]
        rcases hown.2 with ⟨rfl, _⟩ | ⟨g, cap, cur, rfl, _⟩
        all_goals
          clear hown
          go_wp2_with (first
            | (go_at_call 18; refine (percentile_nil _ _ _ _).mono ?_; rintro e w2 ⟨rfl, hb2⟩; replace hb := hb.trans (hb2.mono hb.size))
            | (go_at_call 19; refine (part_nil _ _ _ _).mono ?_; rintro e w3 ⟨rfl, hb3⟩; replace hb := hb.trans (hb3.mono hb.size)))
          go_ret
          exact ⟨rfl, hb⟩
      rcases hown.2 with ⟨rfl, h0⟩ | ⟨g, cap, cur, rfl, hg, hh, _⟩
      · omega
      · skip
        have hgl : g < wr.heap.size := (Array.getElem?_eq_some_iff.1 hh).1
        have hlk : (pre xs k).length = k := pre_length xs k
        have hasc : Asc (pre xs k) := by rw [HN.out]; exact pre_asc xs HX.out
        have hcell := own_cells hlk hown
        have cP : ∀ (q : Int) (W : World), Below wr.heap.size wr W → Calls Tryz.prog 18 #[.slice (some ⟨g, 0, none⟩) k cap, .int .i64 q] W fun e w' => e = .returned (.int .i64 ((pre xs k).getD (at_ k (clamp q)) 0)) ∧ Below W.heap.size W w' := fun q W hW => by
          have := percentile_any g 0 cap (pre xs k) q (by omega) (by omega) hasc W (Nat.lt_of_lt_of_le hgl hW.size) (fun j hj => (hW.cell (p := ⟨g, 0 + j, none⟩) hgl).trans (hcell j (by omega)))
          rwa [hlk] at this
        have cR : ∀ (q : Int) (W : World), Below wr.heap.size wr W → Calls Tryz.prog 19 #[.slice (some ⟨g, 0, none⟩) k cap, .int .i64 q] W fun e w' => e = .returned (.int .i64 ((pre xs k).getD (at_ k (clamp q)) 0)) ∧ Below W.heap.size W w' := fun q W hW => by
          have := part_any g 0 cap (pre xs k) q (by omega) (by omega) hasc W (Nat.lt_of_lt_of_le hgl hW.size) (fun j hj => (hW.cell (p := ⟨g, 0 + j, none⟩) hgl).trans (hcell j (by omega)))
          rwa [hlk] at this
        have e100 : (pre xs k).getD (at_ k (clamp 100)) 0 = psum xs k := by
          have : at_ k (clamp 100) = k - 1 := by
            have : clamp 100 = 100 := by decide
            rw [this]; unfold at_; omega
          rw [this, pre_at _ _ _ (by omega)]
          congr 1; omega
        have cL := cP 100
        have cX := cP p
        have cY := cR p
        rw [e100] at cL
        generalize (pre xs k).getD (at_ k (clamp p)) 0 = y at cX cY
        generalize psum xs k = s at cL ⊢
        have CN := Lib.hid (percentile_nil none 0 p)
        have CL := Lib.hid cL
        have CX := Lib.hid cX
        have CY := Lib.hid cY
        clear cL cX cY cP cR e100 hcell hasc hown hh hps
        have hbr : Below wr.heap.size wr wr := Below.refl _ _
        go_wp2_with (first
          | (go_at_call 18; refine (CX.out _ hbr).mono ?_; clear CX; rintro e w2 ⟨rfl, hb2⟩; replace hbr := hbr.trans (hb2.mono hbr.size); have CL' := CL)
          | (go_at_call 18; refine (CL'.out _ hbr).mono ?_; clear CL' CL; rintro e w2 ⟨rfl, hb2⟩; replace hbr := hbr.trans (hb2.mono hbr.size); have CN' := CN)
          | (go_at_call 18; refine (CN'.out _).mono ?_; clear CN'; rintro e w2 ⟨rfl, hb2⟩; replace hbr := hbr.trans (hb2.mono hbr.size))
          | (go_at_call 19; refine (CY.out _ hbr).mono ?_; rintro e w3 ⟨rfl, hb3⟩; replace hbr := hbr.trans (hb3.mono hbr.size)))
        go_ret
        exact ⟨rfl, hb.trans (hbr.mono hb.size)⟩
end Go.Proofs.YtacogbmafmdnjaaGreatDoor
