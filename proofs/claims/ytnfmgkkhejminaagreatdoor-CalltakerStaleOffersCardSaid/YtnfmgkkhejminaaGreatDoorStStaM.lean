/-
  checksum.addInt; memories out of a list of blocks; the rules of the words hold.
-/
import Derived.Test.YtnfmgkkhejminaaGreatDoorStLocF
import Derived.Test.YtnfmgkkhejminaaGreatDoorStStaI
import Derived.Test.YtnfmgkkhejminaaGreatDoorStStaJ
import Derived.Test.YtnfmgkkhejminaaGreatDoorStAckQ
namespace Go.Proofs.YtnfmgkkhejminaaGreatDoor
open Go Go.RowKit Wi
def Same (v : Value) (w : World) (e : Ending) (w' : World) : Prop := e = .returned v ∧ w' = w
/-- checksum.addByte -/
def addB (s b : Int) : Int :=
  bits BinOp.xor IntKind.u64 (IntKind.u64.wrap (bits BinOp.xor IntKind.u64 s (IntKind.u64.wrap b) * 1099511628211)) (IntKind.u64.wrap (bits BinOp.xor IntKind.u64 s (IntKind.u64.wrap b) * 1099511628211) / 4294967296)
set_option maxHeartbeats 4000000 in
set_option maxRecDepth 100000 in
theorem addByte_is (s b : Int) (w : World) : Calls Tryz.prog 160 #[.int .u64 s, .int .u8 b] w (Same (.int .u64 (addB s b)) w) := by
  go_enter Tryz.func160, Tryz.ntmps160
  go_wp2
  go_ret
  exact ⟨rfl, rfl⟩
/-- checksum.addInt -/
def addK (s n : Int) : Nat → Int
  | 0 => s
  | k + 1 => addB (addK s n k) (n / 2 ^ (8 * k) % 256)
def addI (s n : Int) : Int := addK s n 8
set_option maxHeartbeats 4000000 in
set_option maxRecDepth 100000 in
theorem addInt_is (s n : Int) (w : World) : Calls Tryz.prog 90 #[.int .u64 s, .int .u64 n] w (Same (.int .u64 (addI s n)) w) := by
  have HB := Lib.hid (fun s b w => addByte_is s b w)
  obtain ⟨f, hf⟩ : ∃ f, f = addK s n := ⟨_, rfl⟩
  have HF := Lib.hid (show f 0 = s ∧ (∀ k : Nat, f (k + 1) = addB (f k) (n / 2 ^ (8 * k) % 256)) ∧ addI s n = f 8 by rw [hf]; exact ⟨rfl, fun _ => rfl, rfl⟩)
  clear hf
  obtain ⟨R, hR⟩ : ∃ R, R = addI s n := ⟨_, rfl⟩
  rw [← hR] at HF ⊢
  clear hR
  go_enter Tryz.func90, Tryz.ntmps90
  go_wp2
  go_loopw [0, 6] (fun t i wr => ∃ (k : Nat) (z : Int), k ≤ 8 ∧ i = .int .i64 k ∧ t = .int .u64 z ∧ Hid (z = f k) ∧ wr = w) (fun _ i _ => 8 - (intOf i).toNat)
  case atStart => exact ⟨0, s, Nat.zero_le _, rfl, rfl, Lib.hid HF.out.1.symm, rfl⟩
  case round =>
    obtain ⟨k, z, hk, rfl, rfl, HZ, rfl⟩ := hrel
    by_cases hlt : k < 8
    · have hki : (k : Int) < 8 := by omega
      go_wp2_with (go_at_call 160; go_loud (refine (HB.out _ _ _).mono ?_; rintro e W ⟨rfl, rfl⟩))
      go_roundw
      case rel => exact ⟨k + 1, _, by omega, by go_num, rfl, Lib.hid (by rw [HF.out.2.1, ← HZ.out]), trivial⟩
      case measure => simp [intOf]; omega
    · obtain rfl : k = 8 := by omega
      go_wp2
      go_ret
      exact ⟨by rw [HF.out.2.2, ← HZ.out]; rfl, rfl⟩
end Go.Proofs.YtnfmgkkhejminaaGreatDoor

namespace Go.Ev
open Go.RowKit
/-! ## a memory out of a list of blocks -/
def mapE (E : List (Nat × Blk × M)) (D : List (Nat × M)) : Map := fun b => match E.find? (fun e => e.1 == b) with
  | some e => some e.2.2
  | none => (D.find? fun e => e.1 == b).map (·.2)
theorem nodup_inj {α β : Type} (f : α → β) : ∀ l : List α, (l.map f).Nodup → ∀ a ∈ l, ∀ b ∈ l, f a = f b → a = b
  | [], _, a, ha, _, _, _ => by cases ha
  | x :: l, h, a, ha, b, hb, e => by
    simp only [List.map_cons, List.nodup_cons, List.mem_map, not_exists, not_and] at h
    rcases List.mem_cons.1 ha with h1 | h1
    · rcases List.mem_cons.1 hb with h2 | h2
      · rw [h1, h2]
      · exact absurd (by rw [← h1]; exact e.symm) (h.1 b h2)
    · rcases List.mem_cons.1 hb with h2 | h2
      · exact absurd (by rw [← h2]; exact e) (h.1 a h1)
      · exact nodup_inj f l h.2 a h1 b h2 e
theorem find_key : ∀ (E : List (Nat × Blk × M)), (E.map (·.1)).Nodup → ∀ e ∈ E, E.find? (fun d => d.1 == e.1) = some e
  | [], _, e, he => by cases he
  | x :: E, h, e, he => by
    simp only [List.map_cons, List.nodup_cons, List.mem_map, not_exists, not_and] at h
    rw [List.find?_cons]
    rcases List.mem_cons.1 he with rfl | he
    · simp
    · have : (x.1 == e.1) = false := by
        simp only [beq_eq_false_iff_ne, ne_eq]
        exact fun q => h.1 e he q.symm
      rw [this]
      exact find_key E h.2 e he
variable {P : Program}
section
variable [OTab] [OVal]
theorem rel_list {E : List (Nat × Blk × M)} {D : List (Nat × M)} {N : Nat} {w : World} (hk : (E.map (·.1)).Nodup) (hd : (E.map (·.2.2.blk)).Nodup) (hin : ∀ e ∈ E, e.2.2.blk < w.heap.size) (hD : ∀ e ∈ D, e.2.blk < w.heap.size)
    (hb : ∀ e ∈ E, BlkRel (mapE E D) e.2.1 e.2.2 w) (hN : ∀ e ∈ E, e.1 < N) (hg : ∀ g, g < P.globals.size → ∃ lim, mapE E D g = some ⟨g, 0, lim⟩) (hK : ∀ B, ¬ OVal.kept B) : Rel P (mapE E D) (stB (E.map fun e => (e.1, e.2.1)) N) w := by
  have key : ∀ b k, (b, k) ∈ (E.map fun e => (e.1, e.2.1)) → ∃ e ∈ E, e.1 = b ∧ e.2.1 = k ∧ mapE E D b = some e.2.2 := fun b k h => by
    obtain ⟨e, he, q⟩ := List.mem_map.1 h
    cases q
    refine ⟨e, he, rfl, rfl, ?_⟩
    unfold mapE
    rw [find_key E hk e he]
  refine rel_blks hg (fun b x hx => ?_) (fun b k x h1 h2 => ?_) (fun b c x y kb kc h1 h2 hbc h3 h4 => ?_) (fun b k h => ?_) hK
  · unfold mapE at hx
    split at hx
    · rename_i e he
      cases hx
      exact hin e (List.mem_of_find?_eq_some he)
    · obtain ⟨e, he, rfl⟩ := Option.map_eq_some_iff.1 hx
      exact hD e (List.mem_of_find?_eq_some he)
  · obtain ⟨e, he, rfl, rfl, h5⟩ := key b k h1
    rw [h2] at h5
    cases h5
    exact hb e he
  · obtain ⟨e, he, rfl, rfl, h5⟩ := key b kb h1
    obtain ⟨d, hd', rfl, rfl, h6⟩ := key c kc h2
    rw [h3] at h5
    rw [h4] at h6
    cases h5
    cases h6
    intro q
    have := nodup_inj (fun e : Nat × Blk × M => e.2.2.blk) E hd e he d hd' q
    rw [this] at hbc
    exact hbc rfl
  · obtain ⟨e, he, rfl, _⟩ := key b k h
    exact hN e he
/-- known cells, read only -/
theorem cells_blk {m : Map} {w : World} {B o lim : Nat} {vs cvs : List Value} (hc : Go.Proofs.YtnfmgkkhejminaaGreatDoor.CellsW w B o cvs) (hv : concL m vs = some cvs) (hn : vs.length = lim) (hl : vs.length ≤ 1000) (h0 : 0 < vs.length) : BlkRel m (blkR vs) ⟨B, o, lim⟩ w := by
  subst hn
  have hlen := (concL_len hv)
  have hcell : ∀ i, i < vs.length → ∃ v cv, vs[i]? = some v ∧ conc m v = some cv ∧ w.cell? ⟨B, o + i, none⟩ = some cv := fun i hi => by
    obtain ⟨cv, h1, h2⟩ := concL_get hv i _ (List.getElem?_eq_getElem hi)
    exact ⟨_, cv, List.getElem?_eq_getElem hi, h1, hc.2 i cv h2⟩
  obtain ⟨v0, c0, _, _, h0c⟩ := hcell (vs.length - 1) (by omega)
  obtain ⟨arr, e, lo, hi, g1, g2⟩ := Go.Proofs.YtnfmgkkhejminaaGreatDoor.cell_arr h0c
  refine blkR_rel ⟨arr, e, lo, hi, g1, ?_, fun i v hi => ?_⟩ (Nat.le_refl _) hl
  · have := (Array.getElem?_eq_some_iff.1 g2).1
    simp only
    omega
  · obtain ⟨v', cv, k1, k2, k3⟩ := hcell i (List.getElem?_eq_some_iff.1 hi).1
    rw [hi] at k1
    cases k1
    refine ⟨cv, k2, ?_⟩
    simp only [World.cell?, g1] at k3
    exact k3
end
end Go.Ev

namespace Go.Proofs.YtnfmgkkhejminaaGreatDoor
open Go Go.RowKit Go.Ev Wi
/-- a word without its lowest j bits -/
def wd (a : Nat) : Nat → Nat
  | 0 => a
  | j + 1 => Nat.land (wd a j) (wd a j - 1)
theorem wd_lt {a : Nat} (h : a < 512) : ∀ j, wd a j < 512
  | 0 => h
  | j + 1 => Nat.lt_of_le_of_lt (Nat.and_le_left) (wd_lt h j)
/-- what the letters stand for -/
def baseC (l : List Int) (a i : Nat) : Value :=
  if i < 10 then .int .i64 (l.getD i 0) else if i < 20 then .int .u64 (l.getD (i - 10) 0) else if i = 78 then .int .u64 a else if i < 100 then .int .i64 0 else if i < 110 then .int .i64 (tz9 (wd a (i - 100))) else if i < 120 then .int .u64 (tz9 (wd a (i - 110)))
  else if i < 130 then .int .i64 0 else if i < 140 then .int .u64 ((wd a (i - 130) - 1 : Nat) : Int) else .int .u64 (wd a (i - 140))
def numV : Value → Int
  | .int _ z => z
  | _ => 0
/-- the letters that addInt gives -/
noncomputable def valC (base : Nat → Value) (i : Nat) : Value :=
  if _h : i < p70 then base i else .int .u64 (addI (if i / p70 < p64 then ((i / p70 : Nat) : Int) else numV (valC base (i / p70))) (if i % p70 < p64 then ((i % p70 : Nat) : Int) else numV (base (i % p70 - p65))))
  termination_by i
  decreasing_by
    exact Nat.div_lt_self (by unfold p70 at _h; omega) (by unfold p70; omega)
theorem valC_low {base : Nat → Value} {i : Nat} (h : i < p70) : valC base i = base i := by
  rw [valC, dif_pos h]
theorem valC_high {base : Nat → Value} {i : Nat} (h : p70 ≤ i) : valC base i = .int .u64 (addI (if i / p70 < p64 then ((i / p70 : Nat) : Int) else numV (valC base (i / p70))) (if i % p70 < p64 then ((i % p70 : Nat) : Int) else numV (base (i % p70 - p65)))) := by
  rw [valC, dif_neg (by omega)]
theorem baseC_shape (l : List Int) (a i : Nat) : ∃ k n, baseC l a i = .int k n := by
  unfold baseC
  repeat' split
  all_goals exact ⟨_, _, rfl⟩
theorem valC_shape (l : List Int) (a i : Nat) : (∃ k n, valC (baseC l a) i = .int k n) ∨ (∃ s, valC (baseC l a) i = .string s) ∨ ∃ A m c, valC (baseC l a) i = .slice A m c := by
  rcases Nat.lt_or_ge i p70 with h | h
  · rw [valC_low h]
    exact .inl (baseC_shape l a i)
  · rw [valC_high h]
    exact .inl ⟨_, _, rfl⟩
section
variable {l : List Int} {a : Nat}
theorem v_word {j : Nat} (hj : j < 10) : con (valC (baseC l a)) (wordV j) = .int .u64 (wd a j) := by
  cases j with
  | zero =>
    show valC (baseC l a) 78 = _
    rw [valC_low (by unfold p70; omega)]
    rfl
  | succ j =>
    show valC (baseC l a) (141 + j) = _
    rw [valC_low (by unfold p70; omega)]
    unfold baseC
    rw [if_neg (by omega), if_neg (by omega), if_neg (by omega), if_neg (by omega), if_neg (by omega), if_neg (by omega), if_neg (by omega), if_neg (by omega)]
    rw [show 141 + j - 140 = j + 1 by omega]
theorem v_less {j : Nat} (hj : j < 10) : con (valC (baseC l a)) (.float .f64 (Nat.add 130 j)) = .int .u64 ((wd a j - 1 : Nat) : Int) := by
  show valC (baseC l a) (130 + j) = _
  rw [valC_low (by unfold p70; omega)]
  unfold baseC
  rw [if_neg (by omega), if_neg (by omega), if_neg (by omega), if_neg (by omega), if_neg (by omega), if_neg (by omega), if_neg (by omega), if_pos (by omega)]
  rw [show 130 + j - 130 = j by omega]
theorem v_tz {j : Nat} (hj : j < 10) : con (valC (baseC l a)) (.float .f64 (Nat.add 100 j)) = .int .i64 (tz9 (wd a j)) := by
  show valC (baseC l a) (100 + j) = _
  rw [valC_low (by unfold p70; omega)]
  unfold baseC
  rw [if_neg (by omega), if_neg (by omega), if_neg (by omega), if_neg (by omega), if_pos (by omega)]
  rw [show 100 + j - 100 = j by omega]
theorem b_tzu {i : Nat} (h0 : 110 ≤ i) (h1 : i < 120) : baseC l a i = .int .u64 (tz9 (wd a (i - 110))) := by
  unfold baseC
  rw [if_neg (by omega), if_neg (by omega), if_neg (by omega), if_neg (by omega), if_neg (by omega), if_pos (by omega)]
theorem v_tzu {j : Nat} (hj : j < 10) : con (valC (baseC l a)) (.float .f64 (Nat.add 110 j)) = .int .u64 (tz9 (wd a j)) := by
  show valC (baseC l a) (110 + j) = _
  rw [valC_low (by unfold p70; omega), b_tzu (by omega) (by omega), show 110 + j - 110 = j by omega]
theorem v_said {i : Nat} (hi : i < 10) : con (valC (baseC l a)) (.float .f64 i) = .int .i64 (l.getD i 0) := by
  show valC (baseC l a) i = _
  rw [valC_low (by unfold p70; omega)]
  unfold baseC
  rw [if_pos hi]
theorem b_saidu {i : Nat} (h0 : 10 ≤ i) (h1 : i < 20) : baseC l a i = .int .u64 (l.getD (i - 10) 0) := by
  unfold baseC
  rw [if_neg (by omega), if_pos (by omega)]
theorem v_saidu {i : Nat} (hi : i < 10) : con (valC (baseC l a)) (.float .f64 (Nat.add 10 i)) = .int .u64 (l.getD i 0) := by
  show valC (baseC l a) (10 + i) = _
  rw [valC_low (by unfold p70; omega), b_saidu (by omega) (by omega), show 10 + i - 10 = i by omega]
end
/-! ## addInt's letters -/
theorem codeS_some {l : List Int} {a : Nat} {x : Value} {s : Nat} (h : codeS x = some s) : con (valC (baseC l a)) x = .int .u64 (if s < p64 then (s : Int) else numV (valC (baseC l a) s)) ∧ 1 ≤ s := by
  unfold codeS at h
  split at h
  · rename_i z
    obtain ⟨h1, h2⟩ := gd_some h
    cases h2
    rw [Bool.and_eq_true] at h1
    have hz0 : 0 < s := Nat.le_of_ble_eq_true h1.1
    have hz1 : s < p64 := Nat.le_of_ble_eq_true h1.2
    rw [if_pos hz1]
    exact ⟨rfl, hz0⟩
  · rename_i i
    obtain ⟨h1, h2⟩ := gd_some h
    cases h2
    have hi : p70 ≤ s := Nat.le_of_ble_eq_true h1
    rw [if_neg (by unfold p64; unfold p70 at hi; omega)]
    refine ⟨?_, by unfold p70 at hi; omega⟩
    show valC _ s = _
    rw [valC_high hi]
    rfl
  · cases h
theorem codeN_some {l : List Int} {a : Nat} {x : Value} {n : Nat} (h : codeN x = some n) : con (valC (baseC l a)) x = .int .u64 (if n < p64 then (n : Int) else numV (baseC l a (n - p65))) ∧ n < p70 := by
  unfold codeN at h
  split at h
  · rename_i z
    obtain ⟨h1, h2⟩ := gd_some h
    cases h2
    have hz1 : n < p64 := Nat.le_of_ble_eq_true h1
    rw [if_pos hz1]
    exact ⟨rfl, by unfold p64 at hz1; unfold p70; omega⟩
  · rename_i j
    obtain ⟨h1, h2⟩ := gd_some h
    cases h2
    have hj : (10 ≤ j ∧ j < 20) ∨ (110 ≤ j ∧ j < 120) := by
      rw [Bool.or_eq_true, Bool.and_eq_true, Bool.and_eq_true] at h1
      rcases h1 with ⟨q1, q2⟩ | ⟨q1, q2⟩
      · exact .inl ⟨Nat.le_of_ble_eq_true q1, Nat.le_of_ble_eq_true q2⟩
      · exact .inr ⟨Nat.le_of_ble_eq_true q1, Nat.le_of_ble_eq_true q2⟩
    have e : Nat.add p65 j = p65 + j := rfl
    rw [e, if_neg (by unfold p64 p65; omega), show p65 + j - p65 = j by omega]
    refine ⟨?_, by unfold p65 p70; omega⟩
    show valC _ j = _
    rw [valC_low (by unfold p70; omega)]
    rcases hj with ⟨q1, q2⟩ | ⟨q1, q2⟩
    · rw [b_saidu q1 q2]
      rfl
    · rw [b_tzu q1 q2]
      rfl
  · cases h
theorem add_body : ∃ fn c, Tryz.prog.funcs[90]? = some fn ∧ fn.body = some c ∧ (fn.name == "runtime.NumGoroutine") = false := ⟨_, _, Tryz.func90, rfl, by kernel_rfl⟩
theorem code_parts {Q s n : Nat} (hQ : 0 < Q) (k2 : 1 ≤ s) (k4 : n < Q) : Q ≤ Nat.add (Nat.mul s Q) n ∧ (Nat.add (Nat.mul s Q) n) / Q = s ∧ (Nat.add (Nat.mul s Q) n) % Q = n := by
  have e1 : Nat.add (Nat.mul s Q) n = s * Q + n := rfl
  rw [e1]
  refine ⟨?_, ?_, ?_⟩
  · have := Nat.mul_le_mul_right Q k2
    omega
  · rw [Nat.mul_comm, Nat.mul_add_div hQ, Nat.div_eq_of_lt k4, Nat.add_zero]
  · rw [Nat.mul_comm, Nat.mul_add_mod, Nat.mod_eq_of_lt k4]
theorem val_code {base : Nat → Value} {s n c : Nat} (k2 : 1 ≤ s) (k4 : n < p70) (hc : Nat.add (Nat.mul s p70) n = c) : valC base c = .int .u64 (addI (if s < p64 then (s : Int) else numV (valC base s)) (if n < p64 then (n : Int) else numV (base (n - p65)))) := by
  obtain ⟨d0, d1, d2⟩ := code_parts (Q := p70) (by unfold p70; omega) k2 k4
  rw [hc] at d0 d1 d2
  rw [valC_high d0, d1, d2]
theorem genA_some {f : Nat} {args : List Value} {z : Value} (h : genA f args = some z) : f = 90 ∧ ∃ x y s n c, args = [x, y] ∧ codeS x = some s ∧ codeN y = some n ∧ Nat.add (Nat.mul s p70) n = c ∧ z = .float .f64 c := by
  unfold genA at h
  cases hf : Nat.beq f 90 with
  | false => rw [hf] at h; cases h
  | true =>
    rw [hf, bsel_true] at h
    split at h
    · rename_i x y
      obtain ⟨s, hs, h2⟩ := ob_some h
      obtain ⟨n, hn, h3⟩ := ob_some h2
      exact ⟨Nat.eq_of_beq_eq_true hf, x, y, s, n, _, rfl, hs, hn, rfl, (Option.some.inj h3).symm⟩
    · cases h
theorem genA_holds {l : List Int} {a f : Nat} {args : List Value} {z : Value} (h : genA f args = some z) : CRule.Holds Tryz.prog (valC (baseC l a)) ⟨f, args, [], z⟩ := by
  obtain ⟨rfl, x, y, s, n, c, rfl, hs, hn, hc, rfl⟩ := genA_some h
  obtain ⟨k1, k2⟩ := codeS_some (l := l) (a := a) hs
  obtain ⟨k3, k4⟩ := codeN_some (l := l) (a := a) hn
  have hval := val_code (base := baseC l a) k2 k4 hc
  clear h hs hn hc
  generalize (if s < p64 then (s : Int) else numV (valC (baseC l a) s)) = u at k1 hval
  generalize (if n < p64 then (n : Int) else numV (baseC l a (n - p65))) = t at k3 hval
  generalize valC (baseC l a) = V at k1 k3 hval ⊢
  intro w _ _
  refine ⟨add_body, fun cs => ?_⟩
  obtain ⟨e, w', fr, ⟨rfl, rfl⟩, q1, q2, q3⟩ := addInt_is u t w cs
  refine ⟨w', Below.refl _ _, fr, ?_, q2, ?_⟩
  · show Steps Tryz.prog (lone (Frame.enter Tryz.prog 90 ⟨[con V x, con V y]⟩ .normal) cs w') _
    rw [k1, k3]
    exact q1
  · show Frame.leaving Tryz.prog fr w' (.returned (V c))
    rw [hval]
    exact q3
/-! ## the rules of the words -/
noncomputable def stepOk (a : Nat) : Bool :=
  (match scalB .neq (.int .u64 a) (.int .u64 0) with | some (.bool true) => true | _ => false) && (match scalB .sub (.int .u64 a) (.int .u64 1) with | some (.int .u64 z) => eqI z ((a - 1 : Nat) : Int) | _ => false) &&
  (match scalB .and (.int .u64 a) (.int .u64 ((a - 1 : Nat) : Int)) with | some (.int .u64 z) => eqI z ((Nat.land a (a - 1) : Nat) : Int) | _ => false)
theorem step_all : (List.range 511).all (fun i => stepOk (i + 1)) = true := by kernel_rfl
theorem step_word {a : Nat} (h0 : a ≠ 0) (h : a < 512) : scalB .neq (.int .u64 a) (.int .u64 0) = some (.bool true) ∧ scalB .sub (.int .u64 a) (.int .u64 1) = some (.int .u64 ((a - 1 : Nat) : Int)) ∧ scalB .and (.int .u64 a) (.int .u64 ((a - 1 : Nat) : Int)) = some (.int .u64 ((Nat.land a (a - 1) : Nat) : Int)) := by
  have := List.all_eq_true.1 step_all (a - 1) (List.mem_range.2 (by omega))
  rw [show a - 1 + 1 = a by omega] at this
  unfold stepOk at this
  simp only [Bool.and_eq_true] at this
  obtain ⟨⟨h1, h2⟩, h3⟩ := this
  refine ⟨?_, ?_, ?_⟩
  · split at h1
    · assumption
    · cases h1
  · split at h2
    · rename_i z hz
      rw [hz, eqI_to h2]
    · cases h2
  · split at h3
    · rename_i z hz
      rw [hz, eqI_to h3]
    · cases h3
def bitsOk (a : Nat) : Bool := (List.range (pop9 a)).all (fun j => Nat.blt 0 (wd a j)) && Nat.beq (wd a (pop9 a)) 0 && (Nat.beq a 0 || Nat.blt 0 (pop9 a))
theorem bits_all : (List.range 512).all bitsOk = true := by kernel_rfl
theorem bits_word {a : Nat} (h : a < 512) : (∀ j, j < pop9 a → wd a j ≠ 0) ∧ wd a (pop9 a) = 0 ∧ (a ≠ 0 → 1 ≤ pop9 a) := by
  have := List.all_eq_true.1 bits_all a (List.mem_range.2 h)
  unfold bitsOk at this
  simp only [Bool.and_eq_true, Bool.or_eq_true] at this
  obtain ⟨⟨h1, h2⟩, h3⟩ := this
  refine ⟨fun j hj => ?_, Nat.eq_of_beq_eq_true h2, fun h0 => ?_⟩
  · have : 0 < wd a j := Nat.le_of_ble_eq_true (List.all_eq_true.1 h1 j (List.mem_range.2 hj))
    omega
  · rcases h3 with h3 | h3
    · exact absurd (Nat.eq_of_beq_eq_true h3) h0
    · exact Nat.le_of_ble_eq_true h3
theorem r_add0 {n : Int} (h0 : 0 ≤ n) (h1 : n ≤ 15) : scalB .add (.int .i64 0) (.int .i64 n) = some (.int .i64 n) := by
  rcases sixteen h0 h1 with rfl | rfl | rfl | rfl | rfl | rfl | rfl | rfl | rfl | rfl | rfl | rfl | rfl | rfl | rfl | rfl <;> kernel_rfl
theorem tz9_le (a : Nat) : (0 : Int) ≤ tz9 a ∧ (tz9 a : Int) ≤ 15 := by
  have : tz9 a ≤ 15 := by
    unfold tz9
    cases h : (List.range 9).find? (fun i => a.testBit i) with
    | none => simp
    | some i =>
      have := List.mem_range.1 (List.mem_of_find?_eq_some h)
      simp only [Option.getD_some]
      omega
  omega
theorem words_hold {l : List Int} {a : Nat} (ha : a < 512) {R : List Rule} (hR : ∀ r ∈ R, r.Holds (valC (baseC l a))) : ∀ j, j ≤ pop9 a → ∀ r ∈ wordsR (pop9 a) j R, r.Holds (valC (baseC l a))
  | 0, _ => hR
  | j + 1, hj => by
    have h9 := pop9_le a
    obtain ⟨b1, b2, _⟩ := bits_word ha
    obtain ⟨s1, s2, s3⟩ := step_word (b1 j (by omega)) (wd_lt ha j)
    obtain ⟨t1, t2⟩ := tz9_le (wd a j)
    have vw := v_word (l := l) (a := a) (j := j) (by omega)
    have vl := v_less (l := l) (a := a) (j := j) (by omega)
    have vt := v_tz (l := l) (a := a) (j := j) (by omega)
    have vu := v_tzu (l := l) (a := a) (j := j) (by omega)
    refine List.forall_mem_cons.2 ⟨?_, List.forall_mem_cons.2 ⟨?_, List.forall_mem_cons.2 ⟨?_, List.forall_mem_cons.2 ⟨?_, List.forall_mem_cons.2 ⟨?_, words_hold ha hR j (by omega)⟩⟩⟩⟩⟩
    · show scalB .neq (con _ (wordV j)) (.int .u64 0) = some (.bool true)
      rw [vw]; exact s1
    · show scalB .sub (con _ (wordV j)) (.int .u64 1) = some (con _ (.float .f64 (Nat.add 130 j)))
      rw [vw, vl]; exact s2
    · show scalB .and (con _ (wordV j)) (con _ (.float .f64 (Nat.add 130 j))) = some (con _ (bsel (Nat.beq (Nat.succ j) (pop9 a)) (wordV (Nat.succ j)) (.int .u64 0)))
      rw [vw, vl, s3]
      cases hb : Nat.beq (Nat.succ j) (pop9 a) with
      | true =>
        have : Nat.succ j = pop9 a := Nat.eq_of_beq_eq_true hb
        rw [bsel_true]
        rw [← this] at b2
        have b2' : Nat.land (wd a j) (wd a j - 1) = 0 := b2
        rw [b2']
        rfl
      | false =>
        have hne : Nat.succ j ≠ pop9 a := fun e => by rw [e, Nat.beq_refl] at hb; cases hb
        rw [bsel_false, v_word (by omega)]
        rfl
    · show scalB .add (.int .i64 0) (con _ (.float .f64 (Nat.add 100 j))) = some (con _ (.float .f64 (Nat.add 100 j)))
      rw [vt]; exact r_add0 t1 t2
    · show ∃ q b, con _ (.float .f64 (Nat.add 100 j)) = .int q b ∧ con _ (.float .f64 (Nat.add 110 j)) = .int .u64 (IntKind.u64.wrap b)
      rw [vt, vu]; exact r_conv1 t1 t2
theorem said_hold {l : List Int} {a : Nat} (hs : small l) : ∀ n, n ≤ 10 → ∀ r ∈ saidR n, r.Holds (valC (baseC l a))
  | 0, _ => fun r hr => by cases hr
  | i + 1, hi => by
    obtain ⟨h0, h1⟩ := small_at hs i
    refine List.forall_mem_cons.2 ⟨?_, said_hold hs i (by omega)⟩
    show ∃ q b, con _ (.float .f64 i) = .int q b ∧ con _ (.float .f64 (Nat.add 10 i)) = .int .u64 (IntKind.u64.wrap b)
    rw [v_said (by omega), v_saidu (by omega)]
    exact r_conv1 h0 h1
theorem wordsC_hold {l : List Int} {a : Nat} (ha : a < 512) : ∀ j, j ≤ pop9 a → ∀ r ∈ wordsC j, CRule.Holds Tryz.prog (valC (baseC l a)) r
  | 0, _ => fun r hr => by cases hr
  | j + 1, hj => by
    have h9 := pop9_le a
    obtain ⟨b1, _, _⟩ := bits_word ha
    refine List.forall_mem_cons.2 ⟨?_, wordsC_hold ha j (by omega)⟩
    have h := zeros_rule (b1 j (by omega)) (wd_lt ha j) (valC (baseC l a)) (wordV j) (v_word (by omega))
    intro w hw hT
    obtain ⟨q1, q2⟩ := h w hw hT
    refine ⟨q1, fun cs => ?_⟩
    obtain ⟨w', hb, fr, r1, r2, r3⟩ := q2 cs
    refine ⟨w', hb, fr, r1, r2, ?_⟩
    show Frame.leaving Tryz.prog fr w' (.returned (con _ (.float .f64 (Nat.add 100 j))))
    rw [v_tz (by omega)]
    exact r3
theorem callsC_hold {l : List Int} {a : Nat} (ha : a < 512) : ∀ r ∈ (⟨87, [.float .f64 78], [], .int .i64 (pop9 a)⟩ :: ⟨87, [.int .u64 0], [], .int .i64 0⟩ :: wordsC (pop9 a) : List CRule), CRule.Holds Tryz.prog (valC (baseC l a)) r :=
  List.forall_mem_cons.2 ⟨ones_rule ha _ (.float .f64 78) (v_word (j := 0) (by omega)), List.forall_mem_cons.2 ⟨ones_rule (a := 0) (by omega) _ (.int .u64 0) rfl, wordsC_hold ha _ (Nat.le_refl _)⟩⟩
end Go.Proofs.YtnfmgkkhejminaaGreatDoor
