/-
  A part of the proof that the evaluator answers what the model answers, for every program that follows mixed orders; no other condition.
-/
import Derived.Test.YtnfmgkkhejminaaGreatDoorEvDefs
namespace Go.Ev
theorem ob_some {α β : Type} {x : Option α} {k : α → Option β} {r : β} (h : ob x k = some r) : ∃ a, x = some a ∧ k a = some r := by
  cases x with
  | none => cases h
  | some a => exact ⟨a, rfl, h⟩
theorem gd_some {β : Type} {b : Bool} {k : Option β} {r : β} (h : gd b k = some r) : b = true ∧ k = some r := by
  cases b with
  | false => cases h
  | true => exact ⟨rfl, h⟩
@[simp] theorem bsel_true {β : Type} (f t : β) : bsel true f t = t := rfl
@[simp] theorem bsel_false {β : Type} (f t : β) : bsel false f t = f := rfl

/-! the trie -/
theorem get_lf {α : Type} (k : Nat) : (T.lf : T α).get k = none := rfl
theorem get_nd0 {α : Type} (l r : T α) (v : Option α) : (T.nd l v r).get 0 = v := rfl
theorem get_ndS {α : Type} (l r : T α) (v : Option α) (k : Nat) : (T.nd l v r).get (k + 1) = if k % 2 = 0 then l.get (k / 2) else r.get (k / 2) := by
  show getK l.get r.get k = _
  unfold getK
  show Nat.rec (motive := fun _ => Option α) (l.get (k / 2)) (fun _ _ => r.get (k / 2)) (k % 2) = _
  rcases Nat.mod_two_eq_zero_or_one k with h | h <;> rw [h] <;> rfl
theorem putF_nd0 {α : Type} (x : Option α) (f : Nat) (l r : T α) (v : Option α) : T.putF x (f + 1) 0 (.nd l v r) = .nd l x r := rfl
theorem putF_lf0 {α : Type} (x : Option α) (f : Nat) : T.putF x (f + 1) 0 (.lf : T α) = .nd .lf x .lf := rfl
theorem putL_eq {α : Type} (ih : Nat → T α → T α) (l : T α) (v : Option α) (r : T α) (k : Nat) :
    putL ih l v r k = if k % 2 = 0 then .nd (ih (k / 2) l) v r else .nd l v (ih (k / 2) r) := by
  unfold putL
  show Nat.rec (motive := fun _ => T α) (T.nd (ih (k / 2) l) v r) (fun _ _ => T.nd l v (ih (k / 2) r)) (k % 2) = _
  rcases Nat.mod_two_eq_zero_or_one k with h | h <;> rw [h] <;> rfl
theorem putF_ndS {α : Type} (x : Option α) (f k : Nat) (l r : T α) (v : Option α) :
    T.putF x (f + 1) (k + 1) (.nd l v r) = if k % 2 = 0 then .nd (T.putF x f (k / 2) l) v r else .nd l v (T.putF x f (k / 2) r) := putL_eq _ _ _ _ _
theorem putF_lfS {α : Type} (x : Option α) (f k : Nat) :
    T.putF x (f + 1) (k + 1) (.lf : T α) = if k % 2 = 0 then .nd (T.putF x f (k / 2) .lf) none .lf else .nd .lf none (T.putF x f (k / 2) .lf) := putL_eq _ _ _ _ _

theorem get_putF {α : Type} (x : Option α) : ∀ (f k : Nat) (t : T α) (j : Nat), k < f → (T.putF x f k t).get j = if j = k then x else t.get j := by
  intro f
  induction f with
  | zero => intro k t j h; omega
  | succ f ih =>
    intro k t j hk
    cases k with
    | zero =>
      cases t with
      | lf => rw [putF_lf0]; cases j with
        | zero => simp [get_nd0]
        | succ j => rw [get_ndS]; simp [get_lf]
      | nd l v r => rw [putF_nd0]; cases j with
        | zero => simp [get_nd0]
        | succ j => rw [get_ndS, get_ndS]; simp
    | succ k =>
      have hk2 : k / 2 < f := by omega
      cases t with
      | lf =>
        rw [putF_lfS]
        split <;> rename_i hp <;> cases j with
        | zero => simp [get_nd0, get_lf]
        | succ j =>
          rw [get_ndS]
          simp only [ih _ _ _ hk2, get_lf]
          split <;> split <;> first | rfl | (split <;> first | rfl | (exfalso; omega)) | (simp; omega) | (exfalso; omega) | simp_all
      | nd l v r =>
        rw [putF_ndS]
        split <;> rename_i hp <;> cases j with
        | zero => simp [get_nd0]
        | succ j =>
          rw [get_ndS, get_ndS]
          simp only [ih _ _ _ hk2]
          split <;> split <;> first | rfl | (split <;> first | rfl | (exfalso; omega)) | (simp; omega) | (exfalso; omega) | simp_all
theorem get_put {α : Type} (x : Option α) (k : Nat) (t : T α) (j : Nat) : (t.put x k).get j = if j = k then x else t.get j :=
  get_putF x (Nat.succ k) k t j (Nat.lt_succ_self k)

theorem gp_step {D : Type} {gl : D → Nat → Option Blk} {pl : D → Option Blk → Nat → D} (c : Nat) (l r : D) (v : Option Blk) (b j : Nat) (hb : b < 2 * c) (hj : j < 2 * c)
    (h : ∀ (x : D) (v : Option Blk) (b j : Nat), b < c → j < c → gl (pl x v b) j = if j = b then v else gl x j) :
    (Bool.rec (motive := fun _ => Option Blk) (gl (Bool.rec (motive := fun _ => N2 D) (⟨pl l v b, r⟩ : N2 D) ⟨l, pl r v (Nat.sub b c)⟩ (Nat.ble c b)).l j)
      (gl (Bool.rec (motive := fun _ => N2 D) (⟨pl l v b, r⟩ : N2 D) ⟨l, pl r v (Nat.sub b c)⟩ (Nat.ble c b)).r (Nat.sub j c)) (Nat.ble c j) : Option Blk) =
    if j = b then v else Bool.rec (motive := fun _ => Option Blk) (gl l j) (gl r (Nat.sub j c)) (Nat.ble c j) := by
  by_cases h1 : c ≤ b
  · rw [Nat.ble_eq_true_of_le h1]
    by_cases h2 : c ≤ j
    · rw [Nat.ble_eq_true_of_le h2]
      show gl (pl r v (b - c)) (j - c) = if j = b then v else gl r (j - c)
      rw [h r v (b - c) (j - c) (by omega) (by omega)]
      by_cases e : j = b
      · rw [if_pos e, if_pos (by omega)]
      · rw [if_neg e, if_neg (by omega)]
    · have e2 : Nat.ble c j = false := by
        cases e : Nat.ble c j with
        | false => rfl
        | true => exact absurd (Nat.le_of_ble_eq_true e) h2
      rw [e2, if_neg (by omega)]
  · have e1 : Nat.ble c b = false := by
      cases e : Nat.ble c b with
      | false => rfl
      | true => exact absurd (Nat.le_of_ble_eq_true e) h1
    rw [e1]
    by_cases h2 : c ≤ j
    · rw [Nat.ble_eq_true_of_le h2, if_neg (by omega)]
    · have e2 : Nat.ble c j = false := by
        cases e : Nat.ble c j with
        | false => rfl
        | true => exact absurd (Nat.le_of_ble_eq_true e) h2
      rw [e2]
      exact h l v b j (by omega) (by omega)
/-! the memory -/
theorem gz0 (b : Nat) : g0 z0 b = none := rfl
theorem gz1 (b : Nat) : g1 z1 b = none := by
  unfold g1
  cases Nat.ble 1 b
  · exact gz0 b
  · exact gz0 _
theorem gz2 (b : Nat) : g2 z2 b = none := by
  unfold g2
  cases Nat.ble 2 b
  · exact gz1 b
  · exact gz1 _
theorem gz3 (b : Nat) : g3 z3 b = none := by
  unfold g3
  cases Nat.ble 4 b
  · exact gz2 b
  · exact gz2 _
theorem gz4 (b : Nat) : g4 z4 b = none := by
  unfold g4
  cases Nat.ble 8 b
  · exact gz3 b
  · exact gz3 _
theorem gz5 (b : Nat) : g5 z5 b = none := by
  unfold g5
  cases Nat.ble 16 b
  · exact gz4 b
  · exact gz4 _
theorem gz6 (b : Nat) : g6 z6 b = none := by
  unfold g6
  cases Nat.ble 32 b
  · exact gz5 b
  · exact gz5 _
theorem gz7 (b : Nat) : g7 z7 b = none := by
  unfold g7
  cases Nat.ble 64 b
  · exact gz6 b
  · exact gz6 _
theorem gz8 (b : Nat) : g8 z8 b = none := by
  unfold g8
  cases Nat.ble 128 b
  · exact gz7 b
  · exact gz7 _
theorem gz9 (b : Nat) : g9 z9 b = none := by
  unfold g9
  cases Nat.ble 256 b
  · exact gz8 b
  · exact gz8 _
theorem gz10 (b : Nat) : g10 z10 b = none := by
  unfold g10
  cases Nat.ble 512 b
  · exact gz9 b
  · exact gz9 _
theorem gz11 (b : Nat) : g11 z11 b = none := by
  unfold g11
  cases Nat.ble 1024 b
  · exact gz10 b
  · exact gz10 _
theorem gz12 (b : Nat) : g12 z12 b = none := by
  unfold g12
  cases Nat.ble 2048 b
  · exact gz11 b
  · exact gz11 _
theorem gz13 (b : Nat) : g13 z13 b = none := by
  unfold g13
  cases Nat.ble 4096 b
  · exact gz12 b
  · exact gz12 _
theorem gz14 (b : Nat) : g14 z14 b = none := by
  unfold g14
  cases Nat.ble 8192 b
  · exact gz13 b
  · exact gz13 _
theorem gz15 (b : Nat) : g15 z15 b = none := by
  unfold g15
  cases Nat.ble 16384 b
  · exact gz14 b
  · exact gz14 _
theorem gz16 (b : Nat) : g16 z16 b = none := by
  unfold g16
  cases Nat.ble 32768 b
  · exact gz15 b
  · exact gz15 _
theorem gz17 (b : Nat) : g17 z17 b = none := by
  unfold g17
  cases Nat.ble 65536 b
  · exact gz16 b
  · exact gz16 _
theorem gp0 (x : D0) (v : Option Blk) (b j : Nat) (hb : b < 1) (hj : j < 1) : g0 (p0 x v b) j = if j = b then v else g0 x j := by
  rw [if_pos (by omega)]; rfl
theorem gp1 (x : D1) (v : Option Blk) (b j : Nat) (hb : b < 2) (hj : j < 2) : g1 (p1 x v b) j = if j = b then v else g1 x j := by
  obtain ⟨l, r⟩ := x
  have e : p1 ⟨l, r⟩ v b = Bool.rec (motive := fun _ => N2 D0) (⟨p0 l v b, r⟩ : N2 D0) ⟨l, p0 r v (Nat.sub b 1)⟩ (Nat.ble 1 b) := by
    unfold p1
    cases Nat.ble 1 b <;> rfl
  rw [e]
  exact gp_step (gl := g0) (pl := p0) 1 l r v b j hb hj (fun x v b j => gp0 x v b j)
theorem gp2 (x : D2) (v : Option Blk) (b j : Nat) (hb : b < 4) (hj : j < 4) : g2 (p2 x v b) j = if j = b then v else g2 x j := by
  obtain ⟨l, r⟩ := x
  have e : p2 ⟨l, r⟩ v b = Bool.rec (motive := fun _ => N2 D1) (⟨p1 l v b, r⟩ : N2 D1) ⟨l, p1 r v (Nat.sub b 2)⟩ (Nat.ble 2 b) := by
    unfold p2
    cases Nat.ble 2 b <;> rfl
  rw [e]
  exact gp_step (gl := g1) (pl := p1) 2 l r v b j hb hj (fun x v b j => gp1 x v b j)
theorem gp3 (x : D3) (v : Option Blk) (b j : Nat) (hb : b < 8) (hj : j < 8) : g3 (p3 x v b) j = if j = b then v else g3 x j := by
  obtain ⟨l, r⟩ := x
  have e : p3 ⟨l, r⟩ v b = Bool.rec (motive := fun _ => N2 D2) (⟨p2 l v b, r⟩ : N2 D2) ⟨l, p2 r v (Nat.sub b 4)⟩ (Nat.ble 4 b) := by
    unfold p3
    cases Nat.ble 4 b <;> rfl
  rw [e]
  exact gp_step (gl := g2) (pl := p2) 4 l r v b j hb hj (fun x v b j => gp2 x v b j)
theorem gp4 (x : D4) (v : Option Blk) (b j : Nat) (hb : b < 16) (hj : j < 16) : g4 (p4 x v b) j = if j = b then v else g4 x j := by
  obtain ⟨l, r⟩ := x
  have e : p4 ⟨l, r⟩ v b = Bool.rec (motive := fun _ => N2 D3) (⟨p3 l v b, r⟩ : N2 D3) ⟨l, p3 r v (Nat.sub b 8)⟩ (Nat.ble 8 b) := by
    unfold p4
    cases Nat.ble 8 b <;> rfl
  rw [e]
  exact gp_step (gl := g3) (pl := p3) 8 l r v b j hb hj (fun x v b j => gp3 x v b j)
theorem gp5 (x : D5) (v : Option Blk) (b j : Nat) (hb : b < 32) (hj : j < 32) : g5 (p5 x v b) j = if j = b then v else g5 x j := by
  obtain ⟨l, r⟩ := x
  have e : p5 ⟨l, r⟩ v b = Bool.rec (motive := fun _ => N2 D4) (⟨p4 l v b, r⟩ : N2 D4) ⟨l, p4 r v (Nat.sub b 16)⟩ (Nat.ble 16 b) := by
    unfold p5
    cases Nat.ble 16 b <;> rfl
  rw [e]
  exact gp_step (gl := g4) (pl := p4) 16 l r v b j hb hj (fun x v b j => gp4 x v b j)
theorem gp6 (x : D6) (v : Option Blk) (b j : Nat) (hb : b < 64) (hj : j < 64) : g6 (p6 x v b) j = if j = b then v else g6 x j := by
  obtain ⟨l, r⟩ := x
  have e : p6 ⟨l, r⟩ v b = Bool.rec (motive := fun _ => N2 D5) (⟨p5 l v b, r⟩ : N2 D5) ⟨l, p5 r v (Nat.sub b 32)⟩ (Nat.ble 32 b) := by
    unfold p6
    cases Nat.ble 32 b <;> rfl
  rw [e]
  exact gp_step (gl := g5) (pl := p5) 32 l r v b j hb hj (fun x v b j => gp5 x v b j)
theorem gp7 (x : D7) (v : Option Blk) (b j : Nat) (hb : b < 128) (hj : j < 128) : g7 (p7 x v b) j = if j = b then v else g7 x j := by
  obtain ⟨l, r⟩ := x
  have e : p7 ⟨l, r⟩ v b = Bool.rec (motive := fun _ => N2 D6) (⟨p6 l v b, r⟩ : N2 D6) ⟨l, p6 r v (Nat.sub b 64)⟩ (Nat.ble 64 b) := by
    unfold p7
    cases Nat.ble 64 b <;> rfl
  rw [e]
  exact gp_step (gl := g6) (pl := p6) 64 l r v b j hb hj (fun x v b j => gp6 x v b j)
theorem gp8 (x : D8) (v : Option Blk) (b j : Nat) (hb : b < 256) (hj : j < 256) : g8 (p8 x v b) j = if j = b then v else g8 x j := by
  obtain ⟨l, r⟩ := x
  have e : p8 ⟨l, r⟩ v b = Bool.rec (motive := fun _ => N2 D7) (⟨p7 l v b, r⟩ : N2 D7) ⟨l, p7 r v (Nat.sub b 128)⟩ (Nat.ble 128 b) := by
    unfold p8
    cases Nat.ble 128 b <;> rfl
  rw [e]
  exact gp_step (gl := g7) (pl := p7) 128 l r v b j hb hj (fun x v b j => gp7 x v b j)
theorem gp9 (x : D9) (v : Option Blk) (b j : Nat) (hb : b < 512) (hj : j < 512) : g9 (p9 x v b) j = if j = b then v else g9 x j := by
  obtain ⟨l, r⟩ := x
  have e : p9 ⟨l, r⟩ v b = Bool.rec (motive := fun _ => N2 D8) (⟨p8 l v b, r⟩ : N2 D8) ⟨l, p8 r v (Nat.sub b 256)⟩ (Nat.ble 256 b) := by
    unfold p9
    cases Nat.ble 256 b <;> rfl
  rw [e]
  exact gp_step (gl := g8) (pl := p8) 256 l r v b j hb hj (fun x v b j => gp8 x v b j)
theorem gp10 (x : D10) (v : Option Blk) (b j : Nat) (hb : b < 1024) (hj : j < 1024) : g10 (p10 x v b) j = if j = b then v else g10 x j := by
  obtain ⟨l, r⟩ := x
  have e : p10 ⟨l, r⟩ v b = Bool.rec (motive := fun _ => N2 D9) (⟨p9 l v b, r⟩ : N2 D9) ⟨l, p9 r v (Nat.sub b 512)⟩ (Nat.ble 512 b) := by
    unfold p10
    cases Nat.ble 512 b <;> rfl
  rw [e]
  exact gp_step (gl := g9) (pl := p9) 512 l r v b j hb hj (fun x v b j => gp9 x v b j)
theorem gp11 (x : D11) (v : Option Blk) (b j : Nat) (hb : b < 2048) (hj : j < 2048) : g11 (p11 x v b) j = if j = b then v else g11 x j := by
  obtain ⟨l, r⟩ := x
  have e : p11 ⟨l, r⟩ v b = Bool.rec (motive := fun _ => N2 D10) (⟨p10 l v b, r⟩ : N2 D10) ⟨l, p10 r v (Nat.sub b 1024)⟩ (Nat.ble 1024 b) := by
    unfold p11
    cases Nat.ble 1024 b <;> rfl
  rw [e]
  exact gp_step (gl := g10) (pl := p10) 1024 l r v b j hb hj (fun x v b j => gp10 x v b j)
theorem gp12 (x : D12) (v : Option Blk) (b j : Nat) (hb : b < 4096) (hj : j < 4096) : g12 (p12 x v b) j = if j = b then v else g12 x j := by
  obtain ⟨l, r⟩ := x
  have e : p12 ⟨l, r⟩ v b = Bool.rec (motive := fun _ => N2 D11) (⟨p11 l v b, r⟩ : N2 D11) ⟨l, p11 r v (Nat.sub b 2048)⟩ (Nat.ble 2048 b) := by
    unfold p12
    cases Nat.ble 2048 b <;> rfl
  rw [e]
  exact gp_step (gl := g11) (pl := p11) 2048 l r v b j hb hj (fun x v b j => gp11 x v b j)
theorem gp13 (x : D13) (v : Option Blk) (b j : Nat) (hb : b < 8192) (hj : j < 8192) : g13 (p13 x v b) j = if j = b then v else g13 x j := by
  obtain ⟨l, r⟩ := x
  have e : p13 ⟨l, r⟩ v b = Bool.rec (motive := fun _ => N2 D12) (⟨p12 l v b, r⟩ : N2 D12) ⟨l, p12 r v (Nat.sub b 4096)⟩ (Nat.ble 4096 b) := by
    unfold p13
    cases Nat.ble 4096 b <;> rfl
  rw [e]
  exact gp_step (gl := g12) (pl := p12) 4096 l r v b j hb hj (fun x v b j => gp12 x v b j)
theorem gp14 (x : D14) (v : Option Blk) (b j : Nat) (hb : b < 16384) (hj : j < 16384) : g14 (p14 x v b) j = if j = b then v else g14 x j := by
  obtain ⟨l, r⟩ := x
  have e : p14 ⟨l, r⟩ v b = Bool.rec (motive := fun _ => N2 D13) (⟨p13 l v b, r⟩ : N2 D13) ⟨l, p13 r v (Nat.sub b 8192)⟩ (Nat.ble 8192 b) := by
    unfold p14
    cases Nat.ble 8192 b <;> rfl
  rw [e]
  exact gp_step (gl := g13) (pl := p13) 8192 l r v b j hb hj (fun x v b j => gp13 x v b j)
theorem gp15 (x : D15) (v : Option Blk) (b j : Nat) (hb : b < 32768) (hj : j < 32768) : g15 (p15 x v b) j = if j = b then v else g15 x j := by
  obtain ⟨l, r⟩ := x
  have e : p15 ⟨l, r⟩ v b = Bool.rec (motive := fun _ => N2 D14) (⟨p14 l v b, r⟩ : N2 D14) ⟨l, p14 r v (Nat.sub b 16384)⟩ (Nat.ble 16384 b) := by
    unfold p15
    cases Nat.ble 16384 b <;> rfl
  rw [e]
  exact gp_step (gl := g14) (pl := p14) 16384 l r v b j hb hj (fun x v b j => gp14 x v b j)
theorem gp16 (x : D16) (v : Option Blk) (b j : Nat) (hb : b < 65536) (hj : j < 65536) : g16 (p16 x v b) j = if j = b then v else g16 x j := by
  obtain ⟨l, r⟩ := x
  have e : p16 ⟨l, r⟩ v b = Bool.rec (motive := fun _ => N2 D15) (⟨p15 l v b, r⟩ : N2 D15) ⟨l, p15 r v (Nat.sub b 32768)⟩ (Nat.ble 32768 b) := by
    unfold p16
    cases Nat.ble 32768 b <;> rfl
  rw [e]
  exact gp_step (gl := g15) (pl := p15) 32768 l r v b j hb hj (fun x v b j => gp15 x v b j)
theorem gp17 (x : D17) (v : Option Blk) (b j : Nat) (hb : b < 131072) (hj : j < 131072) : g17 (p17 x v b) j = if j = b then v else g17 x j := by
  obtain ⟨l, r⟩ := x
  have e : p17 ⟨l, r⟩ v b = Bool.rec (motive := fun _ => N2 D16) (⟨p16 l v b, r⟩ : N2 D16) ⟨l, p16 r v (Nat.sub b 65536)⟩ (Nat.ble 65536 b) := by
    unfold p17
    cases Nat.ble 65536 b <;> rfl
  rw [e]
  exact gp_step (gl := g16) (pl := p16) 65536 l r v b j hb hj (fun x v b j => gp16 x v b j)

theorem get_memlf (b : Nat) : Mem.lf.get b = none := by
  show Bool.rec (motive := fun _ => Option Blk) (g17 z17 b) none (Nat.ble 131072 b) = none
  cases Nat.ble 131072 b
  · exact gz17 b
  · rfl
theorem get_memput (v : Option Blk) (b : Nat) (m : Mem) (j : Nat) : (m.put v b).get j = if j = b then v else m.get j := by
  obtain ⟨t, u⟩ := m
  show Mem.get (Bool.rec (motive := fun _ => Mem) (Mem.mk (p17 t v b) u) (Mem.mk t (u.put v b)) (Nat.ble 131072 b)) j = if j = b then v else Bool.rec (motive := fun _ => Option Blk) (g17 t j) (u.get j) (Nat.ble 131072 j)
  by_cases h1 : 131072 ≤ b
  · rw [Nat.ble_eq_true_of_le h1]
    show Bool.rec (motive := fun _ => Option Blk) (g17 t j) ((u.put v b).get j) (Nat.ble 131072 j) = _
    by_cases h2 : 131072 ≤ j
    · rw [Nat.ble_eq_true_of_le h2]
      exact get_put v b u j
    · have e2 : Nat.ble 131072 j = false := by
        cases e : Nat.ble 131072 j with
        | false => rfl
        | true => exact absurd (Nat.le_of_ble_eq_true e) h2
      rw [e2, if_neg (by omega)]
  · have e1 : Nat.ble 131072 b = false := by
      cases e : Nat.ble 131072 b with
      | false => rfl
      | true => exact absurd (Nat.le_of_ble_eq_true e) h1
    rw [e1]
    show Bool.rec (motive := fun _ => Option Blk) (g17 (p17 t v b) j) (u.get j) (Nat.ble 131072 j) = _
    by_cases h2 : 131072 ≤ j
    · rw [Nat.ble_eq_true_of_le h2, if_neg (by omega)]
    · have e2 : Nat.ble 131072 j = false := by
        cases e : Nat.ble 131072 j with
        | false => rfl
        | true => exact absurd (Nat.le_of_ble_eq_true e) h2
      rw [e2]
      exact gp17 t v b j (by omega) (by omega)
end Go.Ev
