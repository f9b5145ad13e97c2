/-
  A part of the proof that the evaluator answers what the model answers, for every program that follows mixed orders; no other condition.
-/
import Derived.Test.YtnfmgkkhejminaaGreatDoorStEvDefs
import Derived.Laws.Cells
import Derived.Laws.StructEq
namespace Go.Ev
theorem ob_some {α β : Type} {x : Option α} {k : α → Option β} {r : β} (h : ob x k = some r) : ∃ a, x = some a ∧ k a = some r := by
  cases x with
  | none => cases h
  | some a => exact ⟨a, rfl, h⟩
theorem gd_some {β : Type} {b : Bool} {k : Option β} {r : β} (h : gd b k = some r) : b = true ∧ k = some r := by
  cases b with
  | false => cases h
  | true => exact ⟨rfl, h⟩
@[simp] theorem bsel_true {β : Type} (f t : β) : bsel true f t = t := rfl
@[simp] theorem bsel_false {β : Type} (f t : β) : bsel false f t = f := rfl

/-! the trie -/
theorem get_lf {α : Type} (k : Nat) : (T.lf : T α).get k = none := rfl
theorem get_nd0 {α : Type} (l r : T α) (v : Option α) : (T.nd l v r).get 0 = v := rfl
theorem get_ndS {α : Type} (l r : T α) (v : Option α) (k : Nat) : (T.nd l v r).get (k + 1) = if k % 2 = 0 then l.get (k / 2) else r.get (k / 2) := by
  show getK l.get r.get k = _
  unfold getK
  show Nat.rec (motive := fun _ => Option α) (l.get (k / 2)) (fun _ _ => r.get (k / 2)) (k % 2) = _
  rcases Nat.mod_two_eq_zero_or_one k with h | h <;> rw [h] <;> rfl
theorem putF_nd0 {α : Type} (x : Option α) (f : Nat) (l r : T α) (v : Option α) : T.putF x (f + 1) 0 (.nd l v r) = .nd l x r := rfl
theorem putF_lf0 {α : Type} (x : Option α) (f : Nat) : T.putF x (f + 1) 0 (.lf : T α) = .nd .lf x .lf := rfl
theorem putL_eq {α : Type} (ih : Nat → T α → T α) (l : T α) (v : Option α) (r : T α) (k : Nat) :
    putL ih l v r k = if k % 2 = 0 then .nd (ih (k / 2) l) v r else .nd l v (ih (k / 2) r) := by
  unfold putL
  show Nat.rec (motive := fun _ => T α) (T.nd (ih (k / 2) l) v r) (fun _ _ => T.nd l v (ih (k / 2) r)) (k % 2) = _
  rcases Nat.mod_two_eq_zero_or_one k with h | h <;> rw [h] <;> rfl
theorem putF_ndS {α : Type} (x : Option α) (f k : Nat) (l r : T α) (v : Option α) :
    T.putF x (f + 1) (k + 1) (.nd l v r) = if k % 2 = 0 then .nd (T.putF x f (k / 2) l) v r else .nd l v (T.putF x f (k / 2) r) := putL_eq _ _ _ _ _
theorem putF_lfS {α : Type} (x : Option α) (f k : Nat) :
    T.putF x (f + 1) (k + 1) (.lf : T α) = if k % 2 = 0 then .nd (T.putF x f (k / 2) .lf) none .lf else .nd .lf none (T.putF x f (k / 2) .lf) := putL_eq _ _ _ _ _

theorem get_putF {α : Type} (x : Option α) : ∀ (f k : Nat) (t : T α) (j : Nat), k < f → (T.putF x f k t).get j = if j = k then x else t.get j := by
  intro f
  induction f with
  | zero => intro k t j h; omega
  | succ f ih =>
    intro k t j hk
    cases k with
    | zero =>
      cases t with
      | lf => rw [putF_lf0]; cases j with
        | zero => simp [get_nd0]
        | succ j => rw [get_ndS]; simp [get_lf]
      | nd l v r => rw [putF_nd0]; cases j with
        | zero => simp [get_nd0]
        | succ j => rw [get_ndS, get_ndS]; simp
    | succ k =>
      have hk2 : k / 2 < f := by omega
      cases t with
      | lf =>
        rw [putF_lfS]
        split <;> rename_i hp <;> cases j with
        | zero => simp [get_nd0, get_lf]
        | succ j =>
          rw [get_ndS]
          simp only [ih _ _ _ hk2, get_lf]
          split <;> split <;> first | rfl | (split <;> first | rfl | (exfalso; omega)) | (simp; omega) | (exfalso; omega) | simp_all
      | nd l v r =>
        rw [putF_ndS]
        split <;> rename_i hp <;> cases j with
        | zero => simp [get_nd0]
        | succ j =>
          rw [get_ndS, get_ndS]
          simp only [ih _ _ _ hk2]
          split <;> split <;> first | rfl | (split <;> first | rfl | (exfalso; omega)) | (simp; omega) | (exfalso; omega) | simp_all
theorem get_put {α : Type} (x : Option α) (k : Nat) (t : T α) (j : Nat) : (t.put x k).get j = if j = k then x else t.get j :=
  get_putF x (Nat.succ k) k t j (Nat.lt_succ_self k)

theorem gp_step {D : Type} {gl : D → Nat → Option Blk} {pl : D → Option Blk → Nat → D} (c : Nat) (l r : D) (v : Option Blk) (b j : Nat) (hb : b < 2 * c) (hj : j < 2 * c)
    (h : ∀ (x : D) (v : Option Blk) (b j : Nat), b < c → j < c → gl (pl x v b) j = if j = b then v else gl x j) :
    (Bool.rec (motive := fun _ => Option Blk) (gl (Bool.rec (motive := fun _ => N2 D) (⟨pl l v b, r⟩ : N2 D) ⟨l, pl r v (Nat.sub b c)⟩ (Nat.ble c b)).l j)
      (gl (Bool.rec (motive := fun _ => N2 D) (⟨pl l v b, r⟩ : N2 D) ⟨l, pl r v (Nat.sub b c)⟩ (Nat.ble c b)).r (Nat.sub j c)) (Nat.ble c j) : Option Blk) =
    if j = b then v else Bool.rec (motive := fun _ => Option Blk) (gl l j) (gl r (Nat.sub j c)) (Nat.ble c j) := by
  by_cases h1 : c ≤ b
  · rw [Nat.ble_eq_true_of_le h1]
    by_cases h2 : c ≤ j
    · rw [Nat.ble_eq_true_of_le h2]
      show gl (pl r v (b - c)) (j - c) = if j = b then v else gl r (j - c)
      rw [h r v (b - c) (j - c) (by omega) (by omega)]
      by_cases e : j = b
      · rw [if_pos e, if_pos (by omega)]
      · rw [if_neg e, if_neg (by omega)]
    · have e2 : Nat.ble c j = false := by
        cases e : Nat.ble c j with
        | false => rfl
        | true => exact absurd (Nat.le_of_ble_eq_true e) h2
      rw [e2, if_neg (by omega)]
  · have e1 : Nat.ble c b = false := by
      cases e : Nat.ble c b with
      | false => rfl
      | true => exact absurd (Nat.le_of_ble_eq_true e) h1
    rw [e1]
    by_cases h2 : c ≤ j
    · rw [Nat.ble_eq_true_of_le h2, if_neg (by omega)]
    · have e2 : Nat.ble c j = false := by
        cases e : Nat.ble c j with
        | false => rfl
        | true => exact absurd (Nat.le_of_ble_eq_true e) h2
      rw [e2]
      exact h l v b j (by omega) (by omega)
/-! the memory -/
theorem gz0 (b : Nat) : g0 z0 b = none := rfl
theorem gz1 (b : Nat) : g1 z1 b = none := by
  unfold g1
  cases Nat.ble 1 b
  · exact gz0 b
  · exact gz0 _
theorem gz2 (b : Nat) : g2 z2 b = none := by
  unfold g2
  cases Nat.ble 2 b
  · exact gz1 b
  · exact gz1 _
theorem gz3 (b : Nat) : g3 z3 b = none := by
  unfold g3
  cases Nat.ble 4 b
  · exact gz2 b
  · exact gz2 _
theorem gz4 (b : Nat) : g4 z4 b = none := by
  unfold g4
  cases Nat.ble 8 b
  · exact gz3 b
  · exact gz3 _
theorem gz5 (b : Nat) : g5 z5 b = none := by
  unfold g5
  cases Nat.ble 16 b
  · exact gz4 b
  · exact gz4 _
theorem gz6 (b : Nat) : g6 z6 b = none := by
  unfold g6
  cases Nat.ble 32 b
  · exact gz5 b
  · exact gz5 _
theorem gz7 (b : Nat) : g7 z7 b = none := by
  unfold g7
  cases Nat.ble 64 b
  · exact gz6 b
  · exact gz6 _
theorem gz8 (b : Nat) : g8 z8 b = none := by
  unfold g8
  cases Nat.ble 128 b
  · exact gz7 b
  · exact gz7 _
theorem gz9 (b : Nat) : g9 z9 b = none := by
  unfold g9
  cases Nat.ble 256 b
  · exact gz8 b
  · exact gz8 _
theorem gz10 (b : Nat) : g10 z10 b = none := by
  unfold g10
  cases Nat.ble 512 b
  · exact gz9 b
  · exact gz9 _
theorem gz11 (b : Nat) : g11 z11 b = none := by
  unfold g11
  cases Nat.ble 1024 b
  · exact gz10 b
  · exact gz10 _
theorem gz12 (b : Nat) : g12 z12 b = none := by
  unfold g12
  cases Nat.ble 2048 b
  · exact gz11 b
  · exact gz11 _
theorem gz13 (b : Nat) : g13 z13 b = none := by
  unfold g13
  cases Nat.ble 4096 b
  · exact gz12 b
  · exact gz12 _
theorem gz14 (b : Nat) : g14 z14 b = none := by
  unfold g14
  cases Nat.ble 8192 b
  · exact gz13 b
  · exact gz13 _
theorem gz15 (b : Nat) : g15 z15 b = none := by
  unfold g15
  cases Nat.ble 16384 b
  · exact gz14 b
  · exact gz14 _
theorem gz16 (b : Nat) : g16 z16 b = none := by
  unfold g16
  cases Nat.ble 32768 b
  · exact gz15 b
  · exact gz15 _
theorem gz17 (b : Nat) : g17 z17 b = none := by
  unfold g17
  cases Nat.ble 65536 b
  · exact gz16 b
  · exact gz16 _
theorem gp0 (x : D0) (v : Option Blk) (b j : Nat) (hb : b < 1) (hj : j < 1) : g0 (p0 x v b) j = if j = b then v else g0 x j := by
  rw [if_pos (by omega)]; rfl
theorem gp1 (x : D1) (v : Option Blk) (b j : Nat) (hb : b < 2) (hj : j < 2) : g1 (p1 x v b) j = if j = b then v else g1 x j := by
  obtain ⟨l, r⟩ := x
  have e : p1 ⟨l, r⟩ v b = Bool.rec (motive := fun _ => N2 D0) (⟨p0 l v b, r⟩ : N2 D0) ⟨l, p0 r v (Nat.sub b 1)⟩ (Nat.ble 1 b) := by
    unfold p1
    cases Nat.ble 1 b <;> rfl
  rw [e]
  exact gp_step (gl := g0) (pl := p0) 1 l r v b j hb hj (fun x v b j => gp0 x v b j)
theorem gp2 (x : D2) (v : Option Blk) (b j : Nat) (hb : b < 4) (hj : j < 4) : g2 (p2 x v b) j = if j = b then v else g2 x j := by
  obtain ⟨l, r⟩ := x
  have e : p2 ⟨l, r⟩ v b = Bool.rec (motive := fun _ => N2 D1) (⟨p1 l v b, r⟩ : N2 D1) ⟨l, p1 r v (Nat.sub b 2)⟩ (Nat.ble 2 b) := by
    unfold p2
    cases Nat.ble 2 b <;> rfl
  rw [e]
  exact gp_step (gl := g1) (pl := p1) 2 l r v b j hb hj (fun x v b j => gp1 x v b j)
theorem gp3 (x : D3) (v : Option Blk) (b j : Nat) (hb : b < 8) (hj : j < 8) : g3 (p3 x v b) j = if j = b then v else g3 x j := by
  obtain ⟨l, r⟩ := x
  have e : p3 ⟨l, r⟩ v b = Bool.rec (motive := fun _ => N2 D2) (⟨p2 l v b, r⟩ : N2 D2) ⟨l, p2 r v (Nat.sub b 4)⟩ (Nat.ble 4 b) := by
    unfold p3
    cases Nat.ble 4 b <;> rfl
  rw [e]
  exact gp_step (gl := g2) (pl := p2) 4 l r v b j hb hj (fun x v b j => gp2 x v b j)
theorem gp4 (x : D4) (v : Option Blk) (b j : Nat) (hb : b < 16) (hj : j < 16) : g4 (p4 x v b) j = if j = b then v else g4 x j := by
  obtain ⟨l, r⟩ := x
  have e : p4 ⟨l, r⟩ v b = Bool.rec (motive := fun _ => N2 D3) (⟨p3 l v b, r⟩ : N2 D3) ⟨l, p3 r v (Nat.sub b 8)⟩ (Nat.ble 8 b) := by
    unfold p4
    cases Nat.ble 8 b <;> rfl
  rw [e]
  exact gp_step (gl := g3) (pl := p3) 8 l r v b j hb hj (fun x v b j => gp3 x v b j)
theorem gp5 (x : D5) (v : Option Blk) (b j : Nat) (hb : b < 32) (hj : j < 32) : g5 (p5 x v b) j = if j = b then v else g5 x j := by
  obtain ⟨l, r⟩ := x
  have e : p5 ⟨l, r⟩ v b = Bool.rec (motive := fun _ => N2 D4) (⟨p4 l v b, r⟩ : N2 D4) ⟨l, p4 r v (Nat.sub b 16)⟩ (Nat.ble 16 b) := by
    unfold p5
    cases Nat.ble 16 b <;> rfl
  rw [e]
  exact gp_step (gl := g4) (pl := p4) 16 l r v b j hb hj (fun x v b j => gp4 x v b j)
theorem gp6 (x : D6) (v : Option Blk) (b j : Nat) (hb : b < 64) (hj : j < 64) : g6 (p6 x v b) j = if j = b then v else g6 x j := by
  obtain ⟨l, r⟩ := x
  have e : p6 ⟨l, r⟩ v b = Bool.rec (motive := fun _ => N2 D5) (⟨p5 l v b, r⟩ : N2 D5) ⟨l, p5 r v (Nat.sub b 32)⟩ (Nat.ble 32 b) := by
    unfold p6
    cases Nat.ble 32 b <;> rfl
  rw [e]
  exact gp_step (gl := g5) (pl := p5) 32 l r v b j hb hj (fun x v b j => gp5 x v b j)
theorem gp7 (x : D7) (v : Option Blk) (b j : Nat) (hb : b < 128) (hj : j < 128) : g7 (p7 x v b) j = if j = b then v else g7 x j := by
  obtain ⟨l, r⟩ := x
  have e : p7 ⟨l, r⟩ v b = Bool.rec (motive := fun _ => N2 D6) (⟨p6 l v b, r⟩ : N2 D6) ⟨l, p6 r v (Nat.sub b 64)⟩ (Nat.ble 64 b) := by
    unfold p7
    cases Nat.ble 64 b <;> rfl
  rw [e]
  exact gp_step (gl := g6) (pl := p6) 64 l r v b j hb hj (fun x v b j => gp6 x v b j)
theorem gp8 (x : D8) (v : Option Blk) (b j : Nat) (hb : b < 256) (hj : j < 256) : g8 (p8 x v b) j = if j = b then v else g8 x j := by
  obtain ⟨l, r⟩ := x
  have e : p8 ⟨l, r⟩ v b = Bool.rec (motive := fun _ => N2 D7) (⟨p7 l v b, r⟩ : N2 D7) ⟨l, p7 r v (Nat.sub b 128)⟩ (Nat.ble 128 b) := by
    unfold p8
    cases Nat.ble 128 b <;> rfl
  rw [e]
  exact gp_step (gl := g7) (pl := p7) 128 l r v b j hb hj (fun x v b j => gp7 x v b j)
theorem gp9 (x : D9) (v : Option Blk) (b j : Nat) (hb : b < 512) (hj : j < 512) : g9 (p9 x v b) j = if j = b then v else g9 x j := by
  obtain ⟨l, r⟩ := x
  have e : p9 ⟨l, r⟩ v b = Bool.rec (motive := fun _ => N2 D8) (⟨p8 l v b, r⟩ : N2 D8) ⟨l, p8 r v (Nat.sub b 256)⟩ (Nat.ble 256 b) := by
    unfold p9
    cases Nat.ble 256 b <;> rfl
  rw [e]
  exact gp_step (gl := g8) (pl := p8) 256 l r v b j hb hj (fun x v b j => gp8 x v b j)
theorem gp10 (x : D10) (v : Option Blk) (b j : Nat) (hb : b < 1024) (hj : j < 1024) : g10 (p10 x v b) j = if j = b then v else g10 x j := by
  obtain ⟨l, r⟩ := x
  have e : p10 ⟨l, r⟩ v b = Bool.rec (motive := fun _ => N2 D9) (⟨p9 l v b, r⟩ : N2 D9) ⟨l, p9 r v (Nat.sub b 512)⟩ (Nat.ble 512 b) := by
    unfold p10
    cases Nat.ble 512 b <;> rfl
  rw [e]
  exact gp_step (gl := g9) (pl := p9) 512 l r v b j hb hj (fun x v b j => gp9 x v b j)
theorem gp11 (x : D11) (v : Option Blk) (b j : Nat) (hb : b < 2048) (hj : j < 2048) : g11 (p11 x v b) j = if j = b then v else g11 x j := by
  obtain ⟨l, r⟩ := x
  have e : p11 ⟨l, r⟩ v b = Bool.rec (motive := fun _ => N2 D10) (⟨p10 l v b, r⟩ : N2 D10) ⟨l, p10 r v (Nat.sub b 1024)⟩ (Nat.ble 1024 b) := by
    unfold p11
    cases Nat.ble 1024 b <;> rfl
  rw [e]
  exact gp_step (gl := g10) (pl := p10) 1024 l r v b j hb hj (fun x v b j => gp10 x v b j)
theorem gp12 (x : D12) (v : Option Blk) (b j : Nat) (hb : b < 4096) (hj : j < 4096) : g12 (p12 x v b) j = if j = b then v else g12 x j := by
  obtain ⟨l, r⟩ := x
  have e : p12 ⟨l, r⟩ v b = Bool.rec (motive := fun _ => N2 D11) (⟨p11 l v b, r⟩ : N2 D11) ⟨l, p11 r v (Nat.sub b 2048)⟩ (Nat.ble 2048 b) := by
    unfold p12
    cases Nat.ble 2048 b <;> rfl
  rw [e]
  exact gp_step (gl := g11) (pl := p11) 2048 l r v b j hb hj (fun x v b j => gp11 x v b j)
theorem gp13 (x : D13) (v : Option Blk) (b j : Nat) (hb : b < 8192) (hj : j < 8192) : g13 (p13 x v b) j = if j = b then v else g13 x j := by
  obtain ⟨l, r⟩ := x
  have e : p13 ⟨l, r⟩ v b = Bool.rec (motive := fun _ => N2 D12) (⟨p12 l v b, r⟩ : N2 D12) ⟨l, p12 r v (Nat.sub b 4096)⟩ (Nat.ble 4096 b) := by
    unfold p13
    cases Nat.ble 4096 b <;> rfl
  rw [e]
  exact gp_step (gl := g12) (pl := p12) 4096 l r v b j hb hj (fun x v b j => gp12 x v b j)
theorem gp14 (x : D14) (v : Option Blk) (b j : Nat) (hb : b < 16384) (hj : j < 16384) : g14 (p14 x v b) j = if j = b then v else g14 x j := by
  obtain ⟨l, r⟩ := x
  have e : p14 ⟨l, r⟩ v b = Bool.rec (motive := fun _ => N2 D13) (⟨p13 l v b, r⟩ : N2 D13) ⟨l, p13 r v (Nat.sub b 8192)⟩ (Nat.ble 8192 b) := by
    unfold p14
    cases Nat.ble 8192 b <;> rfl
  rw [e]
  exact gp_step (gl := g13) (pl := p13) 8192 l r v b j hb hj (fun x v b j => gp13 x v b j)
theorem gp15 (x : D15) (v : Option Blk) (b j : Nat) (hb : b < 32768) (hj : j < 32768) : g15 (p15 x v b) j = if j = b then v else g15 x j := by
  obtain ⟨l, r⟩ := x
  have e : p15 ⟨l, r⟩ v b = Bool.rec (motive := fun _ => N2 D14) (⟨p14 l v b, r⟩ : N2 D14) ⟨l, p14 r v (Nat.sub b 16384)⟩ (Nat.ble 16384 b) := by
    unfold p15
    cases Nat.ble 16384 b <;> rfl
  rw [e]
  exact gp_step (gl := g14) (pl := p14) 16384 l r v b j hb hj (fun x v b j => gp14 x v b j)
theorem gp16 (x : D16) (v : Option Blk) (b j : Nat) (hb : b < 65536) (hj : j < 65536) : g16 (p16 x v b) j = if j = b then v else g16 x j := by
  obtain ⟨l, r⟩ := x
  have e : p16 ⟨l, r⟩ v b = Bool.rec (motive := fun _ => N2 D15) (⟨p15 l v b, r⟩ : N2 D15) ⟨l, p15 r v (Nat.sub b 32768)⟩ (Nat.ble 32768 b) := by
    unfold p16
    cases Nat.ble 32768 b <;> rfl
  rw [e]
  exact gp_step (gl := g15) (pl := p15) 32768 l r v b j hb hj (fun x v b j => gp15 x v b j)
theorem gp17 (x : D17) (v : Option Blk) (b j : Nat) (hb : b < 131072) (hj : j < 131072) : g17 (p17 x v b) j = if j = b then v else g17 x j := by
  obtain ⟨l, r⟩ := x
  have e : p17 ⟨l, r⟩ v b = Bool.rec (motive := fun _ => N2 D16) (⟨p16 l v b, r⟩ : N2 D16) ⟨l, p16 r v (Nat.sub b 65536)⟩ (Nat.ble 65536 b) := by
    unfold p17
    cases Nat.ble 65536 b <;> rfl
  rw [e]
  exact gp_step (gl := g16) (pl := p16) 65536 l r v b j hb hj (fun x v b j => gp16 x v b j)

theorem get_memlf (b : Nat) : Mem.lf.get b = none := by
  show Bool.rec (motive := fun _ => Option Blk) (g17 z17 b) none (Nat.ble 131072 b) = none
  cases Nat.ble 131072 b
  · exact gz17 b
  · rfl
theorem get_memput (v : Option Blk) (b : Nat) (m : Mem) (j : Nat) : (m.put v b).get j = if j = b then v else m.get j := by
  obtain ⟨t, u⟩ := m
  show Mem.get (Bool.rec (motive := fun _ => Mem) (Mem.mk (p17 t v b) u) (Mem.mk t (u.put v b)) (Nat.ble 131072 b)) j = if j = b then v else Bool.rec (motive := fun _ => Option Blk) (g17 t j) (u.get j) (Nat.ble 131072 j)
  by_cases h1 : 131072 ≤ b
  · rw [Nat.ble_eq_true_of_le h1]
    show Bool.rec (motive := fun _ => Option Blk) (g17 t j) ((u.put v b).get j) (Nat.ble 131072 j) = _
    by_cases h2 : 131072 ≤ j
    · rw [Nat.ble_eq_true_of_le h2]
      exact get_put v b u j
    · have e2 : Nat.ble 131072 j = false := by
        cases e : Nat.ble 131072 j with
        | false => rfl
        | true => exact absurd (Nat.le_of_ble_eq_true e) h2
      rw [e2, if_neg (by omega)]
  · have e1 : Nat.ble 131072 b = false := by
      cases e : Nat.ble 131072 b with
      | false => rfl
      | true => exact absurd (Nat.le_of_ble_eq_true e) h1
    rw [e1]
    show Bool.rec (motive := fun _ => Option Blk) (g17 (p17 t v b) j) (u.get j) (Nat.ble 131072 j) = _
    by_cases h2 : 131072 ≤ j
    · rw [Nat.ble_eq_true_of_le h2, if_neg (by omega)]
    · have e2 : Nat.ble 131072 j = false := by
        cases e : Nat.ble 131072 j with
        | false => rfl
        | true => exact absurd (Nat.le_of_ble_eq_true e) h2
      rw [e2]
      exact gp17 t v b j (by omega) (by omega)
end Go.Ev

namespace Go.Ev
set_option linter.unusedSectionVars false
structure M where
  blk : Nat
  sh : Nat
  lim : Nat
abbrev Map : Type := Nat → Option M
/-! ## what is chosen for what is not known -/
def con (val : Nat → Value) : Value → Value
  | .float _ i => val i
  | v => v
noncomputable def scalB (op : BinOp) (x y : Value) : Option Value :=
  match x, y with
  | .int k a, .int k' b => binII op k a k' b
  | .string a, .string b => strBin op a b
  | _, _ => none
def Rule.Holds (val : Nat → Value) (r : Rule) : Prop :=
  match r.op with
  | .bin op => scalB op (con val r.x) (con val r.y) = some (con val r.z)
  | .min => min2 (con val r.x) (con val r.y) = some (con val r.z)
  | .max => max2 (con val r.x) (con val r.y) = some (con val r.z)
  | .eqi => ∃ k a b, con val r.x = .int k a ∧ con val r.y = .int k b ∧ r.z = .bool (eqI a b)
  | .eqs => ∃ a b, con val r.x = .string a ∧ con val r.y = .string b ∧ r.z = .bool (a.data.toList == b.data.toList)
  | .conv k => ∃ q a, con val r.x = .int q a ∧ con val r.z = .int k (k.wrap a)
class OVal [OTab] where
  val : Nat → Value
  shape : ∀ i, (∃ k n, val i = .int k n) ∨ (∃ s, val i = .string s) ∨ ∃ a l c, val i = .slice a l c
  rules : ∀ r ∈ OTab.rules, r.Holds val
  /-- the blocks that stay as they were -/
  kept : Nat → Prop
  heap0 : Array Obj
variable [OTab] [OVal]
mutual
def conc (m : Map) : Value → Option Value
  | .bool b => some (.bool b)
  | .int k n => some (.int k n)
  | .string s => some (.string s)
  | .float _ i => some (OVal.val i)
  | .pointer none => some (.pointer none)
  | .pointer (some ⟨b, off, none⟩) => (m b).map fun x => .pointer (some ⟨x.blk, x.sh + off, none⟩)
  | .slice none 0 0 => some (.slice none 0 0)
  | .slice (some ⟨b, off, none⟩) len code => (m b).map fun x => .slice (some ⟨x.blk, x.sh + off, none⟩) len (if code % 2 = 1 then code / 2 else (x.lim - off) / (code / 2))
  | .slice (some ⟨b, off, some back⟩) 0 code => if code % 2 = 1 then none else (m b).map fun x => if (x.lim - off) / (code / 2) = 0 then .slice (some ⟨x.blk, x.sh + (off - back), none⟩) 0 0 else .slice (some ⟨x.blk, x.sh + off, none⟩) 0 ((x.lim - off) / (code / 2))
  | .map none => some (.map none)
  | .map (some r) => (m r).map fun x => .map (some x.blk)
  | .nilFunc => some .nilFunc
  | .nilIface => some .nilIface
  | .func (.func f) ⟨a⟩ ⟨c⟩ => match concL m a, concL m c with
    | some a, some c => some (.func (.func f) ⟨a⟩ ⟨c⟩)
    | _, _ => none
  | .func (.method f) ⟨a⟩ ⟨c⟩ => match concL m a, concL m c with
    | some a, some c => some (.func (.method f) ⟨a⟩ ⟨c⟩)
    | _, _ => none
  | .func (.yield l) ⟨[]⟩ ⟨[]⟩ => (m l).map fun x => .func (.yield x.blk) ⟨[]⟩ ⟨[]⟩
  | .iface t v => (conc m v).map (.iface t)
  | .agg ⟨l⟩ => (concL m l).map fun l => .agg ⟨l⟩
  | .tuple ⟨l⟩ => (concL m l).map fun l => .tuple ⟨l⟩
  | _ => none
def concL (m : Map) : List Value → Option (List Value)
  | [] => some []
  | v :: r => match conc m v, concL m r with
    | some v, some r => some (v :: r)
    | _, _ => none
end

def Sub (m m' : Map) : Prop := ∀ b x, m b = some x → m' b = some x
theorem Sub.refl (m : Map) : Sub m m := fun _ _ h => h
theorem Sub.trans {a b c : Map} (h : Sub a b) (k : Sub b c) : Sub a c := fun x y e => k x y (h x y e)

theorem concL_cons {m : Map} {v : Value} {r : List Value} {c : List Value} (h : concL m (v :: r) = some c) : ∃ a b, conc m v = some a ∧ concL m r = some b ∧ c = a :: b := by
  rw [concL] at h
  split at h
  · rename_i a b ha hb; cases h; exact ⟨a, b, ha, hb, rfl⟩
  · cases h
theorem concL_cons' {m : Map} {v : Value} {r : List Value} {a : Value} {b : List Value} (h : conc m v = some a) (h' : concL m r = some b) : concL m (v :: r) = some (a :: b) := by
  rw [concL, h, h']
@[simp] theorem concL_nil (m : Map) : concL m [] = some [] := by rw [concL]

theorem conc_mono {m m' : Map} (hm : Sub m m') (v : Value) : ∀ c, conc m v = some c → conc m' v = some c := by
  refine Value.rec (motive_1 := fun v => ∀ c, conc m v = some c → conc m' v = some c) (motive_2 := fun a => ∀ c, concL m a.toList = some c → concL m' a.toList = some c)
    (motive_3 := fun l => ∀ c, concL m l = some c → concL m' l = some c) ?_ ?_ ?_ ?_ ?_ ?_ ?_ ?_ ?_ ?_ ?_ ?_ ?_ ?_ ?_ ?_ ?_ ?_ v
  · intro b c h; simpa [conc] using h
  · intro k n c h; simpa [conc] using h
  · intro k n c h; simpa [conc] using h
  · intro k n _ c h; simp [conc] at h
  · intro s c h; simpa [conc] using h
  · intro a c h
    match a with
    | none => simpa [conc] using h
    | some ⟨b, off, some _⟩ => simp [conc] at h
    | some ⟨b, off, none⟩ =>
      simp only [conc, Option.map_eq_some_iff] at h ⊢
      obtain ⟨x, hx, e⟩ := h
      exact ⟨x, hm b x hx, e⟩
  · intro a len code c h
    match a, len, code with
    | none, 0, 0 => simpa [conc] using h
    | none, 0, _ + 1 => simp [conc] at h
    | none, _ + 1, _ => simp [conc] at h
    | some ⟨b, off, some _⟩, _ + 1, _ => simp [conc] at h
    | some ⟨b, off, some back⟩, 0, code =>
      simp only [conc] at h ⊢
      split at h
      · cases h
      · rename_i hc
        rw [if_neg hc]
        simp only [Option.map_eq_some_iff] at h ⊢
        obtain ⟨x, hx, e⟩ := h
        exact ⟨x, hm b x hx, e⟩
    | some ⟨b, off, none⟩, len, code =>
      simp only [conc, Option.map_eq_some_iff] at h ⊢
      obtain ⟨x, hx, e⟩ := h
      exact ⟨x, hm b x hx, e⟩
  · intro r c h
    match r with
    | none => simpa [conc] using h
    | some r =>
      simp only [conc, Option.map_eq_some_iff] at h ⊢
      obtain ⟨x, hx, e⟩ := h
      exact ⟨x, hm r x hx, e⟩
  · intro r c h; simp [conc] at h
  · intro fn a b iha ihb c h
    obtain ⟨a⟩ := a
    obtain ⟨b⟩ := b
    match fn with
    | .func f =>
      simp only [conc] at h ⊢
      split at h
      · rename_i x y hx hy
        cases h
        simp [iha x hx, ihb y hy]
      · cases h
    | .yield l =>
      match a, b with
      | [], [] =>
        simp only [conc, Option.map_eq_some_iff] at h ⊢
        obtain ⟨x, hx, e⟩ := h
        exact ⟨x, hm l x hx, e⟩
      | _ :: _, _ => simp [conc] at h
      | [], _ :: _ => simp [conc] at h
    | .method f =>
      simp only [conc] at h ⊢
      split at h
      · rename_i x y hx hy
        cases h
        simp [iha x hx, ihb y hy]
      · cases h
    | .methodOf _ _ => simp [conc] at h
    | .via _ _ _ _ => simp [conc] at h
  · intro c h; simpa [conc] using h
  · intro t v ih c h
    simp only [conc, Option.map_eq_some_iff] at h ⊢
    obtain ⟨x, hx, e⟩ := h
    exact ⟨x, ih x hx, e⟩
  · intro c h; simpa [conc] using h
  · intro a ih c h
    obtain ⟨a⟩ := a
    simp only [conc, Option.map_eq_some_iff] at h ⊢
    obtain ⟨x, hx, e⟩ := h
    exact ⟨x, ih x hx, e⟩
  · intro a ih c h
    obtain ⟨a⟩ := a
    simp only [conc, Option.map_eq_some_iff] at h ⊢
    obtain ⟨x, hx, e⟩ := h
    exact ⟨x, ih x hx, e⟩
  · intro l ih; exact ih
  · intro c h; simpa using h
  · intro v r ihv ihr c h
    obtain ⟨a, b, ha, hb, rfl⟩ := concL_cons h
    exact concL_cons' (ihv a ha) (ihr b hb)
theorem concL_mono {m m' : Map} (hm : Sub m m') : ∀ (l : List Value) (c : List Value), concL m l = some c → concL m' l = some c
  | [], _, h => by simpa using h
  | v :: r, c, h => by
    obtain ⟨a, b, ha, hb, rfl⟩ := concL_cons h
    exact concL_cons' (conc_mono hm v a ha) (concL_mono hm r b hb)
end Go.Ev

namespace Go.Ev
set_option linter.unusedSectionVars false
variable [OTab] [OVal]

/-! ## the relation of an abstract memory to a world -/
structure LoopRel (m : Map) (l : ALoop) (c : Loop) : Prop where
  state : c.state = l.state
  pending : c.pending = l.pending
  fn : c.fn = l.fn
  tmps : ∀ t, conc m (tg l.tm t) = some (c.tmps.getD t undef)
  ntm : c.tmps.size = l.ntm
  params : c.params = ⟨l.params⟩
  assign : c.assign = l.assign
  body : c.body = l.body
  defers : ∃ x, m l.defers = some x ∧ c.defers = x.blk

def concE (m : Map) : List MapEntry → Option (List MapEntry)
  | [] => some []
  | e :: r => match conc m e.key, conc m e.val, concE m r with
    | some k, some v, some r => some ({ key := k, val := v, born := e.born } :: r)
    | _, _, _ => none

def iterOf (m : Map) : Option Nat → Option (Option Nat)
  | none => some none
  | some r => (m r).map fun x => some x.blk

/-- what the tag of a block says: the concrete block is of that type, and is known whole -/
def Tagged (n : Nat) (c : T Value) (e : TypeId) (sh size : Nat) : Prop := n ≤ tagI → (∀ k t, c.get tagI = some (.float k t) → e = t ∧ sh = 0 ∧ size = n) ∧ ∀ k t, c.get (tagI + 1) = some (.float k t) → e = t
def BlkRel (m : Map) : Blk → M → World → Prop
  | .cells n c, x, w => ∃ (arr : Array Value) (e : TypeId) (lo hi : Nat), w.heap[x.blk]? = some (.cells arr e (lo, hi)) ∧ x.sh + x.lim ≤ arr.size ∧ n ≤ x.lim ∧
      ((c.get roI).isNone = true → ∀ i, i < arr.size → ¬ (lo ≤ i ∧ i < hi)) ∧ (∀ i, i < n → ∃ v cv, c.get i = some v ∧ conc m v = some cv ∧ arr[x.sh + i]? = some cv) ∧ Tagged n c e x.sh arr.size
  | .map es clock, x, w => x.sh = 0 ∧ ∃ ces : List MapEntry, w.heap[x.blk]? = some (.map ⟨ces⟩ clock) ∧ concE m es = some ces
  | .iter mp since seen stepped, x, w => x.sh = 0 ∧ ∃ cmp, w.heap[x.blk]? = some (.mapIter cmp since ⟨seen⟩ stepped) ∧ iterOf m mp = some cmp
  | .loop l, x, w => x.sh = 0 ∧ ∃ c, w.heap[x.blk]? = some (.loop c) ∧ LoopRel m l c
  | .defd, x, w => x.sh = 0 ∧ w.heap[x.blk]? = some (.deferred (some []))

noncomputable def ro : Blk → Bool
  | .cells _ c => (c.get roI).isSome
  | _ => false
/-- what stays: those blocks are as they were, and no live block that may turn stands for them -/
structure Kept (m : Map) (st : St) (w : World) : Prop where
  same : ∀ B, OVal.kept B → B < w.heap.size ∧ w.heap[B]? = OVal.heap0[B]?
  off : ∀ b x k, m b = some x → st.mem.get b = some k → ro k = false → ¬ OVal.kept x.blk

structure Rel (P : Program) (m : Map) (st : St) (w : World) : Prop where
  glob : ∀ g, g < P.globals.size → ∃ l, m g = some ⟨g, 0, l⟩
  inb : ∀ b x, m b = some x → x.blk < w.heap.size
  blks : ∀ b x k, m b = some x → st.mem.get b = some k → BlkRel m k x w
  dist : ∀ b c x y kb kc, b ≠ c → m b = some x → m c = some y → st.mem.get b = some kb → st.mem.get c = some kc → x.blk ≠ y.blk
  wf : ∀ b, st.nxt ≤ b → st.mem.get b = none
  kept : Kept m st w

/-- no block with one of these numbers has been made -/
def Free (m : Map) (lo hi : Nat) : Prop := ∀ b, lo ≤ b → b < hi → m b = none
theorem Free.sub {m : Map} {a b c d : Nat} (h : Free m a b) (h1 : a ≤ c) (h2 : d ≤ b) : Free m c d := fun x hx hx' => h x (by omega) (by omega)

/-- nothing that was there at a point has turned since, and what was made is new -/
def CK (n0 : Nat) (w0 : World) (m : Map) (st : St) (w : World) : Prop :=
  (∀ b x k, m b = some x → st.mem.get b = some k → n0 ≤ b → w0.heap.size ≤ x.blk) ∧ w0.heap.size ≤ w.heap.size ∧ ∀ B, B < w0.heap.size → w.heap[B]? = w0.heap[B]?

structure Step (P : Program) (m : Map) (st : St) (w : World) (m' : Map) (st' : St) (w' : World) : Prop where
  sub : Sub m m'
  rel : Rel P m' st' w'
  os : w'.os = w.os
  tape : w'.tape = w.tape
  output : w'.output = w.output
  size : w.heap.size ≤ w'.heap.size
  nxt : st.nxt ≤ st'.nxt
  low : st'.low ≤ st.low
  newm : ∀ b x, m' b = some x → m b = some x ∨ (st.nxt ≤ b ∧ b < st'.nxt)
  chk : ∀ n0 w0, n0 ≤ st.nxt → n0 ≤ st'.low → CK n0 w0 m st w → CK n0 w0 m' st' w'

theorem Step.refl {P : Program} {m : Map} {st : St} {w : World} (h : Rel P m st w) : Step P m st w m st w :=
  ⟨Sub.refl m, h, rfl, rfl, rfl, Nat.le_refl _, Nat.le_refl _, Nat.le_refl _, fun _ _ h => .inl h, fun _ _ _ _ h => h⟩

theorem Step.trans {P : Program} {m₁ m₂ m₃ : Map} {s₁ s₂ s₃ : St} {w₁ w₂ w₃ : World} (h : Step P m₁ s₁ w₁ m₂ s₂ w₂) (k : Step P m₂ s₂ w₂ m₃ s₃ w₃) : Step P m₁ s₁ w₁ m₃ s₃ w₃ where
  sub := h.sub.trans k.sub
  rel := k.rel
  os := k.os.trans h.os
  tape := k.tape.trans h.tape
  output := k.output.trans h.output
  size := Nat.le_trans h.size k.size
  nxt := Nat.le_trans h.nxt k.nxt
  low := Nat.le_trans k.low h.low
  newm := fun b x hb => by
    have h1 := h.nxt
    have h2 := k.nxt
    rcases k.newm b x hb with hb | hb
    · rcases h.newm b x hb with hb | hb
      · exact .inl hb
      · exact .inr ⟨hb.1, by omega⟩
    · exact .inr ⟨by omega, hb.2⟩
  chk := fun n0 w0 hn hl hc => k.chk n0 w0 (Nat.le_trans hn h.nxt) hl (h.chk n0 w0 hn (Nat.le_trans hl k.low) hc)
/-- what a step leaves free -/
theorem Step.free {P : Program} {m m' : Map} {st st' : St} {w w' : World} (h : Step P m st w m' st' w') {top : Nat} (hf : Free m st.nxt top) : Free m' st'.nxt top := fun b hb ht => by
  cases e : m' b with
  | none => rfl
  | some x =>
    have hn := h.nxt
    rcases h.newm b x e with e | e
    · rw [hf b (by omega) ht] at e; cases e
    · omega

/-! ## a world that differs in nothing but draws -/
theorem BlkRel.heap {m : Map} {k : Blk} {x : M} {w w' : World} (h : BlkRel m k x w) (e : w'.heap[x.blk]? = w.heap[x.blk]?) : BlkRel m k x w' := by
  cases k <;> simp only [BlkRel] at h ⊢ <;> rw [e] <;> exact h
theorem concE_mono {m m' : Map} (hm : Sub m m') : ∀ (l : List MapEntry) (c : List MapEntry), concE m l = some c → concE m' l = some c
  | [], _, h => by simpa [concE] using h
  | e :: r, c, h => by
    simp only [concE] at h ⊢
    split at h
    · rename_i k v r' hk hv hr
      cases h
      rw [conc_mono hm _ _ hk, conc_mono hm _ _ hv, concE_mono hm r _ hr]
    · cases h
theorem LoopRel.mono {m m' : Map} (hm : Sub m m') {l : ALoop} {c : Loop} (h : LoopRel m l c) : LoopRel m' l c :=
  ⟨h.state, h.pending, h.fn, fun t => conc_mono hm _ _ (h.tmps t), h.ntm, h.params, h.assign, h.body, h.defers.imp fun _ e => ⟨hm _ _ e.1, e.2⟩⟩
theorem BlkRel.mono {m m' : Map} (hm : Sub m m') {k : Blk} {x : M} {w : World} (h : BlkRel m k x w) : BlkRel m' k x w := by
  cases k with
  | cells n c =>
    obtain ⟨arr, e, lo, hi, h1, h2, h3, h4, h5, h6⟩ := h
    exact ⟨arr, e, lo, hi, h1, h2, h3, h4, fun i hi' => let ⟨v, cv, a, b, d⟩ := h5 i hi'; ⟨v, cv, a, conc_mono hm _ _ b, d⟩, h6⟩
  | map es clock => obtain ⟨h0, ces, h1, h2⟩ := h; exact ⟨h0, ces, h1, concE_mono hm _ _ h2⟩
  | iter mp a b c =>
    obtain ⟨h0, cmp, h1, h2⟩ := h
    refine ⟨h0, cmp, h1, ?_⟩
    cases mp with
    | none => exact h2
    | some r =>
      simp only [iterOf, Option.map_eq_some_iff] at h2 ⊢
      obtain ⟨y, hy, e⟩ := h2
      exact ⟨y, hm _ _ hy, e⟩
  | loop l => obtain ⟨h0, c, h1, h2⟩ := h; exact ⟨h0, c, h1, h2.mono hm⟩
  | defd => exact h

/-- the same memory in a world that has drawn -/
theorem Step.drew {P : Program} {m : Map} {st : St} {w w' : World} (h : Rel P m st w) (hh : w'.heap = w.heap) (ho : w'.os = w.os) (ht : w'.tape = w.tape) (hu : w'.output = w.output) : Step P m st w m st w' where
  sub := Sub.refl m
  rel := ⟨h.glob, fun b x hb => by rw [hh]; exact h.inb b x hb, fun b x k hb hk => (h.blks b x k hb hk).heap (by rw [hh]), h.dist, h.wf, ⟨fun B hB => by rw [hh]; exact h.kept.same B hB, h.kept.off⟩⟩
  os := ho
  tape := ht
  output := hu
  size := by rw [hh]; exact Nat.le_refl _
  nxt := Nat.le_refl _
  low := Nat.le_refl _
  newm := fun _ _ h => .inl h
  chk := fun n0 w0 _ _ hc => by unfold CK at hc ⊢; rwa [hh]

/-! ## a new block -/
def upd (m : Map) (b : Nat) (x : M) : Map := fun c => if c = b then some x else m c
theorem upd_same (m : Map) (b : Nat) (x : M) : upd m b x b = some x := by simp [upd]
theorem upd_other (m : Map) {b c : Nat} (x : M) (h : c ≠ b) : upd m b x c = m c := by simp [upd, h]
theorem sub_upd {m : Map} {b : Nat} (x : M) (h : m b = none) : Sub m (upd m b x) := fun c y hc => by
  by_cases e : c = b
  · subst e; rw [h] at hc; cases hc
  · rw [upd_other _ _ e]; exact hc

theorem Rel.lt {P : Program} {m : Map} {st : St} {w : World} (h : Rel P m st w) {b : Nat} {k : Blk} (hb : st.mem.get b = some k) : b < st.nxt := by
  rcases Nat.lt_or_ge b st.nxt with h' | h'
  · exact h'
  · rw [h.wf b h'] at hb; cases hb

theorem push_step {P : Program} {m : Map} {st : St} {w w' : World} {k : Blk} {o : Obj} {lim : Nat} (h : Rel P m st w) (hn : m st.nxt = none)
    (hw : w'.heap = w.heap.push o) (ho : w'.os = w.os) (ht : w'.tape = w.tape) (hu : w'.output = w.output)
    (hk : BlkRel (upd m st.nxt ⟨w.heap.size, 0, lim⟩) k ⟨w.heap.size, 0, lim⟩ w') :
    Step P m st w (upd m st.nxt ⟨w.heap.size, 0, lim⟩) (st.push k) w' := by
  have hsub := sub_upd (⟨w.heap.size, 0, lim⟩ : M) hn
  have hold : ∀ B, B < w.heap.size → w'.heap[B]? = w.heap[B]? := fun B hB => by rw [hw, Array.getElem?_push, if_neg (by omega)]
  have hsz : w'.heap.size = w.heap.size + 1 := by rw [hw]; simp
  have hget : ∀ b, (st.push k).mem.get b = if b = st.nxt then some k else st.mem.get b := fun b => get_memput _ _ _ _
  have hcase : ∀ b x, upd m st.nxt ⟨w.heap.size, 0, lim⟩ b = some x → (b = st.nxt ∧ x = ⟨w.heap.size, 0, lim⟩) ∨ (b ≠ st.nxt ∧ m b = some x) := fun b x hb => by
    by_cases e : b = st.nxt
    · subst e; rw [upd_same] at hb; cases hb; exact .inl ⟨rfl, rfl⟩
    · rw [upd_other _ _ e] at hb; exact .inr ⟨e, hb⟩
  refine ⟨hsub, ⟨?_, ?_, ?_, ?_, ?_, ⟨fun B hB => ?_, fun b x k' hb hk' hro => ?_⟩⟩, ho, ht, hu, by omega, Nat.le_succ _, Nat.le_refl _, ?_, ?_⟩
  · intro g hg
    obtain ⟨l, hl⟩ := h.glob g hg
    exact ⟨l, hsub _ _ hl⟩
  · intro b x hb
    rcases hcase b x hb with ⟨_, rfl⟩ | ⟨_, hb⟩
    · show w.heap.size < _; omega
    · have := h.inb b x hb; omega
  · intro b x k' hb hk'
    rw [hget] at hk'
    rcases hcase b x hb with ⟨rfl, rfl⟩ | ⟨hne, hb⟩
    · simp at hk'; subst hk'; exact hk
    · rw [if_neg hne] at hk'
      exact ((h.blks b x k' hb hk').mono hsub).heap (hold _ (h.inb b x hb))
  · intro b c x y kb kc hbc hb hc hkb hkc e
    rw [hget] at hkb hkc
    rcases hcase b x hb with ⟨rfl, rfl⟩ | ⟨hne, hb⟩
    · rcases hcase c y hc with ⟨rfl, rfl⟩ | ⟨hne', hc⟩
      · exact absurd rfl hbc
      · have := h.inb c y hc
        simp only at e
        omega
    · rcases hcase c y hc with ⟨rfl, rfl⟩ | ⟨hne', hc⟩
      · have := h.inb b x hb
        simp only at e
        omega
      · rw [if_neg hne] at hkb
        rw [if_neg hne'] at hkc
        exact h.dist b c x y kb kc hbc hb hc hkb hkc e
  · intro b hb
    have hb' : st.nxt + 1 ≤ b := hb
    rw [hget, if_neg (by omega)]
    exact h.wf b (by omega)
  · have h1 := h.kept.same B hB
    exact ⟨by omega, (hold B h1.1).trans h1.2⟩
  · rw [hget] at hk'
    rcases hcase b x hb with ⟨rfl, rfl⟩ | ⟨hne, hb⟩
    · intro hB
      have h1 := (h.kept.same _ hB).1
      simp only at h1
      omega
    · rw [if_neg hne] at hk'
      exact h.kept.off b x k' hb hk' hro
  · intro b x hb
    rcases hcase b x hb with ⟨rfl, rfl⟩ | ⟨hne, hb⟩
    · exact .inr ⟨Nat.le_refl _, Nat.lt_succ_self _⟩
    · exact .inl hb
  · intro n0 w0 hn0 _ hc
    obtain ⟨c1, c2, c3⟩ := hc
    refine ⟨?_, by omega, fun B hB => by rw [hold B (by omega)]; exact c3 B hB⟩
    intro b x k' hb hk' hn'
    rw [hget] at hk'
    rcases hcase b x hb with ⟨rfl, rfl⟩ | ⟨hne, hb⟩
    · exact c2
    · rw [if_neg hne] at hk'; exact c1 b x k' hb hk' hn'
end Go.Ev

namespace Go.Ev
set_option linter.unusedSectionVars false
variable [OTab] [OVal]
theorem minN_eq (a b : Nat) : minN a b = min a b := by
  show a - (a - b) = min a b
  omega

/-- block b gets new content, or dies -/
theorem set_step {P : Program} {m : Map} {st : St} {w w' : World} {b : Nat} {x : M} {k0 : Blk} {vo : Option Blk} (h : Rel P m st w)
    (hb : m b = some x) (hk0 : st.mem.get b = some k0) (hro : ro k0 = false)
    (hw : ∀ B, B ≠ x.blk → w'.heap[B]? = w.heap[B]?) (hsz : w'.heap.size = w.heap.size) (ho : w'.os = w.os) (ht : w'.tape = w.tape) (hu : w'.output = w.output)
    (hk : ∀ k, vo = some k → BlkRel m k x w') :
    Step P m st w m ⟨st.mem.put vo b, st.nxt, minN b st.low⟩ w' := by
  have hget : ∀ c, (st.mem.put vo b).get c = if c = b then vo else st.mem.get c := fun c => get_memput _ _ _ _
  refine ⟨Sub.refl m, ⟨h.glob, fun c y hc => by rw [hsz]; exact h.inb c y hc, ?_, ?_, ?_, ⟨fun B hB => ?_, fun c y k hc hkc hr => ?_⟩⟩, ho, ht, hu, by omega, Nat.le_refl _, by show minN b st.low ≤ st.low; rw [minN_eq]; omega, fun _ _ hc => .inl hc, ?_⟩
  · intro c y k hc hkc
    simp only at hkc
    rw [hget] at hkc
    by_cases e : c = b
    · subst e
      rw [if_pos rfl] at hkc
      rw [hb] at hc; cases hc
      exact hk k hkc
    · rw [if_neg e] at hkc
      exact (h.blks c y k hc hkc).heap (hw _ (h.dist c b y x k k0 e hc hb hkc hk0))
  · intro c d y z kc kd hcd hc hd hkc hkd
    simp only at hkc hkd
    rw [hget] at hkc hkd
    by_cases ec : c = b
    · subst ec
      rw [if_neg (Ne.symm hcd)] at hkd
      exact h.dist c d y z k0 kd hcd hc hd hk0 hkd
    · rw [if_neg ec] at hkc
      by_cases ed : d = b
      · subst ed
        exact h.dist c d y z kc k0 hcd hc hd hkc hk0
      · rw [if_neg ed] at hkd
        exact h.dist c d y z kc kd hcd hc hd hkc hkd
  · intro c hc
    have := h.lt hk0
    have hc' : st.nxt ≤ c := hc
    simp only
    rw [hget, if_neg (by omega)]
    exact h.wf c hc
  · have h1 := h.kept.same B hB
    have h2 := h.kept.off b x k0 hb hk0 hro
    exact ⟨by omega, (hw B (fun e => h2 (e ▸ hB))).trans h1.2⟩
  · simp only at hkc
    rw [hget] at hkc
    by_cases e : c = b
    · subst e
      rw [hb] at hc; cases hc
      exact h.kept.off c x k0 hb hk0 hro
    · rw [if_neg e] at hkc
      exact h.kept.off c y k hc hkc hr
  · intro n0 w0 hn0 hl hc
    have hl' : n0 ≤ minN b st.low := hl
    rw [minN_eq] at hl'
    obtain ⟨c1, c2, c3⟩ := hc
    have hx : w0.heap.size ≤ x.blk := c1 b x k0 hb hk0 (by omega)
    refine ⟨?_, by omega, fun B hB => by rw [hw B (by omega)]; exact c3 B hB⟩
    intro c y k hc' hkc hn'
    simp only at hkc
    rw [hget] at hkc
    by_cases e : c = b
    · subst e
      rw [hb] at hc'; cases hc'
      exact hx
    · rw [if_neg e] at hkc; exact c1 c y k hc' hkc hn'

/-- block b dies; a new one is made, perhaps in the same memory -/
theorem heir_step {P : Program} {m : Map} {st : St} {w w' : World} {b : Nat} {k0 k : Blk} {x y : M} (h : Rel P m st w) (hn : m st.nxt = none)
    (hb : m b = some x) (hk0 : st.mem.get b = some k0) (hro : ro k0 = false)
    (ho : w'.os = w.os) (ht : w'.tape = w.tape) (hu : w'.output = w.output)
    (hy : (y.blk = w.heap.size ∧ w'.heap.size = w.heap.size + 1 ∧ ∀ B, B < w.heap.size → w'.heap[B]? = w.heap[B]?) ∨
      (y.blk = x.blk ∧ w'.heap.size = w.heap.size ∧ ∀ B, B ≠ x.blk → w'.heap[B]? = w.heap[B]?))
    (hk : BlkRel (upd m st.nxt y) k y w') :
    Step P m st w (upd m st.nxt y) ((st.kill b).push k) w' := by
  have hsub := sub_upd y hn
  have hblt := h.lt hk0
  have hget : ∀ c, ((st.kill b).push k).mem.get c = if c = st.nxt then some k else if c = b then none else st.mem.get c := fun c => by
    show ((st.mem.put none b).put (some k) st.nxt).get c = _
    rw [get_memput, get_memput]
  have hxb := h.inb b x hb
  have hsz : w.heap.size ≤ w'.heap.size := by rcases hy with ⟨_, e, _⟩ | ⟨_, e, _⟩ <;> omega
  have hold : ∀ B, B < w.heap.size → B ≠ x.blk → w'.heap[B]? = w.heap[B]? := fun B h1 h2 => by
    rcases hy with ⟨_, _, e⟩ | ⟨_, _, e⟩
    · exact e B h1
    · exact e B h2
  have hcase : ∀ d z, upd m st.nxt y d = some z → (d = st.nxt ∧ z = y) ∨ (d ≠ st.nxt ∧ m d = some z) := fun d z hd => by
    by_cases e : d = st.nxt
    · subst e; rw [upd_same] at hd; cases hd; exact .inl ⟨rfl, rfl⟩
    · rw [upd_other _ _ e] at hd; exact .inr ⟨e, hd⟩
  -- the blocks that live on
  have halive : ∀ d z kd, d ≠ st.nxt → m d = some z → ((st.kill b).push k).mem.get d = some kd → d ≠ b ∧ st.mem.get d = some kd ∧ z.blk ≠ x.blk ∧ z.blk ≠ y.blk := fun d z kd hne hd hkd => by
    rw [hget, if_neg hne] at hkd
    have hdb : d ≠ b := fun e => by rw [if_pos e] at hkd; cases hkd
    rw [if_neg hdb] at hkd
    have h1 := h.dist d b z x kd k0 hdb hd hb hkd hk0
    refine ⟨hdb, hkd, h1, ?_⟩
    have := h.inb d z hd
    rcases hy with ⟨e, _, _⟩ | ⟨e, _, _⟩
    · omega
    · rw [e]; exact h1
  refine ⟨hsub, ⟨?_, ?_, ?_, ?_, ?_, ⟨fun B hB => ?_, fun d z kd hd hkd hr => ?_⟩⟩, ho, ht, hu, hsz, Nat.le_succ _, by show minN b st.low ≤ st.low; rw [minN_eq]; omega, ?_, ?_⟩
  · intro g hg
    obtain ⟨l, hl⟩ := h.glob g hg
    exact ⟨l, hsub _ _ hl⟩
  · intro d z hd
    rcases hcase d z hd with ⟨_, rfl⟩ | ⟨_, hd⟩
    · rcases hy with ⟨e1, e2, _⟩ | ⟨e1, e2, _⟩ <;> omega
    · have := h.inb d z hd; omega
  · intro d z kd hd hkd
    rcases hcase d z hd with ⟨rfl, rfl⟩ | ⟨hne, hd⟩
    · rw [hget, if_pos rfl] at hkd; cases hkd; exact hk
    · obtain ⟨_, h2, h3, _⟩ := halive d z kd hne hd hkd
      exact ((h.blks d z kd hd h2).mono hsub).heap (hold _ (h.inb d z hd) h3)
  · intro d e z u kd ke hde hd he hkd hke
    rcases hcase d z hd with ⟨rfl, hz⟩ | ⟨hne, hd⟩
    · rcases hcase e u he with ⟨rfl, hu⟩ | ⟨hne', he⟩
      · exact absurd rfl hde
      · rw [hz]; exact fun e' => (halive e u ke hne' he hke).2.2.2 e'.symm
    · rcases hcase e u he with ⟨rfl, hu⟩ | ⟨hne', he⟩
      · rw [hu]; exact (halive d z kd hne hd hkd).2.2.2
      · exact h.dist d e z u kd ke hde hd he (halive d z kd hne hd hkd).2.1 (halive e u ke hne' he hke).2.1
  · intro d hd
    have hd' : st.nxt + 1 ≤ d := hd
    rw [hget, if_neg (by omega), if_neg (by omega)]
    exact h.wf d (by omega)
  · have h1 := h.kept.same B hB
    have h2 := h.kept.off b x k0 hb hk0 hro
    exact ⟨by omega, (hold B h1.1 (fun e => h2 (e ▸ hB))).trans h1.2⟩
  · rcases hcase d z hd with ⟨rfl, rfl⟩ | ⟨hne, hd⟩
    · intro hB
      rcases hy with ⟨e1, _, _⟩ | ⟨e1, _⟩
      · have h1 := (h.kept.same _ hB).1
        omega
      · rw [e1] at hB
        exact h.kept.off b x k0 hb hk0 hro hB
    · exact h.kept.off d z kd hd (halive d z kd hne hd hkd).2.1 hr
  · intro d z hd
    rcases hcase d z hd with ⟨rfl, rfl⟩ | ⟨hne, hd⟩
    · exact .inr ⟨Nat.le_refl _, Nat.lt_succ_self _⟩
    · exact .inl hd
  · intro n0 w0 hn0 hl hc
    have hl' : n0 ≤ minN b st.low := hl
    rw [minN_eq] at hl'
    obtain ⟨c1, c2, c3⟩ := hc
    have hx : w0.heap.size ≤ x.blk := c1 b x k0 hb hk0 (by omega)
    refine ⟨?_, by omega, fun B hB => by rw [hold B (by omega) (by omega)]; exact c3 B hB⟩
    intro d z kd hd hkd hn'
    rcases hcase d z hd with ⟨rfl, rfl⟩ | ⟨hne, hd⟩
    · rcases hy with ⟨e1, _, _⟩ | ⟨e1, _⟩ <;> omega
    · exact c1 d z kd hd (halive d z kd hne hd hkd).2.1 hn'
end Go.Ev

namespace Go.Ev
set_option linter.unusedSectionVars false
variable [OTab] [OVal]
variable {P : Program}
theorem run_sz {t n : Nat} (h : sz P t = some n) (w : World) : (sizeOf t).run P w = .ok n w := by
  unfold sz at h
  cases hi : P.info? t with
  | none => rw [hi] at h; cases h
  | some i => rw [hi] at h; cases h; simp [sizeOf, typeInfo, hi]
theorem run_aggT {t : Nat} {g : Bool} (h : aggT P t = some g) (w : World) : (isAgg t).run P w = .ok g w := by
  unfold aggT at h
  cases hu : P.underlying t with
  | none => rw [hu] at h; cases h
  | some d => rw [hu] at h; cases h; cases d <;> simp [isAgg, run_underlying hu, isAggD]
theorem conc_pointer {m : Map} {a : Addr} {c : Value} (h : conc m (.pointer (some a)) = some c) :
    ∃ x, m a.block = some x ∧ a.spot = none ∧ c = .pointer (some ⟨x.blk, x.sh + a.off, none⟩) := by
  obtain ⟨b, off, spot⟩ := a
  cases spot with
  | some s => simp [conc] at h
  | none =>
    simp only [conc, Option.map_eq_some_iff] at h
    obtain ⟨x, hx, rfl⟩ := h
    exact ⟨x, hx, rfl, rfl⟩
theorem conc_pointer' {m : Map} {b off : Nat} {x : M} (h : m b = some x) : conc m (.pointer (some ⟨b, off, none⟩)) = some (.pointer (some ⟨x.blk, x.sh + off, none⟩)) := by
  simp [conc, h]
theorem asP_some {v : Value} {a : Addr} (h : asP v = some a) : v = .pointer (some a) := by
  cases v with
  | pointer p => cases p with
    | none => cases h
    | some q => cases h; rfl
  | _ => cases h
theorem add_eq (b off k : Nat) : (⟨b, off, none⟩ : Addr).add k = ⟨b, off + k, none⟩ := by
  unfold Addr.add
  split
  · rename_i h; subst h; rfl
  · rfl


omit [OTab] [OVal] in
theorem wrapF_eq (k : IntKind) (n : Int) : wrapF k n = k.wrap n := by
  cases n with
  | negSucc x => rfl
  | ofNat x =>
    show bsel (Nat.blt x (half k)) (k.wrap (.ofNat x)) (.ofNat x) = _
    cases h : Nat.blt x (half k) with
    | false => rfl
    | true =>
      rw [bsel_true]
      have hx : x < half k := by simp [Nat.blt] at h; omega
      cases k <;> simp [half] at hx <;> simp [IntKind.wrap, IntKind.bits, IntKind.signed] <;> omega
omit [OTab] [OVal] in
theorem ltI_eq (a b : Int) : ltI a b = decide (a < b) := by
  cases a <;> cases b <;> simp only [ltI] <;> rw [Bool.eq_iff_iff] <;> simp [Nat.blt] <;> omega
omit [OTab] [OVal] in
theorem eqI_eq (a b : Int) : eqI a b = (a == b) := by
  cases a <;> cases b <;> simp only [eqI] <;> rw [Bool.eq_iff_iff] <;> simp <;> omega

theorem conc_int (m : Map) (k : IntKind) (n : Int) : conc m (.int k n) = some (.int k n) := by simp [conc]
theorem conc_float (m : Map) (k : FloatKind) (i : Nat) : conc m (.float k i) = some (OVal.val i) := by simp [conc]
theorem conc_bool (m : Map) (b : Bool) : conc m (.bool b) = some (.bool b) := by simp [conc]
theorem conc_string (m : Map) (s : ByteArray) : conc m (.string s) = some (.string s) := by simp [conc]
theorem conc_plain (m : Map) {v : Value} (h : plainS v = true) : conc m v = some (con OVal.val v) := by
  cases v with
  | bool b => exact conc_bool m b
  | int k n => exact conc_int m k n
  | string s => exact conc_string m s
  | float k i => exact conc_float m k i
  | _ => cases h
theorem conc_agg {m : Map} {l : Array Value} {c : Value} (h : conc m (.agg l) = some c) : ∃ l', concL m l.toList = some l' ∧ c = .agg ⟨l'⟩ := by
  obtain ⟨l⟩ := l
  simp only [conc, Option.map_eq_some_iff] at h
  obtain ⟨x, hx, rfl⟩ := h
  exact ⟨x, hx, rfl⟩
theorem conc_agg' {m : Map} {l l' : List Value} (h : concL m l = some l') : conc m (.agg ⟨l⟩) = some (.agg ⟨l'⟩) := by
  simp [conc, h]
theorem conc_tuple {m : Map} {l : Array Value} {c : Value} (h : conc m (.tuple l) = some c) : ∃ l', concL m l.toList = some l' ∧ c = .tuple ⟨l'⟩ := by
  obtain ⟨l⟩ := l
  simp only [conc, Option.map_eq_some_iff] at h
  obtain ⟨x, hx, rfl⟩ := h
  exact ⟨x, hx, rfl⟩
theorem conc_tuple' {m : Map} {l l' : List Value} (h : concL m l = some l') : conc m (.tuple ⟨l⟩) = some (.tuple ⟨l'⟩) := by
  simp [conc, h]

theorem concL_get {m : Map} : ∀ {l l' : List Value}, concL m l = some l' → ∀ (i : Nat) (v : Value), l[i]? = some v → ∃ c, conc m v = some c ∧ l'[i]? = some c
  | [], _, h, i, v, hv => by simp at hv
  | a :: l, _, h, i, v, hv => by
    obtain ⟨c, r, hc, hr, rfl⟩ := concL_cons h
    cases i with
    | zero => simp at hv; subst hv; exact ⟨c, hc, by simp⟩
    | succ i => simp at hv; obtain ⟨d, h1, h2⟩ := concL_get hr i v hv; exact ⟨d, h1, by simpa using h2⟩
theorem concL_len {m : Map} : ∀ {l l' : List Value}, concL m l = some l' → l'.length = l.length
  | [], _, h => by simp at h; subst h; rfl
  | a :: l, _, h => by
    obtain ⟨c, r, hc, hr, rfl⟩ := concL_cons h
    simp [concL_len hr]
theorem concL_append {m : Map} : ∀ {l l' k k' : List Value}, concL m l = some l' → concL m k = some k' → concL m (l ++ k) = some (l' ++ k')
  | [], _, k, k', h, hk => by simp at h; subst h; simpa using hk
  | a :: l, _, k, k', h, hk => by
    obtain ⟨c, r, hc, hr, rfl⟩ := concL_cons h
    exact concL_cons' hc (concL_append hr hk)
theorem concL_take {m : Map} : ∀ {l l' : List Value} (n : Nat), concL m l = some l' → concL m (l.take n) = some (l'.take n)
  | [], _, n, h => by simp at h; subst h; simp
  | a :: l, _, n, h => by
    obtain ⟨c, r, hc, hr, rfl⟩ := concL_cons h
    cases n with
    | zero => simp
    | succ n => simp only [List.take_succ_cons]; exact concL_cons' hc (concL_take n hr)
theorem concL_drop {m : Map} : ∀ {l l' : List Value} (n : Nat), concL m l = some l' → concL m (l.drop n) = some (l'.drop n)
  | [], _, n, h => by simp at h; subst h; simp
  | a :: l, _, n, h => by
    obtain ⟨c, r, hc, hr, rfl⟩ := concL_cons h
    cases n with
    | zero => simpa using h
    | succ n => simp only [List.drop_succ_cons]; exact concL_drop n hr
theorem concL_map {m : Map} {α : Type} (f g : α → Value) : ∀ (l : List α), (∀ x ∈ l, conc m (f x) = some (g x)) → concL m (l.map f) = some (l.map g)
  | [], _ => by simp
  | a :: l, h => concL_cons' (h a (by simp)) (concL_map f g l fun x hx => h x (by simp [hx]))

/-- a part of an aggregate -/
theorem part_sound {m : Map} {t : TypeId} {l l' : List Value} {off : Nat} {v : Value} (hl : concL m l = some l') (h : partL P t l off = some v) (w : World) :
    ∃ c, conc m v = some c ∧ (part t ⟨l'⟩ off).run P w = .ok c w := by
  unfold partL at h
  obtain ⟨g, hg, h⟩ := ob_some h
  cases g with
  | false =>
    simp only [bsel_false] at h
    obtain ⟨c, hc, hc'⟩ := concL_get hl off v h
    exact ⟨c, hc, by simp [part, run_aggT hg, hc']⟩
  | true =>
    simp only [bsel_true] at h
    obtain ⟨n, hn, h⟩ := ob_some h
    cases h
    refine ⟨_, conc_agg' (concL_take n (concL_drop off hl)), ?_⟩
    simp [part, run_aggT hg, run_sz hn, List.extract_eq_take_drop]
end Go.Ev
