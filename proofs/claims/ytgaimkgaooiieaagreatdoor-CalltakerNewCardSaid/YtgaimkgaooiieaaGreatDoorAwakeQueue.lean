/-
  What (*CallTaker).Queue answers in this program for a call taker that knows no call: the empty list; one run of the verified evaluator.
-/
import Derived.Test.YtgaimkgaooiieaaGreatDoorAwakeParams
namespace Go.Proofs.YtgaimkgaooiieaaGreatDoor
open Go Go.RowKit Go.Ev

def deskL : List Value := [.float .f64 0, .float .f64 1, .float .f64 2, .float .f64 3, .float .f64 4, .pointer (some ⟨4, 0, none⟩), .map (some 3)]
noncomputable def stD : St := ⟨((Mem.lf).put (some (.cells 7 (fillT deskL 0 .lf))) 2).put (some (.map [] 0)) 3, 5, 5⟩
def mapD (d mp sb : Nat) : Map := fun b => if b = 2 then some ⟨d, 0, 7⟩ else if b = 3 then some ⟨mp, 0, 0⟩ else if b = 4 then some ⟨sb, 0, 0⟩ else if b < 2 then some ⟨b, 0, 0⟩ else none
def okNil (n : Nat) (r : Option (Value × St)) : Bool :=
  match r with
  | some (.slice none 0 0, st) => Nat.ble n st.low
  | _ => false
theorem queue_run : okNil 5 (@run tab0 Tryz.prog 10 [.pointer (some ⟨2, 0, none⟩), .int .i64 0] (@stD)) = true := by kernel_rfl
theorem stD_get {b : Nat} {k : Blk} (h : stD.mem.get b = some k) : (b = 2 ∧ k = .cells 7 (fillT deskL 0 .lf)) ∨ (b = 3 ∧ k = .map [] 0) := by
  unfold stD at h
  simp only at h
  rw [get_memput, get_memput, get_memlf] at h
  split at h
  · cases h; exact .inr ⟨by assumption, rfl⟩
  · split at h
    · cases h; exact .inl ⟨by assumption, rfl⟩
    · cases h
def dval (i0 i1 i2 i3 i4 : Int) (i : Nat) : Value := .int .i64 ([i0, i1, i2, i3, i4].getD i 0)
@[reducible] def valD (i0 i1 i2 i3 i4 : Int) : @OVal tab0 := @OVal.mk tab0 (dval i0 i1 i2 i3 i4) (fun _ => .inl ⟨_, _, rfl⟩) (fun _ hr => by cases hr)
theorem relD {w : World} {d mp sb : Nat} {i0 i1 i2 i3 i4 : Int} (hw : 2 ≤ w.heap.size) (hd : w.heap[d]? = some (.cells #[.int .i64 i0, .int .i64 i1, .int .i64 i2, .int .i64 i3, .int .i64 i4, .pointer (some ⟨sb, 0, none⟩), .map (some mp)] 79))
    (hm : w.heap[mp]? = some (.map #[] 0)) (hs : sb < w.heap.size) : @Rel tab0 (valD i0 i1 i2 i3 i4) Tryz.prog (mapD d mp sb) stD w :=
  letI : OTab := tab0
  letI := valD i0 i1 i2 i3 i4
  { glob := fun q hq => by
      rw [globs] at hq
      exact ⟨0, by unfold mapD; rw [if_neg (by omega), if_neg (by omega), if_neg (by omega), if_pos (by omega)]⟩
    inb := fun b x hb => by
      unfold mapD at hb
      split at hb
      · cases hb; exact (Array.getElem?_eq_some_iff.1 hd).1
      · split at hb
        · cases hb; exact (Array.getElem?_eq_some_iff.1 hm).1
        · split at hb
          · cases hb; exact hs
          · split at hb
            · cases hb; exact Nat.lt_of_lt_of_le (by assumption) hw
            · cases hb
    blks := fun b x k hb hk => by
      rcases stD_get hk with ⟨rfl, rfl⟩ | ⟨rfl, rfl⟩
      · have : x = ⟨d, 0, 7⟩ := by unfold mapD at hb; simp at hb; exact hb.symm
        subst this
        refine ⟨_, 79, 0, 0, hd, by show 0 + 7 ≤ 7; omega, Nat.le_refl _, fun i _ => by omega, fun i hi => ?_⟩
        have hg : (fillT deskL 0 .lf).get i = deskL[i]? := by rw [fillT_get, if_pos (by simp [deskL]; omega)]; simp
        rw [hg]
        match i, hi with
        | 0, _ => exact ⟨.float .f64 0, .int .i64 i0, rfl, by rw [conc]; rfl, rfl⟩
        | 1, _ => exact ⟨.float .f64 1, .int .i64 i1, rfl, by rw [conc]; rfl, rfl⟩
        | 2, _ => exact ⟨.float .f64 2, .int .i64 i2, rfl, by rw [conc]; rfl, rfl⟩
        | 3, _ => exact ⟨.float .f64 3, .int .i64 i3, rfl, by rw [conc]; rfl, rfl⟩
        | 4, _ => exact ⟨.float .f64 4, .int .i64 i4, rfl, by rw [conc]; rfl, rfl⟩
        | 5, _ => exact ⟨_, .pointer (some ⟨sb, 0, none⟩), rfl, by rw [conc]; simp [mapD], rfl⟩
        | 6, _ => exact ⟨_, .map (some mp), rfl, by rw [conc]; simp [mapD], rfl⟩
      · have : x = ⟨mp, 0, 0⟩ := by unfold mapD at hb; simp at hb; exact hb.symm
        subst this
        exact ⟨rfl, [], hm, rfl⟩
    dist := fun b c x y kb kc hbc hb hc hk hkc => by
      have e1 : ∀ {b x}, b = 2 → mapD d mp sb b = some x → x.blk = d := fun hb h => by subst hb; unfold mapD at h; simp at h; rw [← h]
      have e2 : ∀ {b x}, b = 3 → mapD d mp sb b = some x → x.blk = mp := fun hb h => by subst hb; unfold mapD at h; simp at h; rw [← h]
      have hne : d ≠ mp := fun e => by rw [e, hm] at hd; cases hd
      rcases stD_get hk with ⟨hb2, _⟩ | ⟨hb2, _⟩ <;> rcases stD_get hkc with ⟨hc2, _⟩ | ⟨hc2, _⟩
      · exact absurd (hb2.trans hc2.symm) hbc
      · rw [e1 hb2 hb, e2 hc2 hc]; exact hne
      · rw [e2 hb2 hb, e1 hc2 hc]; exact hne.symm
      · exact absurd (hb2.trans hc2.symm) hbc
    wf := fun b hb => by
      cases hk : stD.mem.get b with
      | none => rfl
      | some k =>
        have : 5 ≤ b := hb
        rcases stD_get hk with ⟨h, _⟩ | ⟨h, _⟩ <;> omega }
def NilRet (w : World) (e : Ending) (w' : World) : Prop := e = .returned (.slice none 0 0) ∧ Below w.heap.size w w'
theorem queue_any {w : World} {d mp sb : Nat} {i0 i1 i2 i3 i4 : Int} (hw : 2 ≤ w.heap.size) (hd : w.heap[d]? = some (.cells #[.int .i64 i0, .int .i64 i1, .int .i64 i2, .int .i64 i3, .int .i64 i4, .pointer (some ⟨sb, 0, none⟩), .map (some mp)] 79))
    (hm : w.heap[mp]? = some (.map #[] 0)) (hs : sb < w.heap.size) : Calls Tryz.prog 10 #[.pointer (some ⟨d, 0, none⟩), .int .i64 0] w (NilRet w) := fun cs => by
  letI : OTab := tab0
  letI := valD i0 i1 i2 i3 i4
  obtain ⟨st', h1, hlow⟩ : ∃ st', @run tab0 Tryz.prog 10 [.pointer (some ⟨2, 0, none⟩), .int .i64 0] stD = some (.slice none 0 0, st') ∧ 5 ≤ st'.low := by
    have h := queue_run
    unfold okNil at h
    split at h
    · rename_i st' hr
      exact ⟨st', hr, Nat.le_of_ble_eq_true h⟩
    · cases h
  have hr := relD (i0 := i0) (i1 := i1) (i2 := i2) (i3 := i3) (i4 := i4) hw hd hm hs
  have ha : concL (mapD d mp sb) [.pointer (some ⟨2, 0, none⟩), .int .i64 0] = some [.pointer (some ⟨d, 0, none⟩), .int .i64 0] := by
    refine concL_cons' ?_ (concL_cons' (by rw [conc]) (concL_nil _))
    rw [conc]
    simp [mapD]
  obtain ⟨m', w', cv, s, hv', _, q⟩ := run_sound mix (fun r hr => by cases hr) h1 hr (fun b hb _ => by
    have hb' : 5 ≤ b := hb
    unfold mapD
    rw [if_neg (by omega), if_neg (by omega), if_neg (by omega), if_neg (by omega)]) ha
  have hv2 : some (Value.slice none 0 0) = some cv := by rw [← hv']; simp [conc]
  cases hv2
  have hc := s.chk 5 w (Nat.le_refl _) hlow ⟨fun b x k _ hk hb => (by rw [hr.wf b hb] at hk; cases hk), Nat.le_refl _, fun _ _ => rfl⟩
  obtain ⟨fr, q1, q2, q3⟩ := q cs
  exact ⟨.returned (.slice none 0 0), w', fr, ⟨rfl, ⟨s.os, s.tape, s.output, s.size, fun k hk => hc.2.2 k hk⟩⟩, q1, q2, q3⟩
end Go.Proofs.YtgaimkgaooiieaaGreatDoor
