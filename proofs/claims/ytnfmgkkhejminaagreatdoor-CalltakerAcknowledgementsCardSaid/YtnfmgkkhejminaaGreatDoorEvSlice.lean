/-
  A part of the proof that the evaluator answers what the model answers, for every program that follows mixed orders; no other condition.
-/
import Derived.Test.YtnfmgkkhejminaaGreatDoorEvMaps
namespace Go.Ev
set_option linter.unusedSectionVars false
variable [OTab] [OVal]
variable {P : Program} {m : Map} {ρ : Operand → Value} {o : Oper} {v : Value} {st : St} {w : World}

/-- the capacity of a slice on the other side -/
def capC (x : M) (off code : Nat) : Nat := if code % 2 = 1 then code / 2 else (x.lim - off) / (code / 2)

theorem conc_slice {a : Addr} {len code : Nat} {c : Value} (hs : a.spot.isNone = true) (h : conc m (.slice (some a) len code) = some c) : ∃ x, m a.block = some x ∧ a = ⟨a.block, a.off, none⟩ ∧ c = .slice (some ⟨x.blk, x.sh + a.off, none⟩) len (capC x a.off code) := by
  obtain ⟨b, off, s⟩ := a
  cases s with
  | some s => cases hs
  | none =>
    simp only [conc, Option.map_eq_some_iff] at h
    obtain ⟨x, hx, rfl⟩ := h
    exact ⟨x, hx, rfl, rfl⟩
/-- a slice that begins at the known end of its block -/
theorem conc_sliceEnd {b off back len code : Nat} {c : Value} (h : conc m (.slice (some ⟨b, off, some back⟩) len code) = some c) : len = 0 ∧ code % 2 = 0 ∧ ∃ x, m b = some x ∧
    c = .slice (some ⟨x.blk, x.sh + (if capC x off code = 0 then off - back else off), none⟩) 0 (capC x off code) := by
  cases len with
  | succ len => simp [conc] at h
  | zero =>
    simp only [conc] at h
    split at h
    · cases h
    · rename_i hc
      simp only [Option.map_eq_some_iff] at h
      obtain ⟨x, hx, e⟩ := h
      refine ⟨rfl, by omega, x, hx, ?_⟩
      unfold capC
      rw [if_neg hc]
      split at e
      · rename_i h0; rw [if_pos h0, h0]; exact e.symm
      · rename_i h0; rw [if_neg h0]; exact e.symm
theorem conc_slice' {b off len code : Nat} {x : M} (h : m b = some x) : conc m (.slice (some ⟨b, off, none⟩) len code) = some (.slice (some ⟨x.blk, x.sh + off, none⟩) len (capC x off code)) := by
  simp [conc, h, capC]

/-- what is known of the capacity is no more than it is -/
theorem capOf_some (h : Rel P m st w) {a : Addr} {code cap : Nat} {x : M} (hx : m a.block = some x) (hc : capOf st a code = some cap) : cap ≤ capC x a.off code ∧ (code % 2 = 1 → cap = capC x a.off code) := by
  unfold capOf at hc
  unfold capC
  split at hc
  · rename_i h1
    cases hc
    rw [if_pos h1]
    exact ⟨Nat.le_refl _, fun _ => rfl⟩
  · rename_i h1
    rw [if_neg h1]
    split at hc
    · cases hc
    · obtain ⟨n, c, hk, h2⟩ := cellsAt_some hc
      cases h2
      obtain ⟨_, _, _, _, _, _, g3, _⟩ := rel_cells h hx hk
      exact ⟨Nat.div_le_div_right (by omega), fun e => absurd e h1⟩

theorem stride_some {e : TypeId} {code size : Nat} (h : strideOk P e code = true) (hs : sz P e = some size) : code % 2 = 1 ∨ (code % 2 = 0 ∧ code = 2 * size) := by
  unfold strideOk at h
  rw [Bool.or_eq_true] at h
  rcases h with h | h
  · exact .inl (by simpa using h)
  · rw [hs] at h
    have : size = code / 2 := by simpa using h
    rcases Nat.mod_two_eq_zero_or_one code with e | e
    · exact .inr ⟨e, by omega⟩
    · exact .inl e

theorem sound_slice (h : Rel P m st w) {A : T Value} {t : TypeId} {x : Operand} {lo hi mx : Option Operand} {u : Value} (ho : o.op = .slice t x lo hi mx) (hx : conc m u = some (ρ x))
    (hlo : ∀ y, lo = some y → conc m (ev A y) = some (ρ y)) (hhi : ∀ y, hi = some y → conc m (ev A y) = some (ρ y)) (hmx : ∀ y, mx = some y → conc m (ev A y) = some (ρ y))
    (hs : sliceV P st t u (lo.map (ev A)) (hi.map (ev A)) (mx.map (ev A)) = some v) : ∃ cv, conc m v = some cv ∧ (execOp ρ o).run P w = .ok (.value cv) w := by
  unfold sliceV at hs
  obtain ⟨la, h1, s1⟩ := ob_some hs
  obtain ⟨ha, h2, s2⟩ := ob_some s1
  obtain ⟨ma, h3, s3⟩ := ob_some s2
  clear hs s1 s2
  have rlo := optInt_rel hlo h1
  have rhi := optInt_rel hhi h2
  have rmx := optInt_rel hmx h3
  have hms : ma.isSome = (mx.map ρ).isSome := by
    cases ma <;> cases hq : mx.map ρ <;> simp_all [OptRel]
  split at s3
  · -- a slice
    rename_i e a len code hu
    obtain ⟨hst, s4⟩ := gd_some s3
    obtain ⟨size, hsz, s5⟩ := ob_some s4
    obtain ⟨cap, hcap, s6⟩ := ob_some s5
    obtain ⟨r, hr, s7⟩ := ob_some s6
    clear s3 s4 s5 s6
    rw [Bool.and_eq_true] at hst
    obtain ⟨hsp, hst⟩ := hst
    obtain ⟨y, hy, ea, ex⟩ := conc_slice hsp hx
    obtain ⟨hc1, hc2⟩ := capOf_some h hy hcap
    unfold sliceAtV at s7
    obtain ⟨r1, r2, r3⟩ := r
    obtain ⟨b, off, sp⟩ := a
    cases ea
    simp only at hy ex hc1 hc2 s7
    -- the bounds on the other side: its capacity may be greater
    have hrun : ∃ r3', (Instr.sliceBounds true len (capC y off code) (lo.map ρ) (hi.map ρ) (mx.map ρ)).run P w = .ok (r1, r2, r3') w ∧ ((ma.isSome = true ∨ code % 2 = 1) → r3' = r3) ∧ (ma.isSome = false → r3 = cap ∧ r3' = capC y off code) := by
      by_cases hex : ma.isSome = true ∨ code % 2 = 1
      · have hb : boundsOf len (capC y off code) la ha ma = some (r1, r2, r3) := by
          rcases hex with hex | hex
          · cases ma with
            | none => cases hex
            | some q =>
              unfold boundsOf at hr ⊢
              obtain ⟨m', q1, q2⟩ := ob_some hr
              have : boundsM (capC y off code) (some q) = some m' := by
                simp only [boundsM, bound1] at q1 ⊢
                split at q1
                · cases q1
                · rename_i hq0
                  split at q1
                  · rename_i hq1
                    cases q1
                    rw [if_neg hq0, if_pos]
                    exact Nat.ble_eq_true_of_le (Nat.le_trans (Nat.le_of_ble_eq_true hq1) hc1)
                  · cases q1
              rw [this]
              exact q2
          · rw [← hc2 hex]; exact hr
        refine ⟨r3, bounds_run hb rlo rhi rmx w, fun _ => rfl, fun hn => ?_⟩
        cases ma with
        | some q => cases hn
        | none =>
          rcases hex with hex | hex
          · cases hex
          · unfold boundsOf at hr
            obtain ⟨m', q1, q2⟩ := ob_some hr
            simp [boundsM] at q1
            subst q1
            obtain ⟨h', q3, q4⟩ := ob_some q2
            obtain ⟨l', q5, q6⟩ := ob_some q4
            cases q6
            exact ⟨rfl, hc2 hex⟩
      · have hn : ma = none := by cases ma with | none => rfl | some q => exact absurd (Or.inl rfl) hex
        subst hn
        unfold boundsOf at hr
        obtain ⟨m', q1, q2⟩ := ob_some hr
        simp [boundsM] at q1
        subst q1
        obtain ⟨h', q3, q4⟩ := ob_some q2
        obtain ⟨l', q5, q6⟩ := ob_some q4
        cases q6
        have hb : boundsOf len (capC y off code) la ha none = some (r1, r2, capC y off code) := by
          unfold boundsOf
          simp only [boundsM]
          show (ob (boundsH len (capC y off code) ha none) fun h => ob (boundsL h la) fun l => some (l, h, capC y off code)) = _
          have : boundsH len (capC y off code) ha none = some r2 := by
            cases ha with
            | none => exact q3
            | some q =>
              simp only [boundsH, bound1] at q3 ⊢
              split at q3
              · cases q3
              · rename_i hq0
                split at q3
                · rename_i hq1
                  cases q3
                  rw [if_neg hq0, if_pos]
                  exact Nat.ble_eq_true_of_le (Nat.le_trans (Nat.le_of_ble_eq_true hq1) hc1)
                · cases q3
          rw [this]
          show (ob (boundsL r2 la) fun l => some (l, r2, capC y off code)) = _
          rw [q5]
          rfl
        exact ⟨capC y off code, bounds_run hb rlo rhi rmx w, fun hh => absurd hh hex, fun _ => ⟨rfl, rfl⟩⟩
    obtain ⟨r3', hrun, hr3, hr3n⟩ := hrun
    have hexec : (execOp ρ o).run P w = .ok (.value (.slice (some (if r3' = r1 then ⟨y.blk, y.sh + off, none⟩ else ⟨y.blk, y.sh + off + r1 * size, none⟩)) (r2 - r1) (r3' - r1))) w := by
      simp only [execOp, ho, Instr.sliceAt, Sem.run_bind, run_underlying hu, Result.andThen_ok, Instr.slice, ex, hrun, run_sz hsz]
      by_cases hq : r3' = r1
      · simp [hq]
      · simp [hq, add_eq]
    split at s7
    · -- its capacity is known
      rename_i hex
      have hex' : ma.isSome = true ∨ code % 2 = 1 := by simpa using hex
      cases s7
      have e3 := hr3 hex'
      subst e3
      refine ⟨_, ?_, hexec⟩
      unfold addrAt
      have g1 : (2 * (r3' - r1) + 1) % 2 = 1 := by omega
      have g2 : (2 * (r3' - r1) + 1) / 2 = r3' - r1 := by omega
      by_cases hq : r3' = r1
      · have hq' : (r3' == r1) = true := by simp [hq]
        rw [if_pos hq', if_pos hq, conc_slice' hy]
        simp [capC, g1, g2]
      · have hq' : ¬ ((r3' == r1) = true) := by simp [hq]
        rw [if_neg hq', if_neg hq, add_eq, conc_slice' hy]
        simp [capC, g1, g2, Nat.add_assoc]
    · rename_i hex
      simp only [Bool.or_eq_true, not_or] at hex
      have hn : ma.isSome = false := by simpa using hex.1
      have hev : code % 2 ≠ 1 := by simpa using hex.2
      obtain ⟨e1, e2⟩ := hr3n hn
      rcases stride_some hst hsz with hodd | ⟨h0, hcode⟩
      · exact absurd hodd hev
      have hsz0 : 0 < size := by
        rcases Nat.eq_zero_or_pos size with e | e
        · subst e
          unfold capOf at hcap
          rw [if_neg hev, if_pos (by omega)] at hcap
          cases hcap
        · exact e
      have hcap' : capC y off code = (y.lim - off) / size := by unfold capC; rw [if_neg hev, hcode]; congr 1; omega
      split at s7
      · -- it still reaches into what is known
        rename_i hlt
        cases s7
        have hne : r3' = r1 → r1 = 0 := fun e => by
          simp only [Bool.or_eq_true, decide_eq_true_eq] at hlt
          rcases hlt with hlt | hlt
          · omega
          · exact hlt
        refine ⟨_, ?_, hexec⟩
        rw [add_eq, conc_slice' hy]
        have hcc : capC y (off + r1 * size) code = r3' - r1 := by
          unfold capC
          rw [if_neg hev, hcode, e2, hcap', show 2 * size / 2 = size from by omega, Nat.sub_add_eq]
          rw [Nat.mul_comm r1 size]
          exact Nat.sub_mul_div _ _ _
        rw [hcc]
        by_cases hq : r3' = r1
        · have := hne hq
          rw [if_pos hq, this]
          simp
        · rw [if_neg hq]
          simp [Nat.add_assoc]
      · -- it begins at the known end
        rename_i hlt
        obtain ⟨hbb, s9⟩ := gd_some s7
        cases s9
        rw [Bool.and_eq_true] at hbb
        have hr1 : r1 = cap := Nat.eq_of_beq_eq_true hbb.1
        have hr2 : r2 = cap := Nat.eq_of_beq_eq_true hbb.2
        refine ⟨_, ?_, hexec⟩
        have hcc : (y.lim - (off + r1 * size)) / (code / 2) = r3' - r1 := by
          rw [e2, hcap', hcode, show 2 * size / 2 = size from by omega, Nat.sub_add_eq, Nat.mul_comm r1 size]
          exact Nat.sub_mul_div _ _ _
        have hle : r1 ≤ r3' := by omega
        simp only [conc, if_neg hev, hy, Option.map_some, hcc]
        have hsub : r2 - r1 = 0 := by omega
        rw [hsub]
        by_cases hq : r3' = r1
        · rw [if_pos (by omega), if_pos hq, hq]
          simp
        · rw [if_neg (by omega), if_neg hq]
          simp [Nat.add_assoc]
  · -- nil
    rename_i e hu
    obtain ⟨size, hsz, s4⟩ := ob_some s3
    obtain ⟨r, hr, s5⟩ := ob_some s4
    cases s5
    have ex : ρ x = .slice none 0 0 := by simpa [conc] using hx.symm
    have hb := bounds_run (P := P) (b := true) hr rlo rhi rmx w
    obtain ⟨q1, q2, q3⟩ := bounds_le hr (Nat.le_refl 0)
    obtain ⟨r1, r2, r3⟩ := r
    simp only at q1 q2 q3
    refine ⟨.slice none 0 0, by simp [conc], ?_⟩
    have e1 : r1 = 0 := by omega
    have e2 : r2 = 0 := by omega
    have e3 : r3 = 0 := by omega
    subst e1 e2 e3
    simp [execOp, ho, Instr.sliceAt, Instr.slice, run_underlying hu, ex, hb, run_sz hsz]
  · -- an array behind a pointer
    rename_i n e a hu
    obtain ⟨size, hsz, s4⟩ := ob_some s3
    obtain ⟨r, hr, s5⟩ := ob_some s4
    cases s5
    obtain ⟨y, hy, hsp, ex⟩ := conc_pointer hx
    obtain ⟨b, off, sp⟩ := a
    simp only at hsp
    subst hsp
    have hb := bounds_run (P := P) (b := false) hr rlo rhi rmx w
    obtain ⟨r1, r2, r3⟩ := r
    refine ⟨.slice (some (if r3 = r1 then ⟨y.blk, y.sh + off, none⟩ else ⟨y.blk, y.sh + off + r1 * size, none⟩)) (r2 - r1) (r3 - r1), ?_, ?_⟩
    · unfold addrAt
      have g1 : (2 * (r3 - r1) + 1) % 2 = 1 := by omega
      have g2 : (2 * (r3 - r1) + 1) / 2 = r3 - r1 := by omega
      by_cases hq : r3 = r1
      · have hq' : (r3 == r1) = true := by simp [hq]
        simp only
        rw [if_pos hq', if_pos hq, conc_slice' hy]
        simp [capC, g1, g2]
      · have hq' : ¬ ((r3 == r1) = true) := by simp [hq]
        simp only
        rw [if_neg hq', if_neg hq, add_eq, conc_slice' hy]
        simp [capC, g1, g2, Nat.add_assoc]
    · simp only [execOp, ho, Instr.sliceAt, Sem.run_bind, run_underlying hu, Result.andThen_ok, ex, Instr.sureAddr, run_sz hsz]
      by_cases hq : r3 = r1
      · simp [hq, hb]
      · simp [hq, add_eq, hb]
  · cases s3

/-- EVERY OPERATION OF CLASS 2 -/
theorem read_sound (h : Rel P m st w) {A : T Value} (hcls : cls P o.op = 2) (hops : ∀ x ∈ o.op.operands.toList, conc m (ev A x) = some (ρ x)) (he : evRead o.op P A st = some v) :
    ∃ cv, conc m v = some cv ∧ (execOp ρ o).run P w = .ok (.value cv) w := by
  have hh : ∀ op, o.op = op → cls P op = 2 → (∀ x ∈ op.operands.toList, conc m (ev A x) = some (ρ x)) → evRead op P A st = some v → ∃ cv, conc m v = some cv ∧ (execOp ρ o).run P w = .ok (.value cv) w := by
    intro op ho hcls hops he
    cases op with
    | load t a => exact sound_load h ho (hops a (by simp [Op.operands])) he
    | lookup t x k ok => exact sound_lookup h ho (hops x (by simp [Op.operands])) (hops k (by simp [Op.operands])) he
    | slice t x lo hi mx => exact sound_slice h ho (hops x (by simp [Op.operands])) (fun y hy => hops y (by simp [Op.operands, hy])) (fun y hy => hops y (by simp [Op.operands, hy])) (fun y hy => hops y (by simp [Op.operands, hy])) he
    | entry it => exact sound_entry h ho (hops it (by simp [Op.operands])) he
    | convert s d x => exact sound_toStr h ho (hops x (by simp [Op.operands])) he
    | call c =>
      have hc : clsC P c = 2 := hcls
      unfold clsC at hc
      split at hc
      · rename_i hcl
        exact sound_lenMap h ho hcl (fun x hx => hops x (by simp [Op.operands, Call.operands] at hx ⊢; exact .inr hx)) he
      all_goals omega
    | _ => cases he
  exact hh o.op rfl hcls hops he
end Go.Ev
