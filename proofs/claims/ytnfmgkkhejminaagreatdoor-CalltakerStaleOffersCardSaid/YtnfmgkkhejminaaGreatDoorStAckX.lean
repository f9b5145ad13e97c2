/-
  Runs of the verified evaluator: the fixed example wakes answers true; what start makes.
-/
import Derived.Test.YtnfmgkkhejminaaGreatDoorStAckQ
import Derived.Test.YtnfmgkkhejminaaGreatDoorStEvCall
namespace Go.Proofs.YtnfmgkkhejminaaGreatDoor
open Go Go.Ev
theorem good47_ok : Ev.Good Tryz.prog good47 := @good_of tab0 _ _ (by kernel_rfl)
theorem wakes_runF : okTrue 2 (@runF tab0 Tryz.prog good47 5 [] (stT 2 [t64])) = true := by kernel_rfl
end Go.Proofs.YtnfmgkkhejminaaGreatDoor

namespace Go.Proofs.YtnfmgkkhejminaaGreatDoor
open Go Go.RowKit Go.Ev
theorem mix : Tryz.prog.follows .mixedOrders = true := by kernel_rfl
theorem globs : Tryz.prog.globals.size = 2 := by kernel_rfl
theorem t64_lt : ∀ t ∈ [t64], t.g < 2 := fun t ht => by
  obtain rfl := List.mem_singleton.1 ht
  exact (by decide : (0 : Nat) < 2)
noncomputable def okStart [OTab] (r : Option (Value × St)) : Bool :=
  match r with
  | some (.tuple ⟨[.pointer (some ⟨b, o, none⟩), .pointer (some ⟨_, _, none⟩), .bool true]⟩, st) => Nat.ble 2 st.low && (match load1 st ⟨b, Nat.succ o, none⟩ with
    | some (.int .i64 z) => eqI z 3
    | _ => false)
  | _ => false
theorem start_runF : @okStart tab0 (@runF tab0 Tryz.prog good47 7 [] (stT 2 [t64])) = true := by kernel_rfl
end Go.Proofs.YtnfmgkkhejminaaGreatDoor

namespace Go.Proofs.YtnfmgkkhejminaaGreatDoor
open Go Go.RowKit Go.Ev
theorem wakes_run : okTrue 2 (@run tab0 Tryz.prog 5 [] (stT 2 [t64])) = true := by
  have h := wakes_runF
  rw [@runF_eq tab0 Tryz.prog good47 good47_ok] at h
  exact h
/-- the rule for later runs -/
theorem wakes_rule (val : Nat → Value) : CRule.Holds Tryz.prog val ⟨5, [], [t64], .bool true⟩ := rule_of_run mix globs t64_lt wakes_run val
theorem wakes_calls {w : World} (hw : 2 ≤ w.heap.size) (hT : t64.In w) : Calls Tryz.prog 5 #[] w fun e w' => e = .returned (.bool true) ∧ Below w.heap.size w w' :=
  (@answers_of_run Tryz.prog tab0 val0 mix (ok0 Tryz.prog) 5 [] [] 2 [t64] (Nat.le_of_eq globs) t64_lt wakes_run (fun m => by simp) w hw (fun t ht => by obtain rfl := List.mem_singleton.1 ht; exact hT) ⟨fun B h => h.elim, fun _ _ h => h⟩).calls

theorem start_calls {w : World} (hw : 2 ≤ w.heap.size) (hT : t64.In w) : Calls Tryz.prog 7 #[] w fun e w' => ∃ d o x o', e = .returned (.tuple #[.pointer (some ⟨d, o, none⟩), .pointer (some ⟨x, o', none⟩), .bool true]) ∧ d < w'.heap.size ∧ w'.cell? ⟨d, o + 1, none⟩ = some (.int .i64 3) ∧ Below w.heap.size w w' := by
  letI : OTab := tab0
  letI : OVal := val0
  have h := start_runF
  rw [@runF_eq tab0 Tryz.prog good47 good47_ok] at h
  unfold okStart at h
  split at h
  · rename_i b o c o2 st hr
    rw [Bool.and_eq_true] at h
    obtain ⟨hlow, h3⟩ := h
    have hlow := Nat.le_of_ble_eq_true hlow
    have hrel := rel_tabs (P := Tryz.prog) (Nat.le_of_eq globs) hw t64_lt (fun t ht => by obtain rfl := List.mem_singleton.1 ht; exact hT) ⟨fun B h => h.elim, fun _ _ h => h⟩
    intro cs
    obtain ⟨m', w', cv, s, hv, _, q⟩ := run_sound cs mix (ok0 Tryz.prog) hr hrel (fun b hb _ => if_neg (by have : 2 ≤ b := hb; omega)) (concL_nil _)
    have hc := s.chk 2 w (Nat.le_refl _) hlow ⟨fun b x k _ hk hb => (by rw [hrel.wf b hb] at hk; cases hk), Nat.le_refl _, fun _ _ => rfl⟩
    split at h3
    · rename_i z hl
      have hz : z = 3 := by rw [eqI_eq] at h3; simpa using h3
      subst hz
      rw [show Value.tuple ⟨[Value.pointer (some ⟨b, o, none⟩), Value.pointer (some ⟨c, o2, none⟩), Value.bool true]⟩ = Value.tuple ⟨[Value.pointer (some ⟨b, o, none⟩), Value.pointer (some ⟨c, o2, none⟩), Value.bool true]⟩ from rfl] at hv
      simp only [conc] at hv
      obtain ⟨cvs, h1, rfl⟩ := Option.map_eq_some_iff.1 hv
      obtain ⟨v1, r1, k1, k2, rfl⟩ := concL_cons h1
      obtain ⟨v2, r2, k3, k4, rfl⟩ := concL_cons k2
      obtain ⟨v3, r3, k5, k6, rfl⟩ := concL_cons k4
      have hr3 : r3 = [] := by simpa using k6.symm
      subst hr3
      obtain ⟨x, hx, _, rfl⟩ := conc_pointer k1
      obtain ⟨y, hy, _, rfl⟩ := conc_pointer k3
      have hv3 : v3 = .bool true := by simpa [conc] using k5.symm
      subst hv3
      obtain ⟨cv, hcv, hcell⟩ := load1_sound s.rel (a := ⟨b, Nat.succ o, none⟩) hx hl
      have hcv' : cv = .int .i64 3 := by simpa [conc] using hcv.symm
      subst hcv'
      obtain ⟨fr, q1, q2, q3⟩ := q
      exact ⟨_, w', fr, ⟨x.blk, x.sh + o, y.blk, y.sh + o2, rfl, s.rel.inb _ _ hx, hcell, ⟨s.os, s.tape, s.output, s.size, fun k hk => hc.2.2 k hk⟩⟩, q1, q2, q3⟩
    · cases h3
  · cases h
end Go.Proofs.YtnfmgkkhejminaaGreatDoor
