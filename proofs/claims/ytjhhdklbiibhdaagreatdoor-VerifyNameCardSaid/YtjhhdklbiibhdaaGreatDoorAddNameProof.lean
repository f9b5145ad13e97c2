/-
  For every number kind, VerifyName of samaritanlaw53 returns true, and the argument reads afterwards as it read before. The listed variable (deBruijn64tab of package bits) is tied to the program's text by the given card.
-/
import Derived.Test.YtjhhdklbiibhdaaGreatDoorRows
import Derived.Test.YtjhhdklbiibhdaaGreatDoorCards
import Derived.Test.YtjhhdklbiibhdaaGreatDoorTie
import Derived.Test.YtjhhdklbiibhdaaGreatDoorAddName
import Derived.Test.YtjhhdklbiibhdaaGreatDoorAddNameFacts
import Derived.Test.YtjhhdklbiibhdaaGreatDoorEvLift
import Derived.SevenTiedAt
namespace Go.Proofs.YtjhhdklbiibhdaaGreatDoor
open Go Go.Ev Go.ChangeShapes Go.WideShapes Go.RowKit
set_option maxHeartbeats 100000000

theorem own : ownKnob Tryz.prog.godebug = none := by as_aux_lemma => kernel_rfl
theorem laidOut : laidOutB Tryz.prog = true := by as_aux_lemma => kernel_rfl
theorem g64 : Tryz.prog.globalNamed "math/bits.deBruijn64tab" = some 2 := by as_aux_lemma => kernel_rfl
def laid1 : List (String × DataW Unit) := [("math/bits.deBruijn64tab", Rows.laid_math_bits_deBruijn64tab)]
theorem door_met1 (os : Os) (args : Array Value) : laidMetH Tryz.prog laid1 ((World.doorLaid Tryz.prog 24 os).forCall (fun _ _ => 0) ⟨#[], args, []⟩).memory :=
  laidMetH_of_parts3 (fuel := 8) (laidMet_of_run' 8 (by as_aux_lemma => kernel_rfl) (by as_aux_lemma => kernel_rfl)) (by as_aux_lemma => kernel_rfl) (by as_aux_lemma => kernel_rfl)
theorem t64_of_laid {W : World} (h : laidMetH Tryz.prog laid1 W) : t64.In W := by
  rw [MakeChecks.laidMetH_plain _ _ _ (by as_aux_lemma => kernel_rfl)] at h
  exact tab_in_of_laid (rest := []) g64 (by as_aux_lemma => kernel_rfl) Tryz.underlying404 Tryz.underlying5 (by as_aux_lemma => kernel_rfl) (by as_aux_lemma => kernel_rfl) (by decide) h
theorem four {W : World} (h : W.ShapedOpen Tryz.prog) : 4 ≤ W.heap.size := size_of_shaped (g := 3) h (by rw [globs]; decide) (by as_aux_lemma => kernel_rfl)

set_option maxRecDepth 100000 in
theorem verifyName_lifted (os : Os) (started : os.Started) (H : Type) (enc : TypeId × Value → H) :
    ReturnsInHanded {} Tryz.checked os 6 .any (fun w args => (Rows.verifyNameSpec.pre enc Tryz.prog Tryz.f6 [] false w args ∧ laidMetH Tryz.prog laid1 w) ∧ sizedMet enc Tryz.prog Tryz.f6 (OpenSpec.ofChange Rows.verifyNameSpec) false w args)
      (Rows.verifyNameSpec.post enc Tryz.prog Tryz.f6 false true false false) := by
  refine lifted_true (C := Tryz.checked) (laid := laid1) (t := 4) own started (by as_aux_lemma => kernel_rfl) Tryz.func6
    (ChangeSpec.witness_shaped (enc := enc) (C := Tryz.checked) (os := os) (X := fun w _ => laidMetH Tryz.prog laid1 w) false (World.doorLaid Tryz.prog 24 os) #[.int .i64 0] 8 rfl (World.shaped_of_RefB (by as_aux_lemma => kernel_rfl) (by as_aux_lemma => kernel_rfl)) (by as_aux_lemma => kernel_rfl) (by as_aux_lemma => kernel_rfl) (by as_aux_lemma => kernel_rfl) (door_met1 os _))
    laidOut (by as_aux_lemma => kernel_rfl) rfl (by as_aux_lemma => kernel_rfl) Tryz.underlying4 (fun ds hd => ?_) ?_
  · have hd' : ds.length = 1 := hd
    match ds, hd' with
    | [d1], _ => rfl
  · intro W base args ds ps hval hA _ hL hsh
    have hA' : DataW.TrodAll enc Tryz.prog W 0 (fun _ => true) true Tryz.f6.params.toList args.toList ds ps := hA
    have hval' : ∀ (j : Nat) t v, Tryz.f6.params[j]? = some t → args[j]? = some v → Value.okWide Tryz.prog W .any base t v := hval
    rw [Tryz.params6] at hA' hval'
    obtain ⟨v0, d0, rfl, rfl, h0⟩ := trodAll_one hA'
    obtain ⟨n, rfl, rfl, rfl, _⟩ := open_int Tryz.underlying3 (hval' 0 3 v0 rfl rfl) h0
    exact (name_answers n W (four hsh) (t64_of_laid hL)).calls

theorem verifyName_said : Rows.VerifyNameSaid :=
  OpenClaim.holds_of_wide 6 Tryz.f6 rfl rfl rfl rfl rfl rfl rfl ⟨rfl, rfl, rfl, rfl, rfl⟩ rfl rfl rfl rfl rfl (by as_aux_lemma => kernel_rfl) Tryz.func6 verifyName_facts
    (of_decide_eq_true (by as_aux_lemma => kernel_rfl)) (by unfold Func.isWrapper; rw [if_neg (of_decide_eq_false (by as_aux_lemma => kernel_rfl))]; exact ⟨rfl, rfl⟩)
    (fun os started H enc _ => verifyName_lifted os started H enc)

/-- the card -/
theorem verifyName_holds : Rows.VerifyNameCardSaid :=
  Claim7.holds_tied_plain_at .later [] [.data] true (true, "1d1436db72fdef282e2e3360a73f29a88666de1cb9ce74d3713f967f9a77340d") false
    verifyName_said (fun _ h => by cases h) (by as_aux_lemma => kernel_rfl) (fun _ h => by cases h) verifyName_row_tie rfl ⟨rfl, rfl⟩ (by as_aux_lemma => kernel_rfl) rfl
    (fun f fn hf hfn => by
      obtain rfl : f = 6 := Option.some.inj ((show Tryz.prog.funcNamed Rows.verifyNameRow.func = some 6 by as_aux_lemma => kernel_rfl).symm.trans hf) |>.symm
      obtain rfl : fn = Tryz.f6 := (Option.some.inj (Tryz.func6.symm.trans hfn)).symm
      exact ⟨by as_aux_lemma => kernel_rfl, fun j t ht => by
        rw [Tryz.params6] at ht
        have hm : t ∈ [3] := by simpa using Array.mem_of_getElem? ht
        have hall : ([3].all fun u => !Tryz.prog.wantsStandIn u) = true := by as_aux_lemma => kernel_rfl
        exact (show Tryz.prog.wantsStandIn t = false by simpa using List.all_eq_true.1 hall t hm)⟩)
    (by as_aux_lemma => kernel_rfl)
#print axioms verifyName_holds
end Go.Proofs.YtjhhdklbiibhdaaGreatDoor
