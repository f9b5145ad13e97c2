/-
  For every said, hung and now, CalltakerAcknowledgements of samaritanlaw47 returns true, and the arguments read afterwards as they read before. The listed variable (deBruijn64tab of package bits) is tied to the program's text by the given card.
-/
import Derived.Test.YtnfmgkkhejminaaGreatDoorRows
import Derived.Test.YtnfmgkkhejminaaGreatDoorCards
import Derived.Test.YtnfmgkkhejminaaGreatDoorTie
import Derived.Test.YtnfmgkkhejminaaGreatDoorAwakeAckU
import Derived.Test.YtnfmgkkhejminaaGreatDoorAddAckFacts
import Derived.Test.YtnfmgkkhejminaaGreatDoorEvLift
import Derived.SevenTiedAt
namespace Go.Proofs.YtnfmgkkhejminaaGreatDoor
open Go Go.Ev Go.ChangeShapes Go.WideShapes Go.RowKit
set_option maxHeartbeats 100000000

theorem own : ownKnob Tryz.prog.godebug = none := by as_aux_lemma => kernel_rfl
theorem laidOut : laidOutB Tryz.prog = true := by as_aux_lemma => kernel_rfl
theorem g64 : Tryz.prog.globalNamed "math/bits.deBruijn64tab" = some 0 := by as_aux_lemma => kernel_rfl
def laid1 : List (String × DataW Unit) := [("math/bits.deBruijn64tab", Rows.laid_math_bits_deBruijn64tab)]
theorem door_met1 (os : Os) (args : Array Value) : laidMetH Tryz.prog laid1 ((World.doorLaid Tryz.prog 24 os).forCall (fun _ _ => 0) ⟨#[], args, []⟩).memory :=
  laidMetH_of_parts3 (fuel := 8) (laidMet_of_run' 8 (by as_aux_lemma => kernel_rfl) (by as_aux_lemma => kernel_rfl)) (by as_aux_lemma => kernel_rfl) (by as_aux_lemma => kernel_rfl)
theorem t64_of_laid {W : World} (h : laidMetH Tryz.prog laid1 W) : t64.In W := by
  rw [MakeChecks.laidMetH_plain _ _ _ (by as_aux_lemma => kernel_rfl)] at h
  exact tab_in_of_laid (rest := []) g64 (by as_aux_lemma => kernel_rfl) Tryz.underlying293 Tryz.underlying5 (by as_aux_lemma => kernel_rfl) (by as_aux_lemma => kernel_rfl) (by decide) h
theorem tab0_of_laid {W : World} (h : laidMetH Tryz.prog laid1 W) : Tab0 W := by
  rw [MakeChecks.laidMetH_plain _ _ _ (by as_aux_lemma => kernel_rfl)] at h
  exact tab_whole (rest := []) g64 (by as_aux_lemma => kernel_rfl) Tryz.underlying293 Tryz.underlying5 (by as_aux_lemma => kernel_rfl) (by as_aux_lemma => kernel_rfl) (by decide) h
theorem two {W : World} (h : W.ShapedOpen Tryz.prog) : 2 ≤ W.heap.size := size_of_shaped (g := 1) h (by rw [globs]; decide) (by as_aux_lemma => kernel_rfl)

set_option maxRecDepth 100000 in
theorem calltakerAcknowledgements_lifted (os : Os) (started : os.Started) (H : Type) (enc : TypeId × Value → H) :
    ReturnsInHanded {} Tryz.checked os 4 .any (fun w args => (Rows.calltakerAcknowledgementsSpec.pre enc Tryz.prog Tryz.f4 [] false w args ∧ laidMetH Tryz.prog laid1 w) ∧ sizedMet enc Tryz.prog Tryz.f4 (OpenSpec.ofChange Rows.calltakerAcknowledgementsSpec) false w args)
      (Rows.calltakerAcknowledgementsSpec.post enc Tryz.prog Tryz.f4 false true false false) := by
  refine lifted_true (C := Tryz.checked) (laid := laid1) (t := 4) own started (by as_aux_lemma => kernel_rfl) Tryz.func4
    (ChangeSpec.witness_shaped (enc := enc) (C := Tryz.checked) (os := os) (X := fun w _ => laidMetH Tryz.prog laid1 w) false (World.doorLaid Tryz.prog 24 os) #[.slice none 0 0, .bool false, .int .i64 0] 8 rfl (World.shaped_of_RefB (by as_aux_lemma => kernel_rfl) (by as_aux_lemma => kernel_rfl)) (by as_aux_lemma => kernel_rfl) (by as_aux_lemma => kernel_rfl) (by as_aux_lemma => kernel_rfl) (door_met1 os _))
    laidOut (by as_aux_lemma => kernel_rfl) rfl (by as_aux_lemma => kernel_rfl) Tryz.underlying4 (fun ds hd => ?_) ?_
  · have hd' : ds.length = 3 := hd
    match ds, hd' with
    | [d1, d2, d3], _ => rfl
  · intro W base args ds ps hval hA hwt hL hsh
    have hA' : DataW.TrodAll enc Tryz.prog W 0 (fun _ => true) true Tryz.f4.params.toList args.toList ds ps := hA
    have hval' : ∀ (j : Nat) t v, Tryz.f4.params[j]? = some t → args[j]? = some v → Value.okWide Tryz.prog W .any base t v := hval
    rw [Tryz.params4] at hA' hval'
    obtain ⟨v0, v1, v2, d0, d1, d2, p0, p1, p2, rfl, rfl, rfl, h0, h1, h2⟩ := trodAll_three hA'
    obtain ⟨b, rfl, rfl, _⟩ := open_bool Tryz.underlying4 (hval' 1 4 v1 rfl rfl) h1
    obtain ⟨z, rfl, rfl, _⟩ := open_int Tryz.underlying2 (hval' 2 2 v2 rfl rfl) h2
    have hw := two hsh
    have ht := t64_of_laid hL
    rcases open_said (tab0_of_laid hL) (hval' 0 22 v0 rfl rfl) h0 with rfl | ⟨g, off, cap, l, rfl, hS, hI⟩
    · exact law_none b z W hw ht
    · exact law_some g off cap l b z W hw ht hS hI

theorem calltakerAcknowledgements_said : Rows.CalltakerAcknowledgementsSaid :=
  OpenClaim.holds_of_wide 4 Tryz.f4 rfl rfl rfl rfl rfl rfl rfl ⟨rfl, rfl, rfl, rfl, rfl⟩ rfl rfl rfl rfl rfl (by as_aux_lemma => kernel_rfl) Tryz.func4 calltakerAcknowledgements_facts
    (of_decide_eq_true (by as_aux_lemma => kernel_rfl)) (by unfold Func.isWrapper; rw [if_neg (of_decide_eq_false (by as_aux_lemma => kernel_rfl))]; exact ⟨rfl, rfl⟩)
    (fun os started H enc _ => calltakerAcknowledgements_lifted os started H enc)

/-- the card -/
theorem calltakerAcknowledgements_holds : Rows.CalltakerAcknowledgementsCardSaid :=
  Claim7.holds_tied_plain_at .later [] [.data] true (true, "d8cb2dc334d00402d6053f5f39c069e4e0d23437b8f6f4fc8475e9d55c3d8f09") false
    calltakerAcknowledgements_said (fun _ h => by cases h) (by as_aux_lemma => kernel_rfl) (fun _ h => by cases h) calltakerAcknowledgements_row_tie rfl ⟨rfl, rfl⟩ (by as_aux_lemma => kernel_rfl) rfl
    (fun f fn hf hfn => by
      obtain rfl : f = 4 := Option.some.inj ((show Tryz.prog.funcNamed Rows.calltakerAcknowledgementsRow.func = some 4 by as_aux_lemma => kernel_rfl).symm.trans hf) |>.symm
      obtain rfl : fn = Tryz.f4 := (Option.some.inj (Tryz.func4.symm.trans hfn)).symm
      exact ⟨by as_aux_lemma => kernel_rfl, fun j t ht => by
        rw [Tryz.params4] at ht
        have hm : t ∈ [22, 4, 2] := by simpa using Array.mem_of_getElem? ht
        have hall : ([22, 4, 2].all fun u => !Tryz.prog.wantsStandIn u) = true := by as_aux_lemma => kernel_rfl
        exact (show Tryz.prog.wantsStandIn t = false by simpa using List.all_eq_true.1 hall t hm)⟩)
    (by as_aux_lemma => kernel_rfl)
#print axioms calltakerAcknowledgements_holds
end Go.Proofs.YtnfmgkkhejminaaGreatDoor
