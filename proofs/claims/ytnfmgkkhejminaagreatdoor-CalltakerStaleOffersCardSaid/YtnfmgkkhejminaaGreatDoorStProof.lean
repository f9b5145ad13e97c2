/-
  For every said, sources and k, CalltakerStaleOffers of samaritanlaw47 returns true, and the arguments read afterwards as they read before. The listed variable (deBruijn64tab of package bits) is tied to the program's text by the given card.
-/
import Derived.Test.YtnfmgkkhejminaaGreatDoorRows
import Derived.Test.YtnfmgkkhejminaaGreatDoorCards
import Derived.Test.YtnfmgkkhejminaaGreatDoorTie
import Derived.Test.YtnfmgkkhejminaaGreatDoorStStaW
import Derived.Test.YtnfmgkkhejminaaGreatDoorStFacts
import Derived.Test.YtnfmgkkhejminaaGreatDoorStEvCall
import Derived.SevenTiedAt
namespace Go.Proofs.YtnfmgkkhejminaaGreatDoor
open Go Go.Ev Go.ChangeShapes Go.WideShapes Go.RowKit
set_option maxHeartbeats 100000000

theorem own : ownKnob Tryz.prog.godebug = none := by as_aux_lemma => kernel_rfl
theorem laidOut : laidOutB Tryz.prog = true := by as_aux_lemma => kernel_rfl
theorem g64 : Tryz.prog.globalNamed "math/bits.deBruijn64tab" = some 0 := by as_aux_lemma => kernel_rfl
def laid1 : List (String × DataW Unit) := [("math/bits.deBruijn64tab", Rows.laid_math_bits_deBruijn64tab)]
theorem door_met1 (os : Os) (args : Array Value) : laidMetH Tryz.prog laid1 ((World.doorLaid Tryz.prog 24 os).forCall (fun _ _ => 0) ⟨#[], args, []⟩).memory :=
  laidMetH_of_parts3 (fuel := 8) (laidMet_of_run' 8 (by as_aux_lemma => kernel_rfl) (by as_aux_lemma => kernel_rfl)) (by as_aux_lemma => kernel_rfl) (by as_aux_lemma => kernel_rfl)
theorem t64_of_laid {W : World} (h : laidMetH Tryz.prog laid1 W) : t64.In W := by
  rw [MakeChecks.laidMetH_plain _ _ _ (by as_aux_lemma => kernel_rfl)] at h
  exact tab_in_of_laid (rest := []) g64 (by as_aux_lemma => kernel_rfl) Tryz.underlying293 Tryz.underlying5 (by as_aux_lemma => kernel_rfl) (by as_aux_lemma => kernel_rfl) (by decide) h
theorem tab0_of_laid {W : World} (h : laidMetH Tryz.prog laid1 W) : Tab0 W := by
  rw [MakeChecks.laidMetH_plain _ _ _ (by as_aux_lemma => kernel_rfl)] at h
  exact tab_whole (rest := []) g64 (by as_aux_lemma => kernel_rfl) Tryz.underlying293 Tryz.underlying5 (by as_aux_lemma => kernel_rfl) (by as_aux_lemma => kernel_rfl) (by decide) h
theorem two {W : World} (h : W.ShapedOpen Tryz.prog) : 2 ≤ W.heap.size := size_of_shaped (g := 1) h (by rw [globs]; decide) (by as_aux_lemma => kernel_rfl)

set_option maxRecDepth 100000 in
theorem calltakerStaleOffers_lifted (os : Os) (started : os.Started) (H : Type) (enc : TypeId × Value → H) :
    ReturnsInHanded {} Tryz.checked os 3 .any (fun w args => (Rows.calltakerStaleOffersSpec.pre enc Tryz.prog Tryz.f3 [] false w args ∧ laidMetH Tryz.prog laid1 w) ∧ sizedMet enc Tryz.prog Tryz.f3 (OpenSpec.ofChange Rows.calltakerStaleOffersSpec) false w args)
      (Rows.calltakerStaleOffersSpec.post enc Tryz.prog Tryz.f3 false true false false) := by
  refine lifted_true (C := Tryz.checked) (laid := laid1) (t := 4) own started (by as_aux_lemma => kernel_rfl) Tryz.func3
    (ChangeSpec.witness_shaped (enc := enc) (C := Tryz.checked) (os := os) (X := fun w _ => laidMetH Tryz.prog laid1 w) false (World.doorLaid Tryz.prog 24 os) #[.slice none 0 0, .slice none 0 0, .int .u8 0] 8 rfl (World.shaped_of_RefB (by as_aux_lemma => kernel_rfl) (by as_aux_lemma => kernel_rfl)) (by as_aux_lemma => kernel_rfl) (by as_aux_lemma => kernel_rfl) (by as_aux_lemma => kernel_rfl) (door_met1 os _))
    laidOut (by as_aux_lemma => kernel_rfl) rfl (by as_aux_lemma => kernel_rfl) Tryz.underlying4 (fun ds hd => ?_) ?_
  · have hd' : ds.length = 3 := hd
    match ds, hd' with
    | [d1, d2, d3], _ => rfl
  · intro W base args ds ps hval hA hwt hL hsh
    have hA' : DataW.TrodAll enc Tryz.prog W 0 (fun _ => true) true Tryz.f3.params.toList args.toList ds ps := hA
    have hval' : ∀ (j : Nat) t v, Tryz.f3.params[j]? = some t → args[j]? = some v → Value.okWide Tryz.prog W .any base t v := hval
    rw [Tryz.params3] at hA' hval'
    obtain ⟨v0, v1, v2, d0, d1, d2, p0, p1, p2, rfl, rfl, rfl, h0, h1, h2⟩ := trodAll_three hA'
    obtain ⟨z, rfl, rfl, hz⟩ := open_int Tryz.underlying5 (hval' 2 5 v2 rfl rfl) h2
    have hw := two hsh
    have ht := t64_of_laid hL
    have hu := tabU8_of (tab0_of_laid hL)
    have hwt' : (DataW.weightsEach Tryz.prog (Tryz.f3.params.toList ++ Rows.calltakerStaleOffersSpec.plain.varTypes Tryz.prog) ([d0, d1, .lit (.int .u8 z)] ++ [])).all (· ≤ reachBytes) = true := hwt
    rw [Tryz.params3] at hwt'
    obtain ⟨A, c, L, rfl, hS2, hL1, hL2⟩ := open_srcs (hval' 1 23 v1 rfl rfl) h1 (fun m hm => by simpa using List.all_eq_true.1 hwt' m (DataW.weights_mem_each (j := 1) (t := 23) (d := d1) rfl rfl m hm))
    have hz' := hz.2
    simp [Lit.wf, IntKind.min, IntKind.max, IntKind.signed, IntKind.bits] at hz'
    rcases open_said (tab0_of_laid hL) (hval' 0 22 v0 rfl rfl) h0 with rfl | ⟨g, off, cap, l, rfl, hS, hI⟩
    · exact law3_none hw ht hu hS2 hL1 hL2 (by omega) (by omega)
    · exact law3_some g off cap l hw ht hu hS hI hS2 hL1 hL2 (by omega) (by omega)

theorem calltakerStaleOffers_said : Rows.CalltakerStaleOffersSaid :=
  OpenClaim.holds_of_wide 3 Tryz.f3 rfl rfl rfl rfl rfl rfl rfl ⟨rfl, rfl, rfl, rfl, rfl⟩ rfl rfl rfl rfl rfl (by as_aux_lemma => kernel_rfl) Tryz.func3 calltakerStaleOffers_facts
    (of_decide_eq_true (by as_aux_lemma => kernel_rfl)) (by unfold Func.isWrapper; rw [if_neg (of_decide_eq_false (by as_aux_lemma => kernel_rfl))]; exact ⟨rfl, rfl⟩)
    (fun os started H enc _ => calltakerStaleOffers_lifted os started H enc)

/-- the card -/
theorem calltakerStaleOffers_holds : Rows.CalltakerStaleOffersCardSaid :=
  Claim7.holds_tied_plain_at .later [] [.data] true (true, "d8cb2dc334d00402d6053f5f39c069e4e0d23437b8f6f4fc8475e9d55c3d8f09") false
    calltakerStaleOffers_said (fun _ h => by cases h) (by as_aux_lemma => kernel_rfl) (fun _ h => by cases h) calltakerStaleOffers_row_tie rfl ⟨rfl, rfl⟩ (by as_aux_lemma => kernel_rfl) rfl
    (fun f fn hf hfn => by
      obtain rfl : f = 3 := Option.some.inj ((show Tryz.prog.funcNamed Rows.calltakerStaleOffersRow.func = some 3 by as_aux_lemma => kernel_rfl).symm.trans hf) |>.symm
      obtain rfl : fn = Tryz.f3 := (Option.some.inj (Tryz.func3.symm.trans hfn)).symm
      exact ⟨by as_aux_lemma => kernel_rfl, fun j t ht => by
        rw [Tryz.params3] at ht
        have hm : t ∈ [22, 23, 5] := by simpa using Array.mem_of_getElem? ht
        have hall : ([22, 23, 5].all fun u => !Tryz.prog.wantsStandIn u) = true := by as_aux_lemma => kernel_rfl
        exact (show Tryz.prog.wantsStandIn t = false by simpa using List.all_eq_true.1 hall t hm)⟩)
    (by as_aux_lemma => kernel_rfl)
#print axioms calltakerStaleOffers_holds
end Go.Proofs.YtnfmgkkhejminaaGreatDoor
