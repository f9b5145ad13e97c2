/-
  For every list of steps, InquestFormat of samaritanlaw54 returns true, and the argument reads afterwards as it read before. The listed variables (deBruijn32tab and deBruijn64tab of package bits, uint64pow10 of the library's strconv) are tied to the program's text by the given card.
-/
import Derived.Test.YtjhhdklbiibhdaaGreatDoorRows
import Derived.Test.YtjhhdklbiibhdaaGreatDoorCards
import Derived.Test.YtjhhdklbiibhdaaGreatDoorTie
import Derived.Test.YtjhhdklbiibhdaaGreatDoorAwakeFmtG
import Derived.Test.YtjhhdklbiibhdaaGreatDoorAwakeI
import Derived.Test.YtjhhdklbiibhdaaGreatDoorAddFormatFacts
import Derived.Test.YtjhhdklbiibhdaaGreatDoorEvLift
import Derived.SevenTiedAt
namespace Go.Proofs.YtjhhdklbiibhdaaGreatDoor
open Go Go.Ev Go.ChangeShapes Go.WideShapes Go.RowKit
set_option maxHeartbeats 100000000

theorem own : ownKnob Tryz.prog.godebug = none := by as_aux_lemma => kernel_rfl
theorem laidOut : laidOutB Tryz.prog = true := by as_aux_lemma => kernel_rfl
theorem g64 : Tryz.prog.globalNamed "math/bits.deBruijn64tab" = some 2 := by as_aux_lemma => kernel_rfl
theorem gPow : Tryz.prog.globalNamed "internal/strconv.uint64pow10" = some 0 := by as_aux_lemma => kernel_rfl
def laid3 : List (String × DataW Unit) := [("math/bits.deBruijn32tab", Rows.laid_math_bits_deBruijn32tab), ("math/bits.deBruijn64tab", Rows.laid_math_bits_deBruijn64tab), ("internal/strconv.uint64pow10", Rows.laid_internal_strconv_uint64pow10)]
theorem door_met3 (os : Os) (args : Array Value) : laidMetH Tryz.prog laid3 ((World.doorLaid Tryz.prog 24 os).forCall (fun _ _ => 0) ⟨#[], args, []⟩).memory :=
  laidMetH_of_parts3 (fuel := 8) (laidMet_of_run' 8 (by as_aux_lemma => kernel_rfl) (by as_aux_lemma => kernel_rfl)) (by as_aux_lemma => kernel_rfl) (by as_aux_lemma => kernel_rfl)
theorem laid_plain {W : World} (h : laidMetH Tryz.prog laid3 W) : laidMet Tryz.prog laid3 W := by
  rw [MakeChecks.laidMetH_plain _ _ _ (by as_aux_lemma => kernel_rfl)] at h
  exact h
theorem t64_of_laid {W : World} (h : laidMetH Tryz.prog laid3 W) : t64.In W :=
  tab_in_of_laid (rest := [("internal/strconv.uint64pow10", Rows.laid_internal_strconv_uint64pow10)]) g64 (by as_aux_lemma => kernel_rfl) Tryz.underlying404 Tryz.underlying5 (by as_aux_lemma => kernel_rfl) (by as_aux_lemma => kernel_rfl) (by decide) (laid_tail (laid_plain h))
theorem pow_of_laid {W : World} (h : laidMetH Tryz.prog laid3 W) : Lib.TabIs Tryz.prog W "internal/strconv.uint64pow10" .u64 Lib.pow10Tab :=
  Lib.tabIs_of_head (rest := []) gPow (by as_aux_lemma => kernel_rfl) Tryz.underlying343 Tryz.underlying287 (by as_aux_lemma => kernel_rfl) (by as_aux_lemma => kernel_rfl) (laid_tail (laid_tail (laid_plain h)))
theorem four {W : World} (h : W.ShapedOpen Tryz.prog) : 4 ≤ W.heap.size := size_of_shaped (g := 3) h (by rw [globs]; decide) (by as_aux_lemma => kernel_rfl)
theorem tabIn_below {W W' : World} (h : t64.In W) (hb : Below W.heap.size W W') : t64.In W' := by
  obtain ⟨arr, e, lo, hi, h1, h2⟩ := h
  exact ⟨arr, e, lo, hi, (hb.block _ (Array.getElem?_eq_some_iff.1 h1).1).trans h1, h2⟩

set_option maxRecDepth 100000 in
theorem inquestFormat_lifted (os : Os) (started : os.Started) (H : Type) (enc : TypeId × Value → H) :
    ReturnsInHanded {} Tryz.checked os 7 .any (fun w args => (Rows.inquestFormatSpec.pre enc Tryz.prog Tryz.f7 [] false w args ∧ laidMetH Tryz.prog laid3 w) ∧ sizedMet enc Tryz.prog Tryz.f7 (OpenSpec.ofChange Rows.inquestFormatSpec) false w args)
      (Rows.inquestFormatSpec.post enc Tryz.prog Tryz.f7 false true false false) := by
  refine lifted_true (C := Tryz.checked) (laid := laid3) (t := 4) own started (by as_aux_lemma => kernel_rfl) Tryz.func7
    (ChangeSpec.witness_shaped (enc := enc) (C := Tryz.checked) (os := os) (X := fun w _ => laidMetH Tryz.prog laid3 w) false (World.doorLaid Tryz.prog 24 os) #[.slice none 0 0] 8 rfl (World.shaped_of_RefB (by as_aux_lemma => kernel_rfl) (by as_aux_lemma => kernel_rfl)) (by as_aux_lemma => kernel_rfl) (by as_aux_lemma => kernel_rfl) (by as_aux_lemma => kernel_rfl) (door_met3 os _))
    laidOut (by as_aux_lemma => kernel_rfl) rfl (by as_aux_lemma => kernel_rfl) Tryz.underlying4 (fun ds hd => ?_) ?_
  · have hd' : ds.length = 1 := hd
    match ds, hd' with
    | [d1], _ => rfl
  · intro W base args ds ps hval hA _ hL hsh
    have hA' : DataW.TrodAll enc Tryz.prog W 0 (fun _ => true) true Tryz.f7.params.toList args.toList ds ps := hA
    have hval' : ∀ (j : Nat) t v, Tryz.f7.params[j]? = some t → args[j]? = some v → Value.okWide Tryz.prog W .any base t v := hval
    rw [Tryz.params7] at hA' hval'
    obtain ⟨v0, d0, rfl, rfl, h0⟩ := trodAll_one hA'
    obtain ⟨A, c, L, rfl, hS, hlen, hok⟩ := open_steps (hval' 0 49 v0 rfl rfl) h0
    have h4 := four hsh
    exact law_any A c L W hS hlen hok (pow_of_laid hL) (fun W' hb => awakeI_any W' (Nat.le_trans h4 hb.size) (tabIn_below (t64_of_laid hL) hb))

theorem inquestFormat_said : Rows.InquestFormatSaid :=
  OpenClaim.holds_of_wide 7 Tryz.f7 rfl rfl rfl rfl rfl rfl rfl ⟨rfl, rfl, rfl, rfl, rfl⟩ rfl rfl rfl rfl rfl (by as_aux_lemma => kernel_rfl) Tryz.func7 inquestFormat_facts
    (of_decide_eq_true (by as_aux_lemma => kernel_rfl)) (by unfold Func.isWrapper; rw [if_neg (of_decide_eq_false (by as_aux_lemma => kernel_rfl))]; exact ⟨rfl, rfl⟩)
    (fun os started H enc _ => inquestFormat_lifted os started H enc)

/-- the card -/
theorem inquestFormat_holds : Rows.InquestFormatCardSaid :=
  Claim7.holds_tied_plain_at .later [] [.data, .data, .data] true (true, "1d1436db72fdef282e2e3360a73f29a88666de1cb9ce74d3713f967f9a77340d") false
    inquestFormat_said (fun _ h => by cases h) (by as_aux_lemma => kernel_rfl) (fun _ h => by cases h) inquestFormat_row_tie rfl ⟨rfl, rfl⟩ (by as_aux_lemma => kernel_rfl) rfl
    (fun f fn hf hfn => by
      obtain rfl : f = 7 := Option.some.inj ((show Tryz.prog.funcNamed Rows.inquestFormatRow.func = some 7 by as_aux_lemma => kernel_rfl).symm.trans hf) |>.symm
      obtain rfl : fn = Tryz.f7 := (Option.some.inj (Tryz.func7.symm.trans hfn)).symm
      exact ⟨by as_aux_lemma => kernel_rfl, fun j t ht => by
        rw [Tryz.params7] at ht
        have hm : t ∈ [49] := by simpa using Array.mem_of_getElem? ht
        have hall : ([49].all fun u => !Tryz.prog.wantsStandIn u) = true := by as_aux_lemma => kernel_rfl
        exact (show Tryz.prog.wantsStandIn t = false by simpa using List.all_eq_true.1 hall t hm)⟩)
    (by as_aux_lemma => kernel_rfl)
#print axioms inquestFormat_holds
end Go.Proofs.YtjhhdklbiibhdaaGreatDoor
