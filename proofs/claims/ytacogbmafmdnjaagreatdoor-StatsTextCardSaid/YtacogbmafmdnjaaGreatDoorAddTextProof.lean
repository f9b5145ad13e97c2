/-
  For every sum, StatsText of samaritanlaw55 returns true, and the argument reads afterwards as it read before. The listed variables (deBruijn32tab and deBruijn64tab of package bits, uint64pow10 of the library's strconv) are tied to the program's text by the given card.
-/
import Derived.Test.YtacogbmafmdnjaaGreatDoorRows
import Derived.Test.YtacogbmafmdnjaaGreatDoorCards
import Derived.Test.YtacogbmafmdnjaaGreatDoorTie
import Derived.Test.YtacogbmafmdnjaaGreatDoorAwakeFmtG
import Derived.Test.YtacogbmafmdnjaaGreatDoorWakes
import Derived.Test.YtacogbmafmdnjaaGreatDoorAddTextFacts
import Derived.Test.YtacogbmafmdnjaaGreatDoorEvLift
import Derived.SevenTiedAt
namespace Go.Proofs.YtacogbmafmdnjaaGreatDoor
open Go Go.Ev Go.ChangeShapes Go.WideShapes Go.RowKit
set_option maxHeartbeats 100000000

theorem own : ownKnob Tryz.prog.godebug = none := by as_aux_lemma => kernel_rfl
theorem laidOut : laidOutB Tryz.prog = true := by as_aux_lemma => kernel_rfl
theorem g64 : Tryz.prog.globalNamed "math/bits.deBruijn64tab" = some 2 := by as_aux_lemma => kernel_rfl
theorem gPow : Tryz.prog.globalNamed "internal/strconv.uint64pow10" = some 0 := by as_aux_lemma => kernel_rfl
def laid3 : List (String × DataW Unit) := [("math/bits.deBruijn32tab", Rows.laid_math_bits_deBruijn32tab), ("math/bits.deBruijn64tab", Rows.laid_math_bits_deBruijn64tab), ("internal/strconv.uint64pow10", Rows.laid_internal_strconv_uint64pow10)]
theorem door_met3 (os : Os) (args : Array Value) : laidMetH Tryz.prog laid3 ((World.doorLaid Tryz.prog 24 os).forCall (fun _ _ => 0) ⟨#[], args, []⟩).memory :=
  laidMetH_of_parts3 (fuel := 8) (laidMet_of_run' 8 (by as_aux_lemma => kernel_rfl) (by as_aux_lemma => kernel_rfl)) (by as_aux_lemma => kernel_rfl) (by as_aux_lemma => kernel_rfl)
theorem laid_plain {W : World} (h : laidMetH Tryz.prog laid3 W) : laidMet Tryz.prog laid3 W := by
  rw [MakeChecks.laidMetH_plain _ _ _ (by as_aux_lemma => kernel_rfl)] at h
  exact h
theorem t64_of_laid {W : World} (h : laidMetH Tryz.prog laid3 W) : t64.In W :=
  tab_in_of_laid (rest := [("internal/strconv.uint64pow10", Rows.laid_internal_strconv_uint64pow10)]) g64 (by as_aux_lemma => kernel_rfl) Tryz.underlying376 Tryz.underlying5 (by as_aux_lemma => kernel_rfl) (by as_aux_lemma => kernel_rfl) (by decide) (laid_tail (laid_plain h))
theorem pow_of_laid {W : World} (h : laidMetH Tryz.prog laid3 W) : Lib.TabIs Tryz.prog W "internal/strconv.uint64pow10" .u64 Lib.pow10Tab :=
  Lib.tabIs_of_head (rest := []) gPow (by as_aux_lemma => kernel_rfl) Tryz.underlying314 Tryz.underlying214 (by as_aux_lemma => kernel_rfl) (by as_aux_lemma => kernel_rfl) (laid_tail (laid_tail (laid_plain h)))
theorem four {W : World} (h : W.ShapedOpen Tryz.prog) : 4 ≤ W.heap.size := size_of_shaped (g := 3) h (by rw [globs]; decide) (by as_aux_lemma => kernel_rfl)
theorem tabIn_below {W W' : World} (h : t64.In W) (hb : Below W.heap.size W W') : t64.In W' := by
  obtain ⟨arr, e, lo, hi, h1, h2⟩ := h
  exact ⟨arr, e, lo, hi, (hb.block _ (Array.getElem?_eq_some_iff.1 h1).1).trans h1, h2⟩
theorem wakes_any (w : World) (hw : 4 ≤ w.heap.size) (hT : t64.In w) : Calls Tryz.prog 9 #[] w fun e w' => e = .returned (.bool true) ∧ Below w.heap.size w w' :=
  (@answers_of_run Tryz.prog tab0 val0 mix (fun r hr => by cases hr) 9 [] [] 4 [t64] (Nat.le_of_eq globs) t64_lt wakes_run (fun m => @concL_nil tab0 val0 m) w hw (fun t ht => by
    obtain rfl := List.mem_singleton.1 ht
    exact hT)).calls
theorem ok_of_wf {z : Int} (h : (Lit.int .i64 z).wf = true) : okI z := by
  simp [Lit.wf, IntKind.min, IntKind.max, IntKind.signed, IntKind.bits] at h
  unfold okI
  omega

set_option maxRecDepth 100000 in
theorem statsText_lifted (os : Os) (started : os.Started) (H : Type) (enc : TypeId × Value → H) :
    ReturnsInHanded {} Tryz.checked os 8 .any (fun w args => (Rows.statsTextSpec.pre enc Tryz.prog Tryz.f8 [] false w args ∧ laidMetH Tryz.prog laid3 w) ∧ sizedMet enc Tryz.prog Tryz.f8 (OpenSpec.ofChange Rows.statsTextSpec) false w args)
      (Rows.statsTextSpec.post enc Tryz.prog Tryz.f8 false true false false) := by
  refine lifted_true (C := Tryz.checked) (laid := laid3) (t := 4) own started (by as_aux_lemma => kernel_rfl) Tryz.func8
    (ChangeSpec.witness_shaped (enc := enc) (C := Tryz.checked) (os := os) (X := fun w _ => laidMetH Tryz.prog laid3 w) false (World.doorLaid Tryz.prog 24 os) #[.agg #[.int .i64 0, .int .i64 0, .int .i64 0, .int .i64 0, .int .i64 0, .int .i64 0, .int .i64 0, .int .i64 0, .int .i64 0, .int .i64 0]] 8 rfl (World.shaped_of_RefB (by as_aux_lemma => kernel_rfl) (by as_aux_lemma => kernel_rfl)) (by as_aux_lemma => kernel_rfl) (by as_aux_lemma => kernel_rfl) (by as_aux_lemma => kernel_rfl) (door_met3 os _))
    laidOut (by as_aux_lemma => kernel_rfl) rfl (by as_aux_lemma => kernel_rfl) Tryz.underlying4 (fun ds hd => ?_) ?_
  · have hd' : ds.length = 1 := hd
    match ds, hd' with
    | [d1], _ => rfl
  · intro W base args ds ps hval hA _ hL hsh
    have hA' : DataW.TrodAll enc Tryz.prog W 0 (fun _ => true) true Tryz.f8.params.toList args.toList ds ps := hA
    have hval' : ∀ (j : Nat) t v, Tryz.f8.params[j]? = some t → args[j]? = some v → Value.okWide Tryz.prog W .any base t v := hval
    rw [Tryz.params8] at hA' hval'
    obtain ⟨v0, d0, rfl, rfl, h0⟩ := trodAll_one hA'
    obtain ⟨xs, la, rfl, wa⟩ := open_struct_i64 Tryz.underlying35 (by as_aux_lemma => kernel_rfl) (by as_aux_lemma => kernel_rfl) (by as_aux_lemma => kernel_rfl) (hval' 0 35 v0 rfl rfl) h0
    have la' : xs.length = 10 := la
    have h4 := four hsh
    clear hA hval hA' hval' h0 la
    match xs, la', wa with
    | [a0, a1, a2, a3, a4, a5, a6, a7, a8, a9], _, wa =>
      exact law_any a0 a1 a2 a3 a4 a5 a6 a7 a8 a9 W (ok_of_wf (wa a0 (by simp))) (ok_of_wf (wa a1 (by simp))) (ok_of_wf (wa a2 (by simp))) (ok_of_wf (wa a3 (by simp))) (ok_of_wf (wa a4 (by simp))) (ok_of_wf (wa a5 (by simp))) (ok_of_wf (wa a6 (by simp))) (ok_of_wf (wa a7 (by simp))) (ok_of_wf (wa a8 (by simp))) (ok_of_wf (wa a9 (by simp))) (pow_of_laid hL) (fun W' hb => wakes_any W' (Nat.le_trans h4 hb.size) (tabIn_below (t64_of_laid hL) hb))

theorem statsText_said : Rows.StatsTextSaid :=
  OpenClaim.holds_of_wide 8 Tryz.f8 rfl rfl rfl rfl rfl rfl rfl ⟨rfl, rfl, rfl, rfl, rfl⟩ rfl rfl rfl rfl rfl (by as_aux_lemma => kernel_rfl) Tryz.func8 statsText_facts
    (of_decide_eq_true (by as_aux_lemma => kernel_rfl)) (by unfold Func.isWrapper; rw [if_neg (of_decide_eq_false (by as_aux_lemma => kernel_rfl))]; exact ⟨rfl, rfl⟩)
    (fun os started H enc _ => statsText_lifted os started H enc)

/-- the card -/
theorem statsText_holds : Rows.StatsTextCardSaid :=
  Claim7.holds_tied_plain_at .later [] [.data, .data, .data] true (true, "51e7748c48568807ac5c4575b2ceec215f51bd5a3ad07d1b454bc1b3d3d37dc3") false
    statsText_said (fun _ h => by cases h) (by as_aux_lemma => kernel_rfl) (fun _ h => by cases h) statsText_row_tie rfl ⟨rfl, rfl⟩ (by as_aux_lemma => kernel_rfl) rfl
    (fun f fn hf hfn => by
      obtain rfl : f = 8 := Option.some.inj ((show Tryz.prog.funcNamed Rows.statsTextRow.func = some 8 by as_aux_lemma => kernel_rfl).symm.trans hf) |>.symm
      obtain rfl : fn = Tryz.f8 := (Option.some.inj (Tryz.func8.symm.trans hfn)).symm
      exact ⟨by as_aux_lemma => kernel_rfl, fun j t ht => by
        rw [Tryz.params8] at ht
        have hm : t ∈ [35] := by simpa using Array.mem_of_getElem? ht
        have hall : ([35].all fun u => !Tryz.prog.wantsStandIn u) = true := by as_aux_lemma => kernel_rfl
        exact (show Tryz.prog.wantsStandIn t = false by simpa using List.all_eq_true.1 hall t hm)⟩)
    (by as_aux_lemma => kernel_rfl)
#print axioms statsText_holds
end Go.Proofs.YtacogbmafmdnjaaGreatDoor
