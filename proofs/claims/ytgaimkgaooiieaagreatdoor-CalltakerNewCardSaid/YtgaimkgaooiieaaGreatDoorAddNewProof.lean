/-
  For every configuration and centre, CalltakerNew of samaritanlaw47 returns true, and both arguments read afterwards as they read before. The listed variable (deBruijn64tab of package bits) is tied to the program's text by the given card.
-/
import Derived.Test.YtgaimkgaooiieaaGreatDoorRows
import Derived.Test.YtgaimkgaooiieaaGreatDoorCards
import Derived.Test.YtgaimkgaooiieaaGreatDoorTie
import Derived.Test.YtgaimkgaooiieaaGreatDoorAwakeLaw
import Derived.Test.YtgaimkgaooiieaaGreatDoorAwakeOpen
import Derived.Test.YtgaimkgaooiieaaGreatDoorAddNewFacts
import Derived.Test.YtgaimkgaooiieaaGreatDoorEvLift
import Derived.SevenTiedAt
namespace Go.Proofs.YtgaimkgaooiieaaGreatDoor
open Go Go.Ev Go.ChangeShapes Go.WideShapes Go.RowKit
set_option maxHeartbeats 100000000

theorem own : ownKnob Tryz.prog.godebug = none := by as_aux_lemma => kernel_rfl
theorem laidOut : laidOutB Tryz.prog = true := by as_aux_lemma => kernel_rfl
theorem g64 : Tryz.prog.globalNamed "math/bits.deBruijn64tab" = some 0 := by as_aux_lemma => kernel_rfl
def laid1 : List (String × DataW Unit) := [("math/bits.deBruijn64tab", Rows.laid_math_bits_deBruijn64tab)]
theorem door_met1 (os : Os) (args : Array Value) : laidMetH Tryz.prog laid1 ((World.doorLaid Tryz.prog 24 os).forCall (fun _ _ => 0) ⟨#[], args, []⟩).memory :=
  laidMetH_of_parts3 (fuel := 8) (laidMet_of_run' 8 (by as_aux_lemma => kernel_rfl) (by as_aux_lemma => kernel_rfl)) (by as_aux_lemma => kernel_rfl) (by as_aux_lemma => kernel_rfl)
theorem t64_of_laid {W : World} (h : laidMetH Tryz.prog laid1 W) : t64.In W := by
  rw [MakeChecks.laidMetH_plain _ _ _ (by as_aux_lemma => kernel_rfl)] at h
  exact tab_in_of_laid (rest := []) g64 (by as_aux_lemma => kernel_rfl) Tryz.underlying436 Tryz.underlying5 (by as_aux_lemma => kernel_rfl) (by as_aux_lemma => kernel_rfl) (by decide) h
theorem two {W : World} (h : W.ShapedOpen Tryz.prog) : 2 ≤ W.heap.size := size_of_shaped (g := 1) h (by rw [globs]; decide) (by as_aux_lemma => kernel_rfl)

theorem tabIn_below {W W' : World} (h : t64.In W) (hb : Go.RowKit.Below W.heap.size W W') : t64.In W' := by
  obtain ⟨arr, e, lo, hi, h1, h2⟩ := h
  exact ⟨arr, e, lo, hi, (hb.block _ (Array.getElem?_eq_some_iff.1 h1).1).trans h1, h2⟩
theorem wakes_any (w : World) (hw : 2 ≤ w.heap.size) (hT : t64.In w) : Calls Tryz.prog 5 #[] w (True1 w) :=
  (@answers_of_run Tryz.prog tab0 val0 mix (fun r hr => by cases hr) 5 [] [] 2 [t64] (Nat.le_of_eq globs) t64_lt wakes_run (fun m => @concL_nil tab0 val0 m) w hw (fun t ht => by
    obtain rfl := List.mem_singleton.1 ht
    exact hT)).calls

set_option maxRecDepth 100000 in
theorem calltakerNew_lifted (os : Os) (started : os.Started) (H : Type) (enc : TypeId × Value → H) :
    ReturnsInHanded {} Tryz.checked os 3 .any (fun w args => (Rows.calltakerNewSpec.pre enc Tryz.prog Tryz.f3 [] false w args ∧ laidMetH Tryz.prog laid1 w) ∧ sizedMet enc Tryz.prog Tryz.f3 (OpenSpec.ofChange Rows.calltakerNewSpec) false w args)
      (Rows.calltakerNewSpec.post enc Tryz.prog Tryz.f3 false true false false) := by
  refine lifted_true (C := Tryz.checked) (laid := laid1) (t := 4) own started (by as_aux_lemma => kernel_rfl) Tryz.func3
    (ChangeSpec.witness_shaped (enc := enc) (C := Tryz.checked) (os := os) (X := fun w _ => laidMetH Tryz.prog laid1 w) false (World.doorLaid Tryz.prog 24 os) #[.agg #[.int .i64 0, .slice none 0 0, .slice none 0 0, .slice none 0 0, .slice none 0 0, .int .i64 0, .int .i64 0, .int .i64 0, .int .i64 0, .int .i64 0, .int .i64 0, .int .i64 0, .int .i64 0, .int .i64 0, .int .i64 0], .int .i64 0] 8 rfl (World.shaped_of_RefB (by as_aux_lemma => kernel_rfl) (by as_aux_lemma => kernel_rfl)) (by as_aux_lemma => kernel_rfl) (by as_aux_lemma => kernel_rfl) (by as_aux_lemma => kernel_rfl) (door_met1 os _))
    laidOut (by as_aux_lemma => kernel_rfl) rfl (by as_aux_lemma => kernel_rfl) Tryz.underlying4 (fun ds hd => ?_) ?_
  · have hd' : ds.length = 2 := hd
    match ds, hd' with
    | [d1, d2], _ => rfl
  · intro W base args ds ps hval hA hwt hL hsh
    have hA' : DataW.TrodAll enc Tryz.prog W 0 (fun _ => true) true Tryz.f3.params.toList args.toList ds ps := hA
    have hval' : ∀ (j : Nat) t v, Tryz.f3.params[j]? = some t → args[j]? = some v → Value.okWide Tryz.prog W .any base t v := hval
    rw [Tryz.params3] at hA' hval'
    obtain ⟨v0, v1, d0, d1, p0, p1, rfl, rfl, rfl, h0, h1⟩ := trodAll_two hA'
    have hwt' : (DataW.weightsEach Tryz.prog (Tryz.f3.params.toList ++ Rows.calltakerNewSpec.plain.varTypes Tryz.prog) ([d0, d1] ++ [])).all (· ≤ reachBytes) = true := hwt
    rw [Tryz.params3] at hwt'
    obtain ⟨c, P, rfl, hC⟩ := open_config (hval' 0 27 v0 rfl rfl) h0 (fun m hm => by simpa using List.all_eq_true.1 hwt' m (DataW.weights_mem_each (j := 0) (t := 27) (d := d0) rfl rfl m hm))
    obtain ⟨z, rfl, rfl, _⟩ := open_int Tryz.underlying3 (hval' 1 3 v1 rfl rfl) h1
    have h2 := two hsh
    exact law_any z c P W hC h2 (fun W' hb => wakes_any W' (Nat.le_trans h2 hb.size) (tabIn_below (t64_of_laid hL) hb))

theorem calltakerNew_said : Rows.CalltakerNewSaid :=
  OpenClaim.holds_of_wide 3 Tryz.f3 rfl rfl rfl rfl rfl rfl rfl ⟨rfl, rfl, rfl, rfl, rfl⟩ rfl rfl rfl rfl rfl (by as_aux_lemma => kernel_rfl) Tryz.func3 calltakerNew_facts
    (of_decide_eq_true (by as_aux_lemma => kernel_rfl)) (by unfold Func.isWrapper; rw [if_neg (of_decide_eq_false (by as_aux_lemma => kernel_rfl))]; exact ⟨rfl, rfl⟩)
    (fun os started H enc _ => calltakerNew_lifted os started H enc)

/-- the card -/
theorem calltakerNew_holds : Rows.CalltakerNewCardSaid :=
  Claim7.holds_tied_plain_at .later [] [.data] true (true, "41d1da01dec966985d40ca36c1b29bdd5a5171fa998773968449a7ce45099bd6") false
    calltakerNew_said (fun _ h => by cases h) (by as_aux_lemma => kernel_rfl) (fun _ h => by cases h) calltakerNew_row_tie rfl ⟨rfl, rfl⟩ (by as_aux_lemma => kernel_rfl) rfl
    (fun f fn hf hfn => by
      obtain rfl : f = 3 := Option.some.inj ((show Tryz.prog.funcNamed Rows.calltakerNewRow.func = some 3 by as_aux_lemma => kernel_rfl).symm.trans hf) |>.symm
      obtain rfl : fn = Tryz.f3 := (Option.some.inj (Tryz.func3.symm.trans hfn)).symm
      exact ⟨by as_aux_lemma => kernel_rfl, fun j t ht => by
        rw [Tryz.params3] at ht
        have hm : t ∈ [27, 3] := by simpa using Array.mem_of_getElem? ht
        have hall : ([27, 3].all fun u => !Tryz.prog.wantsStandIn u) = true := by as_aux_lemma => kernel_rfl
        exact (show Tryz.prog.wantsStandIn t = false by simpa using List.all_eq_true.1 hall t hm)⟩)
    (by as_aux_lemma => kernel_rfl)
#print axioms calltakerNew_holds
end Go.Proofs.YtgaimkgaooiieaaGreatDoor
