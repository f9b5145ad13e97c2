/-
  For every trace, StatsInvalidCountry of samaritanlaw55 returns true, and the argument reads afterwards as it read before. The listed variable (deBruijn64tab of package bits) is tied to the program's text by the given card.
-/
import Derived.Test.YtgaimkgaooiieaaGreatDoorRows
import Derived.Test.YtgaimkgaooiieaaGreatDoorCards
import Derived.Test.YtgaimkgaooiieaaGreatDoorTie
import Derived.Test.YtgaimkgaooiieaaGreatDoorAwakeTrWZ
import Derived.Test.YtgaimkgaooiieaaGreatDoorAddCtyMost
import Derived.Test.YtgaimkgaooiieaaGreatDoorAwakeWakesB
import Derived.Test.YtgaimkgaooiieaaGreatDoorEvLift
import Derived.SevenTiedAt
namespace Go.Proofs.YtgaimkgaooiieaaGreatDoor
open Go Go.Ev Go.ChangeShapes Go.WideShapes Go.RowKit
set_option maxHeartbeats 100000000

theorem own : ownKnob Tryz.prog.godebug = none := by as_aux_lemma => kernel_rfl
theorem laidOut : laidOutB Tryz.prog = true := by as_aux_lemma => kernel_rfl
theorem g64 : Tryz.prog.globalNamed "math/bits.deBruijn64tab" = some 0 := by as_aux_lemma => kernel_rfl
theorem door_met1 (os : Os) (args : Array Value) : laidMetH Tryz.prog laid1 ((World.doorLaid Tryz.prog 24 os).forCall (fun _ _ => 0) ⟨#[], args, []⟩).memory :=
  laidMetH_of_parts3 (fuel := 8) (laidMet_of_run' 8 (by as_aux_lemma => kernel_rfl) (by as_aux_lemma => kernel_rfl)) (by as_aux_lemma => kernel_rfl) (by as_aux_lemma => kernel_rfl)
theorem t64_of_laid {W : World} (h : laidMetH Tryz.prog laid1 W) : t64.In W := by
  rw [MakeChecks.laidMetH_plain _ _ _ (by as_aux_lemma => kernel_rfl)] at h
  exact tab_in_of_laid (rest := []) g64 (by as_aux_lemma => kernel_rfl) Tryz.underlying436 Tryz.underlying5 (by as_aux_lemma => kernel_rfl) (by as_aux_lemma => kernel_rfl) (by decide) h
theorem two {W : World} (h : W.ShapedOpen Tryz.prog) : 2 ≤ W.heap.size := size_of_shaped (g := 1) h (by rw [globs]; decide) (by as_aux_lemma => kernel_rfl)

theorem tabIn_below {W W' : World} (h : t64.In W) (hb : Go.RowKit.Below W.heap.size W W') : t64.In W' := by
  obtain ⟨arr, e, lo, hi, h1, h2⟩ := h
  exact ⟨arr, e, lo, hi, (hb.block _ (Array.getElem?_eq_some_iff.1 h1).1).trans h1, h2⟩
theorem wakes_any (w : World) (hw : 2 ≤ w.heap.size) (hT : t64.In w) : Calls Tryz.prog 11 #[] w (TrueL w) :=
  (@answers_of_run Tryz.prog tab0 val0 mix (fun r hr => by cases hr) 11 [] [] 2 [t64] (Nat.le_of_eq globs) t64_lt wakesB_run (fun m => @concL_nil tab0 val0 m) w hw (fun t ht => by
    obtain rfl := List.mem_singleton.1 ht
    exact hT)).calls

set_option maxRecDepth 100000 in
theorem statsInvalidCountry_lifted (os : Os) (started : os.Started) (H : Type) (enc : TypeId × Value → H) :
    ReturnsInHanded {} Tryz.checked os 4 .any (fun w args => (Rows.statsInvalidCountrySpec.pre enc Tryz.prog Tryz.f4 [] false w args ∧ laidMetH Tryz.prog laid1 w) ∧ sizedMet enc Tryz.prog Tryz.f4 (OpenSpec.ofChange Rows.statsInvalidCountrySpec) false w args)
      (Rows.statsInvalidCountrySpec.post enc Tryz.prog Tryz.f4 false true false false) := by
  refine lifted_true (C := Tryz.checked) (laid := laid1) (t := 4) own started (by as_aux_lemma => kernel_rfl) Tryz.func4
    (ChangeSpec.witness_shaped (enc := enc) (C := Tryz.checked) (os := os) (X := fun w _ => laidMetH Tryz.prog laid1 w) false (World.doorLaid Tryz.prog 24 os) #[.slice none 0 0] 8 rfl (World.shaped_of_RefB (by as_aux_lemma => kernel_rfl) (by as_aux_lemma => kernel_rfl)) (by as_aux_lemma => kernel_rfl) (by as_aux_lemma => kernel_rfl) (by as_aux_lemma => kernel_rfl) (door_met1 os _))
    laidOut (by as_aux_lemma => kernel_rfl) rfl (by as_aux_lemma => kernel_rfl) Tryz.underlying4 (fun ds hd => ?_) ?_
  · have hd' : ds.length = 1 := hd
    match ds, hd' with
    | [d1], _ => rfl
  · intro W base args ds ps hval hA hwt hL hsh
    have hA' : DataW.TrodAll enc Tryz.prog W 0 (fun _ => true) true Tryz.f4.params.toList args.toList ds ps := hA
    have hval' : ∀ (j : Nat) t v, Tryz.f4.params[j]? = some t → args[j]? = some v → Value.okWide Tryz.prog W .any base t v := hval
    rw [Tryz.params4] at hA' hval'
    obtain ⟨v0, d0, rfl, rfl, h0⟩ := trodAll_one hA'
    have hwt' : (DataW.weightsEach Tryz.prog (Tryz.f4.params.toList ++ Rows.statsInvalidCountrySpec.plain.varTypes Tryz.prog) ([d0] ++ [])).all (· ≤ reachBytes) = true := hwt
    rw [Tryz.params4] at hwt'
    obtain ⟨A, c, L, rfl, hT, hl⟩ := open_trace (hval' 0 40 v0 rfl rfl) h0 (fun m hm => by simpa using List.all_eq_true.1 hwt' m (DataW.weights_mem_each (j := 0) (t := 40) (d := d0) rfl rfl m hm))
    have h2 := two hsh
    exact law55_any A c L W hT hl h2 (wakes_any W h2 (t64_of_laid hL))

/-- the card -/
theorem statsInvalidCountry_holds : Rows.StatsInvalidCountryCardSaid := card_of statsInvalidCountry_lifted
#print axioms statsInvalidCountry_holds
end Go.Proofs.YtgaimkgaooiieaaGreatDoor
