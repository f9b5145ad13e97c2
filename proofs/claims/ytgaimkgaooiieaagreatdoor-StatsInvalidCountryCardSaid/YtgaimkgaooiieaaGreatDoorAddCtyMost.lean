/-
  The card of StatsInvalidCountry (samaritanlaw55), where the law returns true for every trace: what does not hang on the walk.
-/
import Derived.Test.YtgaimkgaooiieaaGreatDoorRows
import Derived.Test.YtgaimkgaooiieaaGreatDoorCards
import Derived.Test.YtgaimkgaooiieaaGreatDoorTie
import Derived.Test.YtgaimkgaooiieaaGreatDoorAddCtyFacts
import Derived.Test.YtgaimkgaooiieaaGreatDoorEvLift
import Derived.SevenTiedAt
namespace Go.Proofs.YtgaimkgaooiieaaGreatDoor
open Go Go.Ev Go.ChangeShapes Go.WideShapes Go.RowKit
set_option maxHeartbeats 100000000

def laid1 : List (String × DataW Unit) := [("math/bits.deBruijn64tab", Rows.laid_math_bits_deBruijn64tab)]
def Lifted : Prop := ∀ (os : Os) (_ : os.Started) (H : Type) (enc : TypeId × Value → H),
    ReturnsInHanded {} Tryz.checked os 4 .any (fun w args => (Rows.statsInvalidCountrySpec.pre enc Tryz.prog Tryz.f4 [] false w args ∧ laidMetH Tryz.prog laid1 w) ∧ sizedMet enc Tryz.prog Tryz.f4 (OpenSpec.ofChange Rows.statsInvalidCountrySpec) false w args)
      (Rows.statsInvalidCountrySpec.post enc Tryz.prog Tryz.f4 false true false false)
theorem said_of (h : Lifted) : Rows.StatsInvalidCountrySaid :=
  OpenClaim.holds_of_wide 4 Tryz.f4 rfl rfl rfl rfl rfl rfl rfl ⟨rfl, rfl, rfl, rfl, rfl⟩ rfl rfl rfl rfl rfl (by as_aux_lemma => kernel_rfl) Tryz.func4 statsInvalidCountry_facts
    (of_decide_eq_true (by as_aux_lemma => kernel_rfl)) (by unfold Func.isWrapper; rw [if_neg (of_decide_eq_false (by as_aux_lemma => kernel_rfl))]; exact ⟨rfl, rfl⟩)
    (fun os started H enc _ => h os started H enc)

/-- the card -/
theorem card_of (h : Lifted) : Rows.StatsInvalidCountryCardSaid :=
  Claim7.holds_tied_plain_at .later [] [.data] true (true, "41d1da01dec966985d40ca36c1b29bdd5a5171fa998773968449a7ce45099bd6") false
    (said_of h) (fun _ h => by cases h) (by as_aux_lemma => kernel_rfl) (fun _ h => by cases h) statsInvalidCountry_row_tie rfl ⟨rfl, rfl⟩ (by as_aux_lemma => kernel_rfl) rfl
    (fun f fn hf hfn => by
      obtain rfl : f = 4 := Option.some.inj ((show Tryz.prog.funcNamed Rows.statsInvalidCountryRow.func = some 4 by as_aux_lemma => kernel_rfl).symm.trans hf) |>.symm
      obtain rfl : fn = Tryz.f4 := (Option.some.inj (Tryz.func4.symm.trans hfn)).symm
      exact ⟨by as_aux_lemma => kernel_rfl, fun j t ht => by
        rw [Tryz.params4] at ht
        have hm : t ∈ [40] := by simpa using Array.mem_of_getElem? ht
        have hall : ([40].all fun u => !Tryz.prog.wantsStandIn u) = true := by as_aux_lemma => kernel_rfl
        exact (show Tryz.prog.wantsStandIn t = false by simpa using List.all_eq_true.1 hall t hm)⟩)
    (by as_aux_lemma => kernel_rfl)
end Go.Proofs.YtgaimkgaooiieaaGreatDoor
