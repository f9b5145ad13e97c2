/-
  DERIVED. GIVEN WITH THE SEED: THE CARDS: each row of YtgaimkgaooiieaaGreatDoorRows.lean that lists a variable, with what it lists TIED to the program's text (the seventh form; the later family's looks); each row that meets fmt, with fmt's text TOLD by the authors' own Lean function (tested against real Go, not proved from fmt's source: count such statements apart). THE CARD IS WHAT COUNTS. Prove the row's statement (the work); the ties are given (YtgaimkgaooiieaaGreatDoorTie.lean); close each card by the builder's one call (the guide's Derived/Test/ToyasCard.lean, 'card_holds'). Laid BY PROGRAM, IN A SANDBOX (cutbox-door.mjs). By AI agents, Wed Nov 11 2026. No macro, syntax, notation, axiom, sorry.
-/
import Derived.Test.YtgaimkgaooiieaaGreatDoorRows
import GoSem.ClaimSeven
namespace Go.Proofs.YtgaimkgaooiieaaGreatDoor
namespace Rows

/-- THE TIED CARD OF 'samaritanlaw47.CalltakerNew'. -/
def calltakerNewCard : Claim7 := { stood := { row := calltakerNewRow, standIns := [], harness := (true, "41d1da01dec966985d40ca36c1b29bdd5a5171fa998773968449a7ce45099bd6"), looks := false }, kinds := [], alts := [], laidByText := true, laidKinds := [.data], laidTests := true, laidLooks := .later }
def CalltakerNewCardSaid : Prop := Claim7.holds Tryz.pinned (.plain (OpenSpec.ofChange calltakerNewSpec)) calltakerNewCard

/-- THE TIED CARD OF 'samaritanlaw55.StatsInvalidCountry'. -/
def statsInvalidCountryCard : Claim7 := { stood := { row := statsInvalidCountryRow, standIns := [], harness := (true, "41d1da01dec966985d40ca36c1b29bdd5a5171fa998773968449a7ce45099bd6"), looks := false }, kinds := [], alts := [], laidByText := true, laidKinds := [.data], laidTests := true, laidLooks := .later }
def StatsInvalidCountryCardSaid : Prop := Claim7.holds Tryz.pinned (.plain (OpenSpec.ofChange statsInvalidCountrySpec)) statsInvalidCountryCard

/-- THE SECOND FORM's CARD OF 'samaritanlaw47.CalltakerNew'. -/
def calltakerNewUptoCard : Claim7 := { stood := { row := calltakerNewUptoRow, standIns := [], harness := (true, "41d1da01dec966985d40ca36c1b29bdd5a5171fa998773968449a7ce45099bd6"), looks := false }, kinds := [], alts := [], laidByText := true, laidKinds := [.data], laidTests := true, laidLooks := .later }
def CalltakerNewUptoCardSaid : Prop := Claim7.holds Tryz.pinned (.plain (OpenSpec.upto calltakerNewSpec)) calltakerNewUptoCard

/-- THE SECOND FORM's CARD OF 'samaritanlaw55.StatsInvalidCountry'. -/
def statsInvalidCountryUptoCard : Claim7 := { stood := { row := statsInvalidCountryUptoRow, standIns := [], harness := (true, "41d1da01dec966985d40ca36c1b29bdd5a5171fa998773968449a7ce45099bd6"), looks := false }, kinds := [], alts := [], laidByText := true, laidKinds := [.data], laidTests := true, laidLooks := .later }
def StatsInvalidCountryUptoCardSaid : Prop := Claim7.holds Tryz.pinned (.plain (OpenSpec.upto statsInvalidCountrySpec)) statsInvalidCountryUptoCard
end Rows
end Go.Proofs.YtgaimkgaooiieaaGreatDoor
