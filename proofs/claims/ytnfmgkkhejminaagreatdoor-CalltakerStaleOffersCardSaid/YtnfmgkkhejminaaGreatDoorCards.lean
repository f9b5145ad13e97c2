/-
  DERIVED. GIVEN WITH THE SEED: THE CARDS: each row of YtnfmgkkhejminaaGreatDoorRows.lean that lists a variable, with what it lists TIED to the program's text (the seventh form; the later family's looks); each row that meets fmt, with fmt's text TOLD by the authors' own Lean function (tested against real Go, not proved from fmt's source: count such statements apart). THE CARD IS WHAT COUNTS. Prove the row's statement (the work); the ties are given (YtnfmgkkhejminaaGreatDoorTie.lean); close each card by the builder's one call (the guide's Derived/Test/ToyasCard.lean, 'card_holds'). Laid BY PROGRAM, IN A SANDBOX (cutbox-door.mjs). By AI agents, Wed Nov 11 2026. No macro, syntax, notation, axiom, sorry.
-/
import Derived.Test.YtnfmgkkhejminaaGreatDoorRows
import GoSem.ClaimSeven
namespace Go.Proofs.YtnfmgkkhejminaaGreatDoor
namespace Rows

/-- THE TIED CARD OF 'samaritanlaw47.CalltakerStaleOffers'. -/
def calltakerStaleOffersCard : Claim7 := { stood := { row := calltakerStaleOffersRow, standIns := [], harness := (true, "d8cb2dc334d00402d6053f5f39c069e4e0d23437b8f6f4fc8475e9d55c3d8f09"), looks := false }, kinds := [], alts := [], laidByText := true, laidKinds := [.data], laidTests := true, laidLooks := .later }
def CalltakerStaleOffersCardSaid : Prop := Claim7.holds Tryz.pinned (.plain (OpenSpec.ofChange calltakerStaleOffersSpec)) calltakerStaleOffersCard

/-- THE TIED CARD OF 'samaritanlaw47.CalltakerAcknowledgements'. -/
def calltakerAcknowledgementsCard : Claim7 := { stood := { row := calltakerAcknowledgementsRow, standIns := [], harness := (true, "d8cb2dc334d00402d6053f5f39c069e4e0d23437b8f6f4fc8475e9d55c3d8f09"), looks := false }, kinds := [], alts := [], laidByText := true, laidKinds := [.data], laidTests := true, laidLooks := .later }
def CalltakerAcknowledgementsCardSaid : Prop := Claim7.holds Tryz.pinned (.plain (OpenSpec.ofChange calltakerAcknowledgementsSpec)) calltakerAcknowledgementsCard

/-- THE SECOND FORM's CARD OF 'samaritanlaw47.CalltakerStaleOffers'. -/
def calltakerStaleOffersUptoCard : Claim7 := { stood := { row := calltakerStaleOffersUptoRow, standIns := [], harness := (true, "d8cb2dc334d00402d6053f5f39c069e4e0d23437b8f6f4fc8475e9d55c3d8f09"), looks := false }, kinds := [], alts := [], laidByText := true, laidKinds := [.data], laidTests := true, laidLooks := .later }
def CalltakerStaleOffersUptoCardSaid : Prop := Claim7.holds Tryz.pinned (.plain (OpenSpec.upto calltakerStaleOffersSpec)) calltakerStaleOffersUptoCard

/-- THE SECOND FORM's CARD OF 'samaritanlaw47.CalltakerAcknowledgements'. -/
def calltakerAcknowledgementsUptoCard : Claim7 := { stood := { row := calltakerAcknowledgementsUptoRow, standIns := [], harness := (true, "d8cb2dc334d00402d6053f5f39c069e4e0d23437b8f6f4fc8475e9d55c3d8f09"), looks := false }, kinds := [], alts := [], laidByText := true, laidKinds := [.data], laidTests := true, laidLooks := .later }
def CalltakerAcknowledgementsUptoCardSaid : Prop := Claim7.holds Tryz.pinned (.plain (OpenSpec.upto calltakerAcknowledgementsSpec)) calltakerAcknowledgementsUptoCard
end Rows
end Go.Proofs.YtnfmgkkhejminaaGreatDoor
