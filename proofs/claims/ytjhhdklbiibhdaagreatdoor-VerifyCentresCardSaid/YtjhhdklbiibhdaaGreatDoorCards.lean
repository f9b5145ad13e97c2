/-
  DERIVED. GIVEN WITH THE SEED: THE CARDS: each row of YtjhhdklbiibhdaaGreatDoorRows.lean that lists a variable, with what it lists TIED to the program's text (the seventh form; the later family's looks); each row that meets fmt, with fmt's text TOLD by the authors' own Lean function (tested against real Go, not proved from fmt's source: count such statements apart). THE CARD IS WHAT COUNTS. Prove the row's statement (the work); the ties are given (YtjhhdklbiibhdaaGreatDoorTie.lean); close each card by the builder's one call (the guide's Derived/Test/ToyasCard.lean, 'card_holds'). Laid BY PROGRAM, IN A SANDBOX (cutbox-door.mjs). By AI agents, Wed Nov 11 2026. No macro, syntax, notation, axiom, sorry.
-/
import Derived.Test.YtjhhdklbiibhdaaGreatDoorRows
import GoSem.ClaimSeven
namespace Go.Proofs.YtjhhdklbiibhdaaGreatDoor
namespace Rows

/-- THE TIED CARD OF 'samaritanlaw53.VerifyCalls'. -/
def verifyCallsCard : Claim7 := { stood := { row := verifyCallsRow, standIns := [], harness := (true, "1d1436db72fdef282e2e3360a73f29a88666de1cb9ce74d3713f967f9a77340d"), looks := false }, kinds := [], alts := [], laidByText := true, laidKinds := [.data], laidTests := true, laidLooks := .later }
def VerifyCallsCardSaid : Prop := Claim7.holds Tryz.pinned (.plain (OpenSpec.ofChange verifyCallsSpec)) verifyCallsCard

/-- THE TIED CARD OF 'samaritanlaw53.VerifyCentres'. -/
def verifyCentresCard : Claim7 := { stood := { row := verifyCentresRow, standIns := [], harness := (true, "1d1436db72fdef282e2e3360a73f29a88666de1cb9ce74d3713f967f9a77340d"), looks := false }, kinds := [], alts := [], laidByText := true, laidKinds := [.data], laidTests := true, laidLooks := .later }
def VerifyCentresCardSaid : Prop := Claim7.holds Tryz.pinned (.plain (OpenSpec.ofChange verifyCentresSpec)) verifyCentresCard

/-- THE TIED CARD OF 'samaritanlaw53.VerifyCommittedLog'. -/
def verifyCommittedLogCard : Claim7 := { stood := { row := verifyCommittedLogRow, standIns := [], harness := (true, "1d1436db72fdef282e2e3360a73f29a88666de1cb9ce74d3713f967f9a77340d"), looks := false }, kinds := [], alts := [], laidByText := true, laidKinds := [.data], laidTests := true, laidLooks := .later }
def VerifyCommittedLogCardSaid : Prop := Claim7.holds Tryz.pinned (.plain (OpenSpec.ofChange verifyCommittedLogSpec)) verifyCommittedLogCard

/-- THE TIED CARD OF 'samaritanlaw53.VerifyName'. -/
def verifyNameCard : Claim7 := { stood := { row := verifyNameRow, standIns := [], harness := (true, "1d1436db72fdef282e2e3360a73f29a88666de1cb9ce74d3713f967f9a77340d"), looks := false }, kinds := [], alts := [], laidByText := true, laidKinds := [.data], laidTests := true, laidLooks := .later }
def VerifyNameCardSaid : Prop := Claim7.holds Tryz.pinned (.plain (OpenSpec.ofChange verifyNameSpec)) verifyNameCard

/-- THE TIED CARD OF 'samaritanlaw54.InquestFormat'. -/
def inquestFormatCard : Claim7 := { stood := { row := inquestFormatRow, standIns := [], harness := (true, "1d1436db72fdef282e2e3360a73f29a88666de1cb9ce74d3713f967f9a77340d"), looks := false }, kinds := [], alts := [], laidByText := true, laidKinds := [.data, .data, .data], laidTests := true, laidLooks := .later }
def InquestFormatCardSaid : Prop := Claim7.holds Tryz.pinned (.plain (OpenSpec.ofChange inquestFormatSpec)) inquestFormatCard

/-- THE SECOND FORM's CARD OF 'samaritanlaw53.VerifyCalls'. -/
def verifyCallsUptoCard : Claim7 := { stood := { row := verifyCallsUptoRow, standIns := [], harness := (true, "1d1436db72fdef282e2e3360a73f29a88666de1cb9ce74d3713f967f9a77340d"), looks := false }, kinds := [], alts := [], laidByText := true, laidKinds := [.data], laidTests := true, laidLooks := .later }
def VerifyCallsUptoCardSaid : Prop := Claim7.holds Tryz.pinned (.plain (OpenSpec.upto verifyCallsSpec)) verifyCallsUptoCard

/-- THE SECOND FORM's CARD OF 'samaritanlaw53.VerifyCentres'. -/
def verifyCentresUptoCard : Claim7 := { stood := { row := verifyCentresUptoRow, standIns := [], harness := (true, "1d1436db72fdef282e2e3360a73f29a88666de1cb9ce74d3713f967f9a77340d"), looks := false }, kinds := [], alts := [], laidByText := true, laidKinds := [.data], laidTests := true, laidLooks := .later }
def VerifyCentresUptoCardSaid : Prop := Claim7.holds Tryz.pinned (.plain (OpenSpec.upto verifyCentresSpec)) verifyCentresUptoCard

/-- THE SECOND FORM's CARD OF 'samaritanlaw53.VerifyCommittedLog'. -/
def verifyCommittedLogUptoCard : Claim7 := { stood := { row := verifyCommittedLogUptoRow, standIns := [], harness := (true, "1d1436db72fdef282e2e3360a73f29a88666de1cb9ce74d3713f967f9a77340d"), looks := false }, kinds := [], alts := [], laidByText := true, laidKinds := [.data], laidTests := true, laidLooks := .later }
def VerifyCommittedLogUptoCardSaid : Prop := Claim7.holds Tryz.pinned (.plain (OpenSpec.upto verifyCommittedLogSpec)) verifyCommittedLogUptoCard

/-- THE SECOND FORM's CARD OF 'samaritanlaw53.VerifyName'. -/
def verifyNameUptoCard : Claim7 := { stood := { row := verifyNameUptoRow, standIns := [], harness := (true, "1d1436db72fdef282e2e3360a73f29a88666de1cb9ce74d3713f967f9a77340d"), looks := false }, kinds := [], alts := [], laidByText := true, laidKinds := [.data], laidTests := true, laidLooks := .later }
def VerifyNameUptoCardSaid : Prop := Claim7.holds Tryz.pinned (.plain (OpenSpec.upto verifyNameSpec)) verifyNameUptoCard

/-- THE SECOND FORM's CARD OF 'samaritanlaw54.InquestFormat'. -/
def inquestFormatUptoCard : Claim7 := { stood := { row := inquestFormatUptoRow, standIns := [], harness := (true, "1d1436db72fdef282e2e3360a73f29a88666de1cb9ce74d3713f967f9a77340d"), looks := false }, kinds := [], alts := [], laidByText := true, laidKinds := [.data, .data, .data], laidTests := true, laidLooks := .later }
def InquestFormatUptoCardSaid : Prop := Claim7.holds Tryz.pinned (.plain (OpenSpec.upto inquestFormatSpec)) inquestFormatUptoCard
end Rows
end Go.Proofs.YtjhhdklbiibhdaaGreatDoor
