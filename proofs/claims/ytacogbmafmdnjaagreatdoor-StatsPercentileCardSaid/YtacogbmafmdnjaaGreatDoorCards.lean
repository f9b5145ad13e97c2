/-
  DERIVED. GIVEN WITH THE SEED: THE CARDS: each row of YtacogbmafmdnjaaGreatDoorRows.lean that lists a variable, with what it lists TIED to the program's text (the seventh form; the later family's looks); each row that meets fmt, with fmt's text TOLD by the authors' own Lean function (tested against real Go, not proved from fmt's source: count such statements apart). THE CARD IS WHAT COUNTS. Prove the row's statement (the work); the ties are given (YtacogbmafmdnjaaGreatDoorTie.lean); close each card by the builder's one call (the guide's Derived/Test/ToyasCard.lean, 'card_holds'). Laid BY PROGRAM, IN A SANDBOX (cutbox-door.mjs). By AI agents, Wed Nov 11 2026. No macro, syntax, notation, axiom, sorry.
-/
import Derived.Test.YtacogbmafmdnjaaGreatDoorRows
import GoSem.ClaimSeven
namespace Go.Proofs.YtacogbmafmdnjaaGreatDoor
namespace Rows

/-- THE TIED CARD OF 'samaritanlaw55.StatsSummary'. -/
def statsSummaryCard : Claim7 := { stood := { row := statsSummaryRow, standIns := [], harness := (true, "51e7748c48568807ac5c4575b2ceec215f51bd5a3ad07d1b454bc1b3d3d37dc3"), looks := false }, kinds := [], alts := [], laidByText := true, laidKinds := [.data], laidTests := true, laidLooks := .later }
def StatsSummaryCardSaid : Prop := Claim7.holds Tryz.pinned (.plain (OpenSpec.ofChange statsSummarySpec)) statsSummaryCard

/-- THE TIED CARD OF 'samaritanlaw55.StatsAdd'. -/
def statsAddCard : Claim7 := { stood := { row := statsAddRow, standIns := [], harness := (true, "51e7748c48568807ac5c4575b2ceec215f51bd5a3ad07d1b454bc1b3d3d37dc3"), looks := false }, kinds := [], alts := [], laidByText := true, laidKinds := [.data], laidTests := true, laidLooks := .later }
def StatsAddCardSaid : Prop := Claim7.holds Tryz.pinned (.plain (OpenSpec.ofChange statsAddSpec)) statsAddCard

/-- THE TIED CARD OF 'samaritanlaw55.StatsPercentile'. -/
def statsPercentileCard : Claim7 := { stood := { row := statsPercentileRow, standIns := [], harness := (true, "51e7748c48568807ac5c4575b2ceec215f51bd5a3ad07d1b454bc1b3d3d37dc3"), looks := false }, kinds := [], alts := [], laidByText := true, laidKinds := [.data], laidTests := true, laidLooks := .later }
def StatsPercentileCardSaid : Prop := Claim7.holds Tryz.pinned (.plain (OpenSpec.ofChange statsPercentileSpec)) statsPercentileCard

/-- THE TIED CARD OF 'samaritanlaw55.StatsWaitingTimes'. -/
def statsWaitingTimesCard : Claim7 := { stood := { row := statsWaitingTimesRow, standIns := [], harness := (true, "51e7748c48568807ac5c4575b2ceec215f51bd5a3ad07d1b454bc1b3d3d37dc3"), looks := false }, kinds := [], alts := [], laidByText := true, laidKinds := [.data], laidTests := true, laidLooks := .later }
def StatsWaitingTimesCardSaid : Prop := Claim7.holds Tryz.pinned (.plain (OpenSpec.ofChange statsWaitingTimesSpec)) statsWaitingTimesCard

/-- THE TIED CARD OF 'samaritanlaw55.StatsInvalidCountry'. -/
def statsInvalidCountryCard : Claim7 := { stood := { row := statsInvalidCountryRow, standIns := [], harness := (true, "51e7748c48568807ac5c4575b2ceec215f51bd5a3ad07d1b454bc1b3d3d37dc3"), looks := false }, kinds := [], alts := [], laidByText := true, laidKinds := [.data], laidTests := true, laidLooks := .later }
def StatsInvalidCountryCardSaid : Prop := Claim7.holds Tryz.pinned (.plain (OpenSpec.ofChange statsInvalidCountrySpec)) statsInvalidCountryCard

/-- THE TIED CARD OF 'samaritanlaw55.StatsText'. -/
def statsTextCard : Claim7 := { stood := { row := statsTextRow, standIns := [], harness := (true, "51e7748c48568807ac5c4575b2ceec215f51bd5a3ad07d1b454bc1b3d3d37dc3"), looks := false }, kinds := [], alts := [], laidByText := true, laidKinds := [.data, .data, .data], laidTests := true, laidLooks := .later }
def StatsTextCardSaid : Prop := Claim7.holds Tryz.pinned (.plain (OpenSpec.ofChange statsTextSpec)) statsTextCard

/-- THE SECOND FORM's CARD OF 'samaritanlaw55.StatsSummary'. -/
def statsSummaryUptoCard : Claim7 := { stood := { row := statsSummaryUptoRow, standIns := [], harness := (true, "51e7748c48568807ac5c4575b2ceec215f51bd5a3ad07d1b454bc1b3d3d37dc3"), looks := false }, kinds := [], alts := [], laidByText := true, laidKinds := [.data], laidTests := true, laidLooks := .later }
def StatsSummaryUptoCardSaid : Prop := Claim7.holds Tryz.pinned (.plain (OpenSpec.upto statsSummarySpec)) statsSummaryUptoCard

/-- THE SECOND FORM's CARD OF 'samaritanlaw55.StatsAdd'. -/
def statsAddUptoCard : Claim7 := { stood := { row := statsAddUptoRow, standIns := [], harness := (true, "51e7748c48568807ac5c4575b2ceec215f51bd5a3ad07d1b454bc1b3d3d37dc3"), looks := false }, kinds := [], alts := [], laidByText := true, laidKinds := [.data], laidTests := true, laidLooks := .later }
def StatsAddUptoCardSaid : Prop := Claim7.holds Tryz.pinned (.plain (OpenSpec.upto statsAddSpec)) statsAddUptoCard

/-- THE SECOND FORM's CARD OF 'samaritanlaw55.StatsPercentile'. -/
def statsPercentileUptoCard : Claim7 := { stood := { row := statsPercentileUptoRow, standIns := [], harness := (true, "51e7748c48568807ac5c4575b2ceec215f51bd5a3ad07d1b454bc1b3d3d37dc3"), looks := false }, kinds := [], alts := [], laidByText := true, laidKinds := [.data], laidTests := true, laidLooks := .later }
def StatsPercentileUptoCardSaid : Prop := Claim7.holds Tryz.pinned (.plain (OpenSpec.upto statsPercentileSpec)) statsPercentileUptoCard

/-- THE SECOND FORM's CARD OF 'samaritanlaw55.StatsWaitingTimes'. -/
def statsWaitingTimesUptoCard : Claim7 := { stood := { row := statsWaitingTimesUptoRow, standIns := [], harness := (true, "51e7748c48568807ac5c4575b2ceec215f51bd5a3ad07d1b454bc1b3d3d37dc3"), looks := false }, kinds := [], alts := [], laidByText := true, laidKinds := [.data], laidTests := true, laidLooks := .later }
def StatsWaitingTimesUptoCardSaid : Prop := Claim7.holds Tryz.pinned (.plain (OpenSpec.upto statsWaitingTimesSpec)) statsWaitingTimesUptoCard

/-- THE SECOND FORM's CARD OF 'samaritanlaw55.StatsInvalidCountry'. -/
def statsInvalidCountryUptoCard : Claim7 := { stood := { row := statsInvalidCountryUptoRow, standIns := [], harness := (true, "51e7748c48568807ac5c4575b2ceec215f51bd5a3ad07d1b454bc1b3d3d37dc3"), looks := false }, kinds := [], alts := [], laidByText := true, laidKinds := [.data], laidTests := true, laidLooks := .later }
def StatsInvalidCountryUptoCardSaid : Prop := Claim7.holds Tryz.pinned (.plain (OpenSpec.upto statsInvalidCountrySpec)) statsInvalidCountryUptoCard

/-- THE SECOND FORM's CARD OF 'samaritanlaw55.StatsText'. -/
def statsTextUptoCard : Claim7 := { stood := { row := statsTextUptoRow, standIns := [], harness := (true, "51e7748c48568807ac5c4575b2ceec215f51bd5a3ad07d1b454bc1b3d3d37dc3"), looks := false }, kinds := [], alts := [], laidByText := true, laidKinds := [.data, .data, .data], laidTests := true, laidLooks := .later }
def StatsTextUptoCardSaid : Prop := Claim7.holds Tryz.pinned (.plain (OpenSpec.upto statsTextSpec)) statsTextUptoCard
end Rows
end Go.Proofs.YtacogbmafmdnjaaGreatDoor
