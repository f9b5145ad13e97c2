/-
  NARROWER THAN 'FOR EVERY INPUT', by the rows' own cells (each row's printed sentence says how): StatsSummary: laid · StatsAdd: laid · StatsPercentile: laid · StatsWaitingTimes: laid · StatsInvalidCountry: laid · StatsText: laid.
  DERIVED. THE GIVEN ROWS OF THIS SEAT. 6 by the template 'for every input the law returns true; each argument reads behind the call as it read before'; 0 by the template 'total and deterministic' (their statements: YtacogbmafmdnjaaGreatDoorTotals.lean).
  GIVEN WITH THE SEED: the statements are not yours to turn. If you find one false, say at which input.
  Laid BY PROGRAM, IN A SANDBOX (cutbox-rows.mjs): the forced cells as the released guide's own fill.sh prints them over the translation 834957dcd8ef2284… (all of the seat's roots in one cut). By AI agents, Wed Nov 11 2026. No macro, syntax, notation, axiom, sorry.
-/
import Derived.Test.YtacogbmafmdnjaaGreatDoorChecked
import GoSem.Claim
import GoSem.ClaimJoined
import GoSem.ClaimMapViews
import Derived.JoinedTies
import Derived.KernelRfl
namespace Go.Proofs.YtacogbmafmdnjaaGreatDoor
/- THE CELL 'sum', in the pinned program and in every row, IS THE sha256 OF THE DUMP (.gsa) THAT YtacogbmafmdnjaaGreatDoorProg.lean LOADS. Nothing in Lean hashes anything: it is a label: what it is worth is what the hold of that sum in a sandbox is worth. -/
noncomputable def Tryz.pinned : Pinned := { name := "ytacogbmafmdnjaagreatdoor", sum := "834957dcd8ef228457e992de40cfa3251bdb347fcd6411183ceb7313abb4330a", checked := Tryz.checked }
namespace Rows
def none {H : Type} : Left H := { results := [], args := [] }

/- WHAT THE LISTED PACKAGE-LEVEL VARIABLES READ AS WHEN THE CALL BEGINS. Each datum BY PROGRAM (the guide's laid-datum.mjs) off the statement by which the dump's own 'gosem.cut.vars' lays the variable. In a bare row this is a premise. The card (YtacogbmafmdnjaaGreatDoorCards.lean) ties it to the program's text. -/
def laid_math_bits_deBruijn64tab {H : Type} : DataW H := .agg [.lit (.int .u8 0), .lit (.int .u8 1), .lit (.int .u8 56), .lit (.int .u8 2), .lit (.int .u8 57), .lit (.int .u8 49), .lit (.int .u8 28), .lit (.int .u8 3), .lit (.int .u8 61), .lit (.int .u8 58), .lit (.int .u8 42), .lit (.int .u8 50), .lit (.int .u8 38), .lit (.int .u8 29), .lit (.int .u8 17), .lit (.int .u8 4), .lit (.int .u8 62), .lit (.int .u8 47), .lit (.int .u8 59), .lit (.int .u8 36), .lit (.int .u8 45), .lit (.int .u8 43), .lit (.int .u8 51), .lit (.int .u8 22), .lit (.int .u8 53), .lit (.int .u8 39), .lit (.int .u8 33), .lit (.int .u8 30), .lit (.int .u8 24), .lit (.int .u8 18), .lit (.int .u8 12), .lit (.int .u8 5), .lit (.int .u8 63), .lit (.int .u8 55), .lit (.int .u8 48), .lit (.int .u8 27), .lit (.int .u8 60), .lit (.int .u8 41), .lit (.int .u8 37), .lit (.int .u8 16), .lit (.int .u8 46), .lit (.int .u8 35), .lit (.int .u8 44), .lit (.int .u8 21), .lit (.int .u8 52), .lit (.int .u8 32), .lit (.int .u8 23), .lit (.int .u8 11), .lit (.int .u8 54), .lit (.int .u8 26), .lit (.int .u8 40), .lit (.int .u8 15), .lit (.int .u8 34), .lit (.int .u8 20), .lit (.int .u8 31), .lit (.int .u8 10), .lit (.int .u8 25), .lit (.int .u8 14), .lit (.int .u8 19), .lit (.int .u8 9), .lit (.int .u8 13), .lit (.int .u8 8), .lit (.int .u8 7), .lit (.int .u8 6)]
def laid_math_bits_deBruijn32tab {H : Type} : DataW H := .agg [.lit (.int .u8 0), .lit (.int .u8 1), .lit (.int .u8 28), .lit (.int .u8 2), .lit (.int .u8 29), .lit (.int .u8 14), .lit (.int .u8 24), .lit (.int .u8 3), .lit (.int .u8 30), .lit (.int .u8 22), .lit (.int .u8 20), .lit (.int .u8 15), .lit (.int .u8 25), .lit (.int .u8 17), .lit (.int .u8 4), .lit (.int .u8 8), .lit (.int .u8 31), .lit (.int .u8 27), .lit (.int .u8 13), .lit (.int .u8 23), .lit (.int .u8 21), .lit (.int .u8 19), .lit (.int .u8 16), .lit (.int .u8 7), .lit (.int .u8 26), .lit (.int .u8 12), .lit (.int .u8 18), .lit (.int .u8 6), .lit (.int .u8 11), .lit (.int .u8 5), .lit (.int .u8 10), .lit (.int .u8 9)]
def laid_internal_strconv_uint64pow10 {H : Type} : DataW H := .agg [.lit (.int .u64 1), .lit (.int .u64 10), .lit (.int .u64 100), .lit (.int .u64 1000), .lit (.int .u64 10000), .lit (.int .u64 100000), .lit (.int .u64 1000000), .lit (.int .u64 10000000), .lit (.int .u64 100000000), .lit (.int .u64 1000000000), .lit (.int .u64 10000000000), .lit (.int .u64 100000000000), .lit (.int .u64 1000000000000), .lit (.int .u64 10000000000000), .lit (.int .u64 100000000000000), .lit (.int .u64 1000000000000000), .lit (.int .u64 10000000000000000), .lit (.int .u64 100000000000000000), .lit (.int .u64 1000000000000000000), .lit (.int .u64 10000000000000000000)]

/-- 'samaritanlaw55.StatsSummary': WHATEVER THE INPUT: true; the input reads as it did. -/
def statsSummarySpec : ChangeSpec := { name := "statsSummary", fn := fun _ => fun
  | [d] => { results := [.lit (.bool true)], args := [d] }
  | _ => none }
def statsSummaryRow : OpenClaim := { program := "ytacogbmafmdnjaagreatdoor", sum := "834957dcd8ef228457e992de40cfa3251bdb347fcd6411183ceb7313abb4330a", func := "samaritan/samaritanlaw55.StatsSummary", spec := "statsSummary", inPlace := ["internal/bytealg.IndexByteString", "internal/bytealg.IndexString"], unfollowed := true, recurses := true, named := ["internal/bytealg.MaxLen", "math/bits.deBruijn64tab"], apart := false, laid := [("math/bits.deBruijn64tab", laid_math_bits_deBruijn64tab)] }
def StatsSummarySaid : Prop := statsSummaryRow.holds Tryz.pinned (OpenSpec.ofChange statsSummarySpec)

/-- ITS FALSE NEIGHBOUR: 'it returns false'. Refute it at one input. -/
def statsSummaryWrong : ChangeSpec := { name := "statsSummary", fn := fun _ => fun
  | [d] => { results := [.lit (.bool false)], args := [d] }
  | _ => none }
def StatsSummaryWrongFalsely : Prop := statsSummaryRow.holds Tryz.pinned (OpenSpec.ofChange statsSummaryWrong)

/-- 'samaritanlaw55.StatsAdd': WHATEVER THE INPUT: true; the input reads as it did. -/
def statsAddSpec : ChangeSpec := { name := "statsAdd", fn := fun _ => fun
  | [d1, d2] => { results := [.lit (.bool true)], args := [d1, d2] }
  | _ => none }
def statsAddRow : OpenClaim := { program := "ytacogbmafmdnjaagreatdoor", sum := "834957dcd8ef228457e992de40cfa3251bdb347fcd6411183ceb7313abb4330a", func := "samaritan/samaritanlaw55.StatsAdd", spec := "statsAdd", inPlace := ["internal/bytealg.IndexByteString", "internal/bytealg.IndexString"], unfollowed := true, recurses := true, named := ["internal/bytealg.MaxLen", "math/bits.deBruijn64tab"], apart := false, laid := [("math/bits.deBruijn64tab", laid_math_bits_deBruijn64tab)] }
def StatsAddSaid : Prop := statsAddRow.holds Tryz.pinned (OpenSpec.ofChange statsAddSpec)

/-- ITS FALSE NEIGHBOUR: 'it returns false'. Refute it at one input. -/
def statsAddWrong : ChangeSpec := { name := "statsAdd", fn := fun _ => fun
  | [d1, d2] => { results := [.lit (.bool false)], args := [d1, d2] }
  | _ => none }
def StatsAddWrongFalsely : Prop := statsAddRow.holds Tryz.pinned (OpenSpec.ofChange statsAddWrong)

/-- 'samaritanlaw55.StatsPercentile': WHATEVER THE INPUT: true; the input reads as it did. -/
def statsPercentileSpec : ChangeSpec := { name := "statsPercentile", fn := fun _ => fun
  | [d1, d2] => { results := [.lit (.bool true)], args := [d1, d2] }
  | _ => none }
def statsPercentileRow : OpenClaim := { program := "ytacogbmafmdnjaagreatdoor", sum := "834957dcd8ef228457e992de40cfa3251bdb347fcd6411183ceb7313abb4330a", func := "samaritan/samaritanlaw55.StatsPercentile", spec := "statsPercentile", inPlace := ["internal/bytealg.IndexByteString", "internal/bytealg.IndexString"], unfollowed := true, recurses := true, named := ["internal/bytealg.MaxLen", "math/bits.deBruijn64tab"], apart := false, laid := [("math/bits.deBruijn64tab", laid_math_bits_deBruijn64tab)] }
def StatsPercentileSaid : Prop := statsPercentileRow.holds Tryz.pinned (OpenSpec.ofChange statsPercentileSpec)

/-- ITS FALSE NEIGHBOUR: 'it returns false'. Refute it at one input. -/
def statsPercentileWrong : ChangeSpec := { name := "statsPercentile", fn := fun _ => fun
  | [d1, d2] => { results := [.lit (.bool false)], args := [d1, d2] }
  | _ => none }
def StatsPercentileWrongFalsely : Prop := statsPercentileRow.holds Tryz.pinned (OpenSpec.ofChange statsPercentileWrong)

/-- 'samaritanlaw55.StatsWaitingTimes': WHATEVER THE INPUT: true; the input reads as it did. -/
def statsWaitingTimesSpec : ChangeSpec := { name := "statsWaitingTimes", fn := fun _ => fun
  | [d] => { results := [.lit (.bool true)], args := [d] }
  | _ => none }
def statsWaitingTimesRow : OpenClaim := { program := "ytacogbmafmdnjaagreatdoor", sum := "834957dcd8ef228457e992de40cfa3251bdb347fcd6411183ceb7313abb4330a", func := "samaritan/samaritanlaw55.StatsWaitingTimes", spec := "statsWaitingTimes", inPlace := ["internal/bytealg.IndexByteString", "internal/bytealg.IndexString"], unfollowed := true, recurses := true, named := ["internal/bytealg.MaxLen", "math/bits.deBruijn64tab"], apart := false, laid := [("math/bits.deBruijn64tab", laid_math_bits_deBruijn64tab)] }
def StatsWaitingTimesSaid : Prop := statsWaitingTimesRow.holds Tryz.pinned (OpenSpec.ofChange statsWaitingTimesSpec)

/-- ITS FALSE NEIGHBOUR: 'it returns false'. Refute it at one input. -/
def statsWaitingTimesWrong : ChangeSpec := { name := "statsWaitingTimes", fn := fun _ => fun
  | [d] => { results := [.lit (.bool false)], args := [d] }
  | _ => none }
def StatsWaitingTimesWrongFalsely : Prop := statsWaitingTimesRow.holds Tryz.pinned (OpenSpec.ofChange statsWaitingTimesWrong)

/-- 'samaritanlaw55.StatsInvalidCountry': WHATEVER THE INPUT: true; the input reads as it did. -/
def statsInvalidCountrySpec : ChangeSpec := { name := "statsInvalidCountry", fn := fun _ => fun
  | [d] => { results := [.lit (.bool true)], args := [d] }
  | _ => none }
def statsInvalidCountryRow : OpenClaim := { program := "ytacogbmafmdnjaagreatdoor", sum := "834957dcd8ef228457e992de40cfa3251bdb347fcd6411183ceb7313abb4330a", func := "samaritan/samaritanlaw55.StatsInvalidCountry", spec := "statsInvalidCountry", inPlace := ["internal/bytealg.IndexByteString", "internal/bytealg.IndexString"], unfollowed := true, recurses := true, named := ["internal/bytealg.MaxLen", "math/bits.deBruijn64tab"], apart := false, laid := [("math/bits.deBruijn64tab", laid_math_bits_deBruijn64tab)] }
def StatsInvalidCountrySaid : Prop := statsInvalidCountryRow.holds Tryz.pinned (OpenSpec.ofChange statsInvalidCountrySpec)

/-- ITS FALSE NEIGHBOUR: 'it returns false'. Refute it at one input. -/
def statsInvalidCountryWrong : ChangeSpec := { name := "statsInvalidCountry", fn := fun _ => fun
  | [d] => { results := [.lit (.bool false)], args := [d] }
  | _ => none }
def StatsInvalidCountryWrongFalsely : Prop := statsInvalidCountryRow.holds Tryz.pinned (OpenSpec.ofChange statsInvalidCountryWrong)

/-- 'samaritanlaw55.StatsText': WHATEVER THE INPUT: true; the input reads as it did. -/
def statsTextSpec : ChangeSpec := { name := "statsText", fn := fun _ => fun
  | [d] => { results := [.lit (.bool true)], args := [d] }
  | _ => none }
def statsTextRow : OpenClaim := { program := "ytacogbmafmdnjaagreatdoor", sum := "834957dcd8ef228457e992de40cfa3251bdb347fcd6411183ceb7313abb4330a", func := "samaritan/samaritanlaw55.StatsText", spec := "statsText", inPlace := ["internal/bytealg.IndexByteString", "internal/bytealg.IndexString", "internal/abi.NoEscape"], unfollowed := true, recurses := true, named := ["internal/bytealg.MaxLen", "math/bits.deBruijn64tab", "internal/strconv.uint64pow10", "math/bits.deBruijn32tab"], apart := false, laid := [("math/bits.deBruijn32tab", laid_math_bits_deBruijn32tab), ("math/bits.deBruijn64tab", laid_math_bits_deBruijn64tab), ("internal/strconv.uint64pow10", laid_internal_strconv_uint64pow10)] }
def StatsTextSaid : Prop := statsTextRow.holds Tryz.pinned (OpenSpec.ofChange statsTextSpec)

/-- ITS FALSE NEIGHBOUR: 'it returns false'. Refute it at one input. -/
def statsTextWrong : ChangeSpec := { name := "statsText", fn := fun _ => fun
  | [d] => { results := [.lit (.bool false)], args := [d] }
  | _ => none }
def StatsTextWrongFalsely : Prop := statsTextRow.holds Tryz.pinned (OpenSpec.ofChange statsTextWrong)

/- THE SECOND FORM. 'bulk': how many values and letters a reading holds, each counted each time it is reached (what is shared counts as often as it is met; a slice's spare places count too). A statement '..UptoSaid' is the law's where the arguments, and the package variables that the reading takes, are together of bulk at most 1048576: NARROWER than '..Said'. Prove '..Said' where nothing that the law and all that it calls make is longer than what came in: it says more and counts as full. Else prove '..UptoSaid'. A law counts once. -/
mutual
def uptoBulk {H : Type} : DataW H → Nat
  | .lit (.string bytes) => bytes.length + 1
  | .lit _ => 1
  | .nil => 1
  | .ptr d => uptoBulk d + 1
  | .slice elems spare => uptoBulkAll elems + uptoBulkAll spare + 1
  | .agg parts => uptoBulkAll parts + 1
  | .iface _ d => uptoBulk d + 1
  | .map entries => uptoBulkEntries entries + 1
  | .held _ => 1
def uptoBulkAll {H : Type} : List (DataW H) → Nat
  | [] => 0
  | d :: r => uptoBulk d + uptoBulkAll r
def uptoBulkEntries {H : Type} : List (Lit × DataW H) → Nat
  | [] => 0
  | x :: r => uptoBulkEntry x + uptoBulkEntries r
def uptoBulkEntry {H : Type} : Lit × DataW H → Nat
  | (.string bytes, d) => bytes.length + uptoBulk d + 1
  | (_, d) => uptoBulk d + 1
 end
def uptoSmall : (H : Type) → List (DataW H) → Bool := fun _ ds => decide (uptoBulkAll ds ≤ 1048576)
def OpenSpec.upto (s : _root_.Go.ChangeSpec) : _root_.Go.OpenSpec := { _root_.Go.OpenSpec.ofChange s with cond := some uptoSmall }

/-- 'samaritanlaw55.StatsSummary', WHERE WHAT IT READS IS OF BULK AT MOST 1048576: true; the input reads as it did. -/
def statsSummaryUptoRow : OpenClaim := { program := "ytacogbmafmdnjaagreatdoor", sum := "834957dcd8ef228457e992de40cfa3251bdb347fcd6411183ceb7313abb4330a", func := "samaritan/samaritanlaw55.StatsSummary", spec := "statsSummary", inPlace := ["internal/bytealg.IndexByteString", "internal/bytealg.IndexString"], unfollowed := true, recurses := true, named := ["internal/bytealg.MaxLen", "math/bits.deBruijn64tab"], apart := false, laid := [("math/bits.deBruijn64tab", laid_math_bits_deBruijn64tab)], narrowed := true }
def StatsSummaryUptoSaid : Prop := statsSummaryUptoRow.holds Tryz.pinned (OpenSpec.upto statsSummarySpec)

/-- 'samaritanlaw55.StatsAdd', WHERE WHAT IT READS IS OF BULK AT MOST 1048576: true; the input reads as it did. -/
def statsAddUptoRow : OpenClaim := { program := "ytacogbmafmdnjaagreatdoor", sum := "834957dcd8ef228457e992de40cfa3251bdb347fcd6411183ceb7313abb4330a", func := "samaritan/samaritanlaw55.StatsAdd", spec := "statsAdd", inPlace := ["internal/bytealg.IndexByteString", "internal/bytealg.IndexString"], unfollowed := true, recurses := true, named := ["internal/bytealg.MaxLen", "math/bits.deBruijn64tab"], apart := false, laid := [("math/bits.deBruijn64tab", laid_math_bits_deBruijn64tab)], narrowed := true }
def StatsAddUptoSaid : Prop := statsAddUptoRow.holds Tryz.pinned (OpenSpec.upto statsAddSpec)

/-- 'samaritanlaw55.StatsPercentile', WHERE WHAT IT READS IS OF BULK AT MOST 1048576: true; the input reads as it did. -/
def statsPercentileUptoRow : OpenClaim := { program := "ytacogbmafmdnjaagreatdoor", sum := "834957dcd8ef228457e992de40cfa3251bdb347fcd6411183ceb7313abb4330a", func := "samaritan/samaritanlaw55.StatsPercentile", spec := "statsPercentile", inPlace := ["internal/bytealg.IndexByteString", "internal/bytealg.IndexString"], unfollowed := true, recurses := true, named := ["internal/bytealg.MaxLen", "math/bits.deBruijn64tab"], apart := false, laid := [("math/bits.deBruijn64tab", laid_math_bits_deBruijn64tab)], narrowed := true }
def StatsPercentileUptoSaid : Prop := statsPercentileUptoRow.holds Tryz.pinned (OpenSpec.upto statsPercentileSpec)

/-- 'samaritanlaw55.StatsWaitingTimes', WHERE WHAT IT READS IS OF BULK AT MOST 1048576: true; the input reads as it did. -/
def statsWaitingTimesUptoRow : OpenClaim := { program := "ytacogbmafmdnjaagreatdoor", sum := "834957dcd8ef228457e992de40cfa3251bdb347fcd6411183ceb7313abb4330a", func := "samaritan/samaritanlaw55.StatsWaitingTimes", spec := "statsWaitingTimes", inPlace := ["internal/bytealg.IndexByteString", "internal/bytealg.IndexString"], unfollowed := true, recurses := true, named := ["internal/bytealg.MaxLen", "math/bits.deBruijn64tab"], apart := false, laid := [("math/bits.deBruijn64tab", laid_math_bits_deBruijn64tab)], narrowed := true }
def StatsWaitingTimesUptoSaid : Prop := statsWaitingTimesUptoRow.holds Tryz.pinned (OpenSpec.upto statsWaitingTimesSpec)

/-- 'samaritanlaw55.StatsInvalidCountry', WHERE WHAT IT READS IS OF BULK AT MOST 1048576: true; the input reads as it did. -/
def statsInvalidCountryUptoRow : OpenClaim := { program := "ytacogbmafmdnjaagreatdoor", sum := "834957dcd8ef228457e992de40cfa3251bdb347fcd6411183ceb7313abb4330a", func := "samaritan/samaritanlaw55.StatsInvalidCountry", spec := "statsInvalidCountry", inPlace := ["internal/bytealg.IndexByteString", "internal/bytealg.IndexString"], unfollowed := true, recurses := true, named := ["internal/bytealg.MaxLen", "math/bits.deBruijn64tab"], apart := false, laid := [("math/bits.deBruijn64tab", laid_math_bits_deBruijn64tab)], narrowed := true }
def StatsInvalidCountryUptoSaid : Prop := statsInvalidCountryUptoRow.holds Tryz.pinned (OpenSpec.upto statsInvalidCountrySpec)

/-- 'samaritanlaw55.StatsText', WHERE WHAT IT READS IS OF BULK AT MOST 1048576: true; the input reads as it did. -/
def statsTextUptoRow : OpenClaim := { program := "ytacogbmafmdnjaagreatdoor", sum := "834957dcd8ef228457e992de40cfa3251bdb347fcd6411183ceb7313abb4330a", func := "samaritan/samaritanlaw55.StatsText", spec := "statsText", inPlace := ["internal/bytealg.IndexByteString", "internal/bytealg.IndexString", "internal/abi.NoEscape"], unfollowed := true, recurses := true, named := ["internal/bytealg.MaxLen", "math/bits.deBruijn64tab", "internal/strconv.uint64pow10", "math/bits.deBruijn32tab"], apart := false, laid := [("math/bits.deBruijn32tab", laid_math_bits_deBruijn32tab), ("math/bits.deBruijn64tab", laid_math_bits_deBruijn64tab), ("internal/strconv.uint64pow10", laid_internal_strconv_uint64pow10)], narrowed := true }
def StatsTextUptoSaid : Prop := statsTextUptoRow.holds Tryz.pinned (OpenSpec.upto statsTextSpec)

end Rows
end Go.Proofs.YtacogbmafmdnjaaGreatDoor
