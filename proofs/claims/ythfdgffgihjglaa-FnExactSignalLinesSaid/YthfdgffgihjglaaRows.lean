/-
  No cell of these rows narrows 'for every input' (looked for: loops, veiled, ifaces, maps, wideKeys, modest, calm, conditions, laid).
  DERIVED. THE GIVEN ROWS OF THIS SEAT. 8 by the template 'for every input the law returns true; each argument reads behind the call as it read before'; 0 by the template 'total and deterministic' (their statements: YthfdgffgihjglaaTotals.lean).
  GIVEN WITH THE SEED: the statements are not yours to turn. If you find one false, say at which input.
  Laid BY PROGRAM, IN A SANDBOX (cutbox-rows.mjs): the forced cells as the released guide's own fill.sh prints them over the translation 5dc454fde85d6d8d… (all of the seat's roots in one cut). By AI agents, Wed Nov 11 2026. No macro, syntax, notation, axiom, sorry.
-/
import Derived.Test.YthfdgffgihjglaaChecked
import GoSem.Claim
import GoSem.ClaimJoined
import GoSem.ClaimMapViews
import Derived.JoinedTies
import Derived.KernelRfl
namespace Go.Proofs.Ythfdgffgihjglaa
/- THE CELL 'sum', in the pinned program and in every row, IS THE sha256 OF THE DUMP (.gsa) THAT YthfdgffgihjglaaProg.lean LOADS. Nothing in Lean hashes anything: it is a label: what it is worth is what the hold of that sum in a sandbox is worth. -/
noncomputable def Try.pinned : Pinned := { name := "ythfdgffgihjglaa", sum := "5dc454fde85d6d8ddf2f219f8104e3dbf92bc30e8159df963443e9f4aa55d57c", checked := Try.checked }
namespace Rows
def none {H : Type} : Left H := { results := [], args := [] }

/-- 'laws.FnExactSequenceTest': WHATEVER THE INPUT: true; the input reads as it did. -/
def fnExactSequenceTestSpec : ChangeSpec := { name := "fnExactSequenceTest", fn := fun _ => fun
  | [d1, d2, d3, d4, d5] => { results := [.lit (.bool true)], args := [d1, d2, d3, d4, d5] }
  | _ => none }
def fnExactSequenceTestRow : OpenClaim := { program := "ythfdgffgihjglaa", sum := "5dc454fde85d6d8ddf2f219f8104e3dbf92bc30e8159df963443e9f4aa55d57c", func := "loop.example/g01382/laws.FnExactSequenceTest", spec := "fnExactSequenceTest", inPlace := ["math.Float64frombits", "math.Float64bits"], unfollowed := true, recurses := true, apart := false }
def FnExactSequenceTestSaid : Prop := fnExactSequenceTestRow.holds Try.pinned (OpenSpec.ofChange fnExactSequenceTestSpec)

/-- ITS FALSE NEIGHBOUR: 'it returns false'. Refute it at one input. -/
def fnExactSequenceTestWrong : ChangeSpec := { name := "fnExactSequenceTest", fn := fun _ => fun
  | [d1, d2, d3, d4, d5] => { results := [.lit (.bool false)], args := [d1, d2, d3, d4, d5] }
  | _ => none }
def FnExactSequenceTestWrongFalsely : Prop := fnExactSequenceTestRow.holds Try.pinned (OpenSpec.ofChange fnExactSequenceTestWrong)

/-- 'laws.FnExactSequenceChances': WHATEVER THE INPUT: true; the input reads as it did. -/
def fnExactSequenceChancesSpec : ChangeSpec := { name := "fnExactSequenceChances", fn := fun _ => fun
  | [d1, d2, d3, d4, d5, d6] => { results := [.lit (.bool true)], args := [d1, d2, d3, d4, d5, d6] }
  | _ => none }
def fnExactSequenceChancesRow : OpenClaim := { program := "ythfdgffgihjglaa", sum := "5dc454fde85d6d8ddf2f219f8104e3dbf92bc30e8159df963443e9f4aa55d57c", func := "loop.example/g01382/laws.FnExactSequenceChances", spec := "fnExactSequenceChances", inPlace := ["math.Float64frombits", "math.Float64bits"], unfollowed := true, recurses := true, apart := false }
def FnExactSequenceChancesSaid : Prop := fnExactSequenceChancesRow.holds Try.pinned (OpenSpec.ofChange fnExactSequenceChancesSpec)

/-- ITS FALSE NEIGHBOUR: 'it returns false'. Refute it at one input. -/
def fnExactSequenceChancesWrong : ChangeSpec := { name := "fnExactSequenceChances", fn := fun _ => fun
  | [d1, d2, d3, d4, d5, d6] => { results := [.lit (.bool false)], args := [d1, d2, d3, d4, d5, d6] }
  | _ => none }
def FnExactSequenceChancesWrongFalsely : Prop := fnExactSequenceChancesRow.holds Try.pinned (OpenSpec.ofChange fnExactSequenceChancesWrong)

/-- 'laws.FnSequences': WHATEVER THE INPUT: true; the input reads as it did. -/
def fnSequencesSpec : ChangeSpec := { name := "fnSequences", fn := fun _ => fun
  | [d1, d2] => { results := [.lit (.bool true)], args := [d1, d2] }
  | _ => none }
def fnSequencesRow : OpenClaim := { program := "ythfdgffgihjglaa", sum := "5dc454fde85d6d8ddf2f219f8104e3dbf92bc30e8159df963443e9f4aa55d57c", func := "loop.example/g01382/laws.FnSequences", spec := "fnSequences", inPlace := ["math.Float64frombits", "math.sqrt"], unfollowed := true, recurses := true, apart := false }
def FnSequencesSaid : Prop := fnSequencesRow.holds Try.pinned (OpenSpec.ofChange fnSequencesSpec)

/-- ITS FALSE NEIGHBOUR: 'it returns false'. Refute it at one input. -/
def fnSequencesWrong : ChangeSpec := { name := "fnSequences", fn := fun _ => fun
  | [d1, d2] => { results := [.lit (.bool false)], args := [d1, d2] }
  | _ => none }
def FnSequencesWrongFalsely : Prop := fnSequencesRow.holds Try.pinned (OpenSpec.ofChange fnSequencesWrong)

/-- 'laws.FnExactBearingRates': WHATEVER THE INPUT: true; the input reads as it did. -/
def fnExactBearingRatesSpec : ChangeSpec := { name := "fnExactBearingRates", fn := fun _ => fun
  | [d1, d2, d3] => { results := [.lit (.bool true)], args := [d1, d2, d3] }
  | _ => none }
def fnExactBearingRatesRow : OpenClaim := { program := "ythfdgffgihjglaa", sum := "5dc454fde85d6d8ddf2f219f8104e3dbf92bc30e8159df963443e9f4aa55d57c", func := "loop.example/g01382/laws.FnExactBearingRates", spec := "fnExactBearingRates", inPlace := ["math.Float32frombits", "math.Float64frombits", "math.Float64bits"], unfollowed := true, recurses := true, apart := false }
def FnExactBearingRatesSaid : Prop := fnExactBearingRatesRow.holds Try.pinned (OpenSpec.ofChange fnExactBearingRatesSpec)

/-- ITS FALSE NEIGHBOUR: 'it returns false'. Refute it at one input. -/
def fnExactBearingRatesWrong : ChangeSpec := { name := "fnExactBearingRates", fn := fun _ => fun
  | [d1, d2, d3] => { results := [.lit (.bool false)], args := [d1, d2, d3] }
  | _ => none }
def FnExactBearingRatesWrongFalsely : Prop := fnExactBearingRatesRow.holds Try.pinned (OpenSpec.ofChange fnExactBearingRatesWrong)

/-- 'laws.FnExactLineAt': WHATEVER THE INPUT: true; the input reads as it did. -/
def fnExactLineAtSpec : ChangeSpec := { name := "fnExactLineAt", fn := fun _ => fun
  | [d1, d2] => { results := [.lit (.bool true)], args := [d1, d2] }
  | _ => none }
def fnExactLineAtRow : OpenClaim := { program := "ythfdgffgihjglaa", sum := "5dc454fde85d6d8ddf2f219f8104e3dbf92bc30e8159df963443e9f4aa55d57c", func := "loop.example/g01382/laws.FnExactLineAt", spec := "fnExactLineAt", inPlace := ["math.Float32frombits", "math.Float64frombits", "math.Float64bits"], unfollowed := true, recurses := true, apart := false }
def FnExactLineAtSaid : Prop := fnExactLineAtRow.holds Try.pinned (OpenSpec.ofChange fnExactLineAtSpec)

/-- ITS FALSE NEIGHBOUR: 'it returns false'. Refute it at one input. -/
def fnExactLineAtWrong : ChangeSpec := { name := "fnExactLineAt", fn := fun _ => fun
  | [d1, d2] => { results := [.lit (.bool false)], args := [d1, d2] }
  | _ => none }
def FnExactLineAtWrongFalsely : Prop := fnExactLineAtRow.holds Try.pinned (OpenSpec.ofChange fnExactLineAtWrong)

/-- 'laws.FnExactSignalLines': WHATEVER THE INPUT: true; the input reads as it did. -/
def fnExactSignalLinesSpec : ChangeSpec := { name := "fnExactSignalLines", fn := fun _ => fun
  | [d] => { results := [.lit (.bool true)], args := [d] }
  | _ => none }
def fnExactSignalLinesRow : OpenClaim := { program := "ythfdgffgihjglaa", sum := "5dc454fde85d6d8ddf2f219f8104e3dbf92bc30e8159df963443e9f4aa55d57c", func := "loop.example/g01382/laws.FnExactSignalLines", spec := "fnExactSignalLines", inPlace := ["math.Float32frombits", "math.Float64frombits", "math.Float64bits"], unfollowed := true, recurses := true, apart := false }
def FnExactSignalLinesSaid : Prop := fnExactSignalLinesRow.holds Try.pinned (OpenSpec.ofChange fnExactSignalLinesSpec)

/-- ITS FALSE NEIGHBOUR: 'it returns false'. Refute it at one input. -/
def fnExactSignalLinesWrong : ChangeSpec := { name := "fnExactSignalLines", fn := fun _ => fun
  | [d] => { results := [.lit (.bool false)], args := [d] }
  | _ => none }
def FnExactSignalLinesWrongFalsely : Prop := fnExactSignalLinesRow.holds Try.pinned (OpenSpec.ofChange fnExactSignalLinesWrong)

/-- 'laws.FnExactSameSaved': WHATEVER THE INPUT: true; the input reads as it did. -/
def fnExactSameSavedSpec : ChangeSpec := { name := "fnExactSameSaved", fn := fun _ => fun
  | [d1, d2] => { results := [.lit (.bool true)], args := [d1, d2] }
  | _ => none }
def fnExactSameSavedRow : OpenClaim := { program := "ythfdgffgihjglaa", sum := "5dc454fde85d6d8ddf2f219f8104e3dbf92bc30e8159df963443e9f4aa55d57c", func := "loop.example/g01382/laws.FnExactSameSaved", spec := "fnExactSameSaved", inPlace := ["math.Float32bits", "math.Float64bits"], unfollowed := true, recurses := true, apart := false }
def FnExactSameSavedSaid : Prop := fnExactSameSavedRow.holds Try.pinned (OpenSpec.ofChange fnExactSameSavedSpec)

/-- ITS FALSE NEIGHBOUR: 'it returns false'. Refute it at one input. -/
def fnExactSameSavedWrong : ChangeSpec := { name := "fnExactSameSaved", fn := fun _ => fun
  | [d1, d2] => { results := [.lit (.bool false)], args := [d1, d2] }
  | _ => none }
def FnExactSameSavedWrongFalsely : Prop := fnExactSameSavedRow.holds Try.pinned (OpenSpec.ofChange fnExactSameSavedWrong)

/-- 'laws.FnCharts': WHATEVER THE INPUT: true; the input reads as it did. -/
def fnChartsSpec : ChangeSpec := { name := "fnCharts", fn := fun _ => fun
  | [d1, d2] => { results := [.lit (.bool true)], args := [d1, d2] }
  | _ => none }
def fnChartsRow : OpenClaim := { program := "ythfdgffgihjglaa", sum := "5dc454fde85d6d8ddf2f219f8104e3dbf92bc30e8159df963443e9f4aa55d57c", func := "loop.example/g01382/laws.FnCharts", spec := "fnCharts", unfollowed := true, recurses := true, apart := false }
def FnChartsSaid : Prop := fnChartsRow.holds Try.pinned (OpenSpec.ofChange fnChartsSpec)

/-- ITS FALSE NEIGHBOUR: 'it returns false'. Refute it at one input. -/
def fnChartsWrong : ChangeSpec := { name := "fnCharts", fn := fun _ => fun
  | [d1, d2] => { results := [.lit (.bool false)], args := [d1, d2] }
  | _ => none }
def FnChartsWrongFalsely : Prop := fnChartsRow.holds Try.pinned (OpenSpec.ofChange fnChartsWrong)

/- THE SECOND FORM. 'bulk': how many values and letters a reading holds, each counted each time it is reached (what is shared counts as often as it is met; a slice's spare places count too). A statement '..UptoSaid' is the law's where the arguments, and the package variables that the reading takes, are together of bulk at most 1048576: NARROWER than '..Said'. Prove '..Said' where nothing that the law and all that it calls make is longer than what came in: it says more and counts as full. Else prove '..UptoSaid'. A law counts once. -/
mutual
def uptoBulk {H : Type} : DataW H → Nat
  | .lit (.string bytes) => bytes.length + 1
  | .lit _ => 1
  | .nil => 1
  | .ptr d => uptoBulk d + 1
  | .slice elems spare => uptoBulkAll elems + uptoBulkAll spare + 1
  | .agg parts => uptoBulkAll parts + 1
  | .iface _ d => uptoBulk d + 1
  | .map entries => uptoBulkEntries entries + 1
  | .held _ => 1
def uptoBulkAll {H : Type} : List (DataW H) → Nat
  | [] => 0
  | d :: r => uptoBulk d + uptoBulkAll r
def uptoBulkEntries {H : Type} : List (Lit × DataW H) → Nat
  | [] => 0
  | x :: r => uptoBulkEntry x + uptoBulkEntries r
def uptoBulkEntry {H : Type} : Lit × DataW H → Nat
  | (.string bytes, d) => bytes.length + uptoBulk d + 1
  | (_, d) => uptoBulk d + 1
 end
def uptoSmall : (H : Type) → List (DataW H) → Bool := fun _ ds => decide (uptoBulkAll ds ≤ 1048576)
def OpenSpec.upto (s : _root_.Go.ChangeSpec) : _root_.Go.OpenSpec := { _root_.Go.OpenSpec.ofChange s with cond := some uptoSmall }

/-- 'laws.FnExactSequenceTest', WHERE WHAT IT READS IS OF BULK AT MOST 1048576: true; the input reads as it did. -/
def fnExactSequenceTestUptoRow : OpenClaim := { program := "ythfdgffgihjglaa", sum := "5dc454fde85d6d8ddf2f219f8104e3dbf92bc30e8159df963443e9f4aa55d57c", func := "loop.example/g01382/laws.FnExactSequenceTest", spec := "fnExactSequenceTest", inPlace := ["math.Float64frombits", "math.Float64bits"], unfollowed := true, recurses := true, apart := false, narrowed := true }
def FnExactSequenceTestUptoSaid : Prop := fnExactSequenceTestUptoRow.holds Try.pinned (OpenSpec.upto fnExactSequenceTestSpec)

/-- 'laws.FnExactSequenceChances', WHERE WHAT IT READS IS OF BULK AT MOST 1048576: true; the input reads as it did. -/
def fnExactSequenceChancesUptoRow : OpenClaim := { program := "ythfdgffgihjglaa", sum := "5dc454fde85d6d8ddf2f219f8104e3dbf92bc30e8159df963443e9f4aa55d57c", func := "loop.example/g01382/laws.FnExactSequenceChances", spec := "fnExactSequenceChances", inPlace := ["math.Float64frombits", "math.Float64bits"], unfollowed := true, recurses := true, apart := false, narrowed := true }
def FnExactSequenceChancesUptoSaid : Prop := fnExactSequenceChancesUptoRow.holds Try.pinned (OpenSpec.upto fnExactSequenceChancesSpec)

/-- 'laws.FnSequences', WHERE WHAT IT READS IS OF BULK AT MOST 1048576: true; the input reads as it did. -/
def fnSequencesUptoRow : OpenClaim := { program := "ythfdgffgihjglaa", sum := "5dc454fde85d6d8ddf2f219f8104e3dbf92bc30e8159df963443e9f4aa55d57c", func := "loop.example/g01382/laws.FnSequences", spec := "fnSequences", inPlace := ["math.Float64frombits", "math.sqrt"], unfollowed := true, recurses := true, apart := false, narrowed := true }
def FnSequencesUptoSaid : Prop := fnSequencesUptoRow.holds Try.pinned (OpenSpec.upto fnSequencesSpec)

/-- 'laws.FnExactBearingRates', WHERE WHAT IT READS IS OF BULK AT MOST 1048576: true; the input reads as it did. -/
def fnExactBearingRatesUptoRow : OpenClaim := { program := "ythfdgffgihjglaa", sum := "5dc454fde85d6d8ddf2f219f8104e3dbf92bc30e8159df963443e9f4aa55d57c", func := "loop.example/g01382/laws.FnExactBearingRates", spec := "fnExactBearingRates", inPlace := ["math.Float32frombits", "math.Float64frombits", "math.Float64bits"], unfollowed := true, recurses := true, apart := false, narrowed := true }
def FnExactBearingRatesUptoSaid : Prop := fnExactBearingRatesUptoRow.holds Try.pinned (OpenSpec.upto fnExactBearingRatesSpec)

/-- 'laws.FnExactLineAt', WHERE WHAT IT READS IS OF BULK AT MOST 1048576: true; the input reads as it did. -/
def fnExactLineAtUptoRow : OpenClaim := { program := "ythfdgffgihjglaa", sum := "5dc454fde85d6d8ddf2f219f8104e3dbf92bc30e8159df963443e9f4aa55d57c", func := "loop.example/g01382/laws.FnExactLineAt", spec := "fnExactLineAt", inPlace := ["math.Float32frombits", "math.Float64frombits", "math.Float64bits"], unfollowed := true, recurses := true, apart := false, narrowed := true }
def FnExactLineAtUptoSaid : Prop := fnExactLineAtUptoRow.holds Try.pinned (OpenSpec.upto fnExactLineAtSpec)

/-- 'laws.FnExactSignalLines', WHERE WHAT IT READS IS OF BULK AT MOST 1048576: true; the input reads as it did. -/
def fnExactSignalLinesUptoRow : OpenClaim := { program := "ythfdgffgihjglaa", sum := "5dc454fde85d6d8ddf2f219f8104e3dbf92bc30e8159df963443e9f4aa55d57c", func := "loop.example/g01382/laws.FnExactSignalLines", spec := "fnExactSignalLines", inPlace := ["math.Float32frombits", "math.Float64frombits", "math.Float64bits"], unfollowed := true, recurses := true, apart := false, narrowed := true }
def FnExactSignalLinesUptoSaid : Prop := fnExactSignalLinesUptoRow.holds Try.pinned (OpenSpec.upto fnExactSignalLinesSpec)

/-- 'laws.FnExactSameSaved', WHERE WHAT IT READS IS OF BULK AT MOST 1048576: true; the input reads as it did. -/
def fnExactSameSavedUptoRow : OpenClaim := { program := "ythfdgffgihjglaa", sum := "5dc454fde85d6d8ddf2f219f8104e3dbf92bc30e8159df963443e9f4aa55d57c", func := "loop.example/g01382/laws.FnExactSameSaved", spec := "fnExactSameSaved", inPlace := ["math.Float32bits", "math.Float64bits"], unfollowed := true, recurses := true, apart := false, narrowed := true }
def FnExactSameSavedUptoSaid : Prop := fnExactSameSavedUptoRow.holds Try.pinned (OpenSpec.upto fnExactSameSavedSpec)

/-- 'laws.FnCharts', WHERE WHAT IT READS IS OF BULK AT MOST 1048576: true; the input reads as it did. -/
def fnChartsUptoRow : OpenClaim := { program := "ythfdgffgihjglaa", sum := "5dc454fde85d6d8ddf2f219f8104e3dbf92bc30e8159df963443e9f4aa55d57c", func := "loop.example/g01382/laws.FnCharts", spec := "fnCharts", unfollowed := true, recurses := true, apart := false, narrowed := true }
def FnChartsUptoSaid : Prop := fnChartsUptoRow.holds Try.pinned (OpenSpec.upto fnChartsSpec)

end Rows
end Go.Proofs.Ythfdgffgihjglaa
