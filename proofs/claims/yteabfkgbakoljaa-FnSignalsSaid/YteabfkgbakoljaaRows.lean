/-
  No cell of these rows narrows 'for every input' (looked for: loops, veiled, ifaces, maps, wideKeys, modest, calm, conditions, laid).
  DERIVED. THE GIVEN ROWS OF THIS SEAT. 4 by the template 'for every input the law returns true; each argument reads behind the call as it read before'; 0 by the template 'total and deterministic' (their statements: YteabfkgbakoljaaTotals.lean).
  GIVEN WITH THE SEED: the statements are not yours to turn. If you find one false, say at which input.
  Laid BY PROGRAM, IN A SANDBOX (cutbox-rows.mjs): the forced cells as the released guide's own fill.sh prints them over the translation 37f90c32af9697c0… (all of the seat's roots in one cut). By AI agents, Wed Nov 11 2026. No macro, syntax, notation, axiom, sorry.
-/
import Derived.Test.YteabfkgbakoljaaChecked
import GoSem.Claim
import GoSem.ClaimJoined
import GoSem.ClaimMapViews
import Derived.JoinedTies
import Derived.KernelRfl
namespace Go.Proofs.Yteabfkgbakoljaa
/- THE CELL 'sum', in the pinned program and in every row, IS THE sha256 OF THE DUMP (.gsa) THAT YteabfkgbakoljaaProg.lean LOADS. Nothing in Lean hashes anything: it is a label: what it is worth is what the hold of that sum in a sandbox is worth. -/
noncomputable def Try.pinned : Pinned := { name := "yteabfkgbakoljaa", sum := "37f90c32af9697c07629d65de8f04bb59682c12d8b59aee9fd407cbff992ea51", checked := Try.checked }
namespace Rows
def none {H : Type} : Left H := { results := [], args := [] }

/-- 'laws.FnCharts': WHATEVER THE INPUT: true; the input reads as it did. -/
def fnChartsSpec : ChangeSpec := { name := "fnCharts", fn := fun _ => fun
  | [d1, d2] => { results := [.lit (.bool true)], args := [d1, d2] }
  | _ => none }
def fnChartsRow : OpenClaim := { program := "yteabfkgbakoljaa", sum := "37f90c32af9697c07629d65de8f04bb59682c12d8b59aee9fd407cbff992ea51", func := "loop.example/g01382/laws.FnCharts", spec := "fnCharts", unfollowed := true, recurses := true, apart := false }
def FnChartsSaid : Prop := fnChartsRow.holds Try.pinned (OpenSpec.ofChange fnChartsSpec)

/-- ITS FALSE NEIGHBOUR: 'it returns false'. Refute it at one input. -/
def fnChartsWrong : ChangeSpec := { name := "fnCharts", fn := fun _ => fun
  | [d1, d2] => { results := [.lit (.bool false)], args := [d1, d2] }
  | _ => none }
def FnChartsWrongFalsely : Prop := fnChartsRow.holds Try.pinned (OpenSpec.ofChange fnChartsWrong)

/-- 'laws.FnSequences': WHATEVER THE INPUT: true; the input reads as it did. -/
def fnSequencesSpec : ChangeSpec := { name := "fnSequences", fn := fun _ => fun
  | [d1, d2] => { results := [.lit (.bool true)], args := [d1, d2] }
  | _ => none }
def fnSequencesRow : OpenClaim := { program := "yteabfkgbakoljaa", sum := "37f90c32af9697c07629d65de8f04bb59682c12d8b59aee9fd407cbff992ea51", func := "loop.example/g01382/laws.FnSequences", spec := "fnSequences", inPlace := ["math.Float64frombits", "math.sqrt"], unfollowed := true, recurses := true, apart := false }
def FnSequencesSaid : Prop := fnSequencesRow.holds Try.pinned (OpenSpec.ofChange fnSequencesSpec)

/-- ITS FALSE NEIGHBOUR: 'it returns false'. Refute it at one input. -/
def fnSequencesWrong : ChangeSpec := { name := "fnSequences", fn := fun _ => fun
  | [d1, d2] => { results := [.lit (.bool false)], args := [d1, d2] }
  | _ => none }
def FnSequencesWrongFalsely : Prop := fnSequencesRow.holds Try.pinned (OpenSpec.ofChange fnSequencesWrong)

/-- 'laws.FnGauges': WHATEVER THE INPUT: true; the input reads as it did. -/
def fnGaugesSpec : ChangeSpec := { name := "fnGauges", fn := fun _ => fun
  | [d1, d2] => { results := [.lit (.bool true)], args := [d1, d2] }
  | _ => none }
def fnGaugesRow : OpenClaim := { program := "yteabfkgbakoljaa", sum := "37f90c32af9697c07629d65de8f04bb59682c12d8b59aee9fd407cbff992ea51", func := "loop.example/g01382/laws.FnGauges", spec := "fnGauges", inPlace := ["math.sqrt", "math.archFloor", "math.Float64bits", "math.Float64frombits", "math.archTrunc", "math.archCeil", "math.Float32frombits", "math.Float32bits"], unfollowed := true, recurses := true, apart := false }
def FnGaugesSaid : Prop := fnGaugesRow.holds Try.pinned (OpenSpec.ofChange fnGaugesSpec)

/-- ITS FALSE NEIGHBOUR: 'it returns false'. Refute it at one input. -/
def fnGaugesWrong : ChangeSpec := { name := "fnGauges", fn := fun _ => fun
  | [d1, d2] => { results := [.lit (.bool false)], args := [d1, d2] }
  | _ => none }
def FnGaugesWrongFalsely : Prop := fnGaugesRow.holds Try.pinned (OpenSpec.ofChange fnGaugesWrong)

/-- 'laws.FnSignals': WHATEVER THE INPUT: true; the input reads as it did. -/
def fnSignalsSpec : ChangeSpec := { name := "fnSignals", fn := fun _ => fun
  | [d1, d2] => { results := [.lit (.bool true)], args := [d1, d2] }
  | _ => none }
def fnSignalsRow : OpenClaim := { program := "yteabfkgbakoljaa", sum := "37f90c32af9697c07629d65de8f04bb59682c12d8b59aee9fd407cbff992ea51", func := "loop.example/g01382/laws.FnSignals", spec := "fnSignals", inPlace := ["math.Float64frombits", "math.Float64bits", "math.sqrt", "math.Float32frombits", "math.Float32bits"], unfollowed := true, recurses := true, apart := false }
def FnSignalsSaid : Prop := fnSignalsRow.holds Try.pinned (OpenSpec.ofChange fnSignalsSpec)

/-- ITS FALSE NEIGHBOUR: 'it returns false'. Refute it at one input. -/
def fnSignalsWrong : ChangeSpec := { name := "fnSignals", fn := fun _ => fun
  | [d1, d2] => { results := [.lit (.bool false)], args := [d1, d2] }
  | _ => none }
def FnSignalsWrongFalsely : Prop := fnSignalsRow.holds Try.pinned (OpenSpec.ofChange fnSignalsWrong)

/- THE SECOND FORM. 'bulk': how many values and letters a reading holds, each counted each time it is reached (what is shared counts as often as it is met; a slice's spare places count too). A statement '..UptoSaid' is the law's where the arguments, and the package variables that the reading takes, are together of bulk at most 1048576: NARROWER than '..Said'. Prove '..Said' where nothing that the law and all that it calls make is longer than what came in: it says more and counts as full. Else prove '..UptoSaid'. A law counts once. -/
mutual
def uptoBulk {H : Type} : DataW H → Nat
  | .lit (.string bytes) => bytes.length + 1
  | .lit _ => 1
  | .nil => 1
  | .ptr d => uptoBulk d + 1
  | .slice elems spare => uptoBulkAll elems + uptoBulkAll spare + 1
  | .agg parts => uptoBulkAll parts + 1
  | .iface _ d => uptoBulk d + 1
  | .map entries => uptoBulkEntries entries + 1
  | .held _ => 1
def uptoBulkAll {H : Type} : List (DataW H) → Nat
  | [] => 0
  | d :: r => uptoBulk d + uptoBulkAll r
def uptoBulkEntries {H : Type} : List (Lit × DataW H) → Nat
  | [] => 0
  | x :: r => uptoBulkEntry x + uptoBulkEntries r
def uptoBulkEntry {H : Type} : Lit × DataW H → Nat
  | (.string bytes, d) => bytes.length + uptoBulk d + 1
  | (_, d) => uptoBulk d + 1
 end
def uptoSmall : (H : Type) → List (DataW H) → Bool := fun _ ds => decide (uptoBulkAll ds ≤ 1048576)
def OpenSpec.upto (s : _root_.Go.ChangeSpec) : _root_.Go.OpenSpec := { _root_.Go.OpenSpec.ofChange s with cond := some uptoSmall }

/-- 'laws.FnCharts', WHERE WHAT IT READS IS OF BULK AT MOST 1048576: true; the input reads as it did. -/
def fnChartsUptoRow : OpenClaim := { program := "yteabfkgbakoljaa", sum := "37f90c32af9697c07629d65de8f04bb59682c12d8b59aee9fd407cbff992ea51", func := "loop.example/g01382/laws.FnCharts", spec := "fnCharts", unfollowed := true, recurses := true, apart := false, narrowed := true }
def FnChartsUptoSaid : Prop := fnChartsUptoRow.holds Try.pinned (OpenSpec.upto fnChartsSpec)

/-- 'laws.FnSequences', WHERE WHAT IT READS IS OF BULK AT MOST 1048576: true; the input reads as it did. -/
def fnSequencesUptoRow : OpenClaim := { program := "yteabfkgbakoljaa", sum := "37f90c32af9697c07629d65de8f04bb59682c12d8b59aee9fd407cbff992ea51", func := "loop.example/g01382/laws.FnSequences", spec := "fnSequences", inPlace := ["math.Float64frombits", "math.sqrt"], unfollowed := true, recurses := true, apart := false, narrowed := true }
def FnSequencesUptoSaid : Prop := fnSequencesUptoRow.holds Try.pinned (OpenSpec.upto fnSequencesSpec)

/-- 'laws.FnGauges', WHERE WHAT IT READS IS OF BULK AT MOST 1048576: true; the input reads as it did. -/
def fnGaugesUptoRow : OpenClaim := { program := "yteabfkgbakoljaa", sum := "37f90c32af9697c07629d65de8f04bb59682c12d8b59aee9fd407cbff992ea51", func := "loop.example/g01382/laws.FnGauges", spec := "fnGauges", inPlace := ["math.sqrt", "math.archFloor", "math.Float64bits", "math.Float64frombits", "math.archTrunc", "math.archCeil", "math.Float32frombits", "math.Float32bits"], unfollowed := true, recurses := true, apart := false, narrowed := true }
def FnGaugesUptoSaid : Prop := fnGaugesUptoRow.holds Try.pinned (OpenSpec.upto fnGaugesSpec)

/-- 'laws.FnSignals', WHERE WHAT IT READS IS OF BULK AT MOST 1048576: true; the input reads as it did. -/
def fnSignalsUptoRow : OpenClaim := { program := "yteabfkgbakoljaa", sum := "37f90c32af9697c07629d65de8f04bb59682c12d8b59aee9fd407cbff992ea51", func := "loop.example/g01382/laws.FnSignals", spec := "fnSignals", inPlace := ["math.Float64frombits", "math.Float64bits", "math.sqrt", "math.Float32frombits", "math.Float32bits"], unfollowed := true, recurses := true, apart := false, narrowed := true }
def FnSignalsUptoSaid : Prop := fnSignalsUptoRow.holds Try.pinned (OpenSpec.upto fnSignalsSpec)

end Rows
end Go.Proofs.Yteabfkgbakoljaa
