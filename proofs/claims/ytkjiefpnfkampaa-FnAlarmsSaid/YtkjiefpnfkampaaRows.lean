/-
  No cell of these rows narrows 'for every input' (looked for: loops, veiled, ifaces, maps, wideKeys, modest, calm, conditions, laid).
  DERIVED. THE GIVEN ROWS OF THIS SEAT. 12 by the template 'for every input the law returns true; each argument reads behind the call as it read before'; 0 by the template 'total and deterministic' (their statements: YtkjiefpnfkampaaTotals.lean).
  GIVEN WITH THE SEED: the statements are not yours to turn. If you find one false, say at which input.
  Laid BY PROGRAM, IN A SANDBOX (cutbox-rows.mjs): the forced cells as the released guide's own fill.sh prints them over the translation 70e204e1b51c908d… (all of the seat's roots in one cut). By AI agents, Wed Nov 11 2026. No macro, syntax, notation, axiom, sorry.
-/
import Derived.Test.YtkjiefpnfkampaaChecked
import GoSem.Claim
import GoSem.ClaimJoined
import GoSem.ClaimMapViews
import Derived.JoinedTies
import Derived.KernelRfl
namespace Go.Proofs.Ytkjiefpnfkampaa
/- THE CELL 'sum', in the pinned program and in every row, IS THE sha256 OF THE DUMP (.gsa) THAT YtkjiefpnfkampaaProg.lean LOADS. Nothing in Lean hashes anything: it is a label: what it is worth is what the hold of that sum in a sandbox is worth. -/
noncomputable def Try.pinned : Pinned := { name := "ytkjiefpnfkampaa", sum := "70e204e1b51c908d97693be0cd04aeea331692865e30388bd96fcbb46ef57205", checked := Try.checked }
namespace Rows
def none {H : Type} : Left H := { results := [], args := [] }

/-- 'laws.FnExactIsSignal': WHATEVER THE INPUT: true; the input reads as it did. -/
def fnExactIsSignalSpec : ChangeSpec := { name := "fnExactIsSignal", fn := fun _ => fun
  | [d] => { results := [.lit (.bool true)], args := [d] }
  | _ => none }
def fnExactIsSignalRow : OpenClaim := { program := "ytkjiefpnfkampaa", sum := "70e204e1b51c908d97693be0cd04aeea331692865e30388bd96fcbb46ef57205", func := "loop.example/g01382/laws.FnExactIsSignal", spec := "fnExactIsSignal", unfollowed := true, recurses := true, apart := false }
def FnExactIsSignalSaid : Prop := fnExactIsSignalRow.holds Try.pinned (OpenSpec.ofChange fnExactIsSignalSpec)

/-- ITS FALSE NEIGHBOUR: 'it returns false'. Refute it at one input. -/
def fnExactIsSignalWrong : ChangeSpec := { name := "fnExactIsSignal", fn := fun _ => fun
  | [d] => { results := [.lit (.bool false)], args := [d] }
  | _ => none }
def FnExactIsSignalWrongFalsely : Prop := fnExactIsSignalRow.holds Try.pinned (OpenSpec.ofChange fnExactIsSignalWrong)

/-- 'laws.FnAlarmCountsOfAll': WHATEVER THE INPUT: true; the input reads as it did. -/
def fnAlarmCountsOfAllSpec : ChangeSpec := { name := "fnAlarmCountsOfAll", fn := fun _ => fun
  | [d1, d2, d3, d4, d5] => { results := [.lit (.bool true)], args := [d1, d2, d3, d4, d5] }
  | _ => none }
def fnAlarmCountsOfAllRow : OpenClaim := { program := "ytkjiefpnfkampaa", sum := "70e204e1b51c908d97693be0cd04aeea331692865e30388bd96fcbb46ef57205", func := "loop.example/g01382/laws.FnAlarmCountsOfAll", spec := "fnAlarmCountsOfAll", unfollowed := true, recurses := true, apart := false }
def FnAlarmCountsOfAllSaid : Prop := fnAlarmCountsOfAllRow.holds Try.pinned (OpenSpec.ofChange fnAlarmCountsOfAllSpec)

/-- ITS FALSE NEIGHBOUR: 'it returns false'. Refute it at one input. -/
def fnAlarmCountsOfAllWrong : ChangeSpec := { name := "fnAlarmCountsOfAll", fn := fun _ => fun
  | [d1, d2, d3, d4, d5] => { results := [.lit (.bool false)], args := [d1, d2, d3, d4, d5] }
  | _ => none }
def FnAlarmCountsOfAllWrongFalsely : Prop := fnAlarmCountsOfAllRow.holds Try.pinned (OpenSpec.ofChange fnAlarmCountsOfAllWrong)

/-- 'laws.FnExactAlarmAt': WHATEVER THE INPUT: true; the input reads as it did. -/
def fnExactAlarmAtSpec : ChangeSpec := { name := "fnExactAlarmAt", fn := fun _ => fun
  | [d1, d2, d3] => { results := [.lit (.bool true)], args := [d1, d2, d3] }
  | _ => none }
def fnExactAlarmAtRow : OpenClaim := { program := "ytkjiefpnfkampaa", sum := "70e204e1b51c908d97693be0cd04aeea331692865e30388bd96fcbb46ef57205", func := "loop.example/g01382/laws.FnExactAlarmAt", spec := "fnExactAlarmAt", unfollowed := true, recurses := true, apart := false }
def FnExactAlarmAtSaid : Prop := fnExactAlarmAtRow.holds Try.pinned (OpenSpec.ofChange fnExactAlarmAtSpec)

/-- ITS FALSE NEIGHBOUR: 'it returns false'. Refute it at one input. -/
def fnExactAlarmAtWrong : ChangeSpec := { name := "fnExactAlarmAt", fn := fun _ => fun
  | [d1, d2, d3] => { results := [.lit (.bool false)], args := [d1, d2, d3] }
  | _ => none }
def FnExactAlarmAtWrongFalsely : Prop := fnExactAlarmAtRow.holds Try.pinned (OpenSpec.ofChange fnExactAlarmAtWrong)

/-- 'laws.FnAlarms': WHATEVER THE INPUT: true; the input reads as it did. -/
def fnAlarmsSpec : ChangeSpec := { name := "fnAlarms", fn := fun _ => fun
  | [d1, d2] => { results := [.lit (.bool true)], args := [d1, d2] }
  | _ => none }
def fnAlarmsRow : OpenClaim := { program := "ytkjiefpnfkampaa", sum := "70e204e1b51c908d97693be0cd04aeea331692865e30388bd96fcbb46ef57205", func := "loop.example/g01382/laws.FnAlarms", spec := "fnAlarms", unfollowed := true, recurses := true, apart := false }
def FnAlarmsSaid : Prop := fnAlarmsRow.holds Try.pinned (OpenSpec.ofChange fnAlarmsSpec)

/-- ITS FALSE NEIGHBOUR: 'it returns false'. Refute it at one input. -/
def fnAlarmsWrong : ChangeSpec := { name := "fnAlarms", fn := fun _ => fun
  | [d1, d2] => { results := [.lit (.bool false)], args := [d1, d2] }
  | _ => none }
def FnAlarmsWrongFalsely : Prop := fnAlarmsRow.holds Try.pinned (OpenSpec.ofChange fnAlarmsWrong)

/-- 'laws.FnExactAlarmStates': WHATEVER THE INPUT: true; the input reads as it did. -/
def fnExactAlarmStatesSpec : ChangeSpec := { name := "fnExactAlarmStates", fn := fun _ => fun
  | [d1, d2, d3] => { results := [.lit (.bool true)], args := [d1, d2, d3] }
  | _ => none }
def fnExactAlarmStatesRow : OpenClaim := { program := "ytkjiefpnfkampaa", sum := "70e204e1b51c908d97693be0cd04aeea331692865e30388bd96fcbb46ef57205", func := "loop.example/g01382/laws.FnExactAlarmStates", spec := "fnExactAlarmStates", unfollowed := true, recurses := true, apart := false }
def FnExactAlarmStatesSaid : Prop := fnExactAlarmStatesRow.holds Try.pinned (OpenSpec.ofChange fnExactAlarmStatesSpec)

/-- ITS FALSE NEIGHBOUR: 'it returns false'. Refute it at one input. -/
def fnExactAlarmStatesWrong : ChangeSpec := { name := "fnExactAlarmStates", fn := fun _ => fun
  | [d1, d2, d3] => { results := [.lit (.bool false)], args := [d1, d2, d3] }
  | _ => none }
def FnExactAlarmStatesWrongFalsely : Prop := fnExactAlarmStatesRow.holds Try.pinned (OpenSpec.ofChange fnExactAlarmStatesWrong)

/-- 'laws.FnExactTurnMean': WHATEVER THE INPUT: true; the input reads as it did. -/
def fnExactTurnMeanSpec : ChangeSpec := { name := "fnExactTurnMean", fn := fun _ => fun
  | [d1, d2] => { results := [.lit (.bool true)], args := [d1, d2] }
  | _ => none }
def fnExactTurnMeanRow : OpenClaim := { program := "ytkjiefpnfkampaa", sum := "70e204e1b51c908d97693be0cd04aeea331692865e30388bd96fcbb46ef57205", func := "loop.example/g01382/laws.FnExactTurnMean", spec := "fnExactTurnMean", unfollowed := true, recurses := true, apart := false }
def FnExactTurnMeanSaid : Prop := fnExactTurnMeanRow.holds Try.pinned (OpenSpec.ofChange fnExactTurnMeanSpec)

/-- ITS FALSE NEIGHBOUR: 'it returns false'. Refute it at one input. -/
def fnExactTurnMeanWrong : ChangeSpec := { name := "fnExactTurnMean", fn := fun _ => fun
  | [d1, d2] => { results := [.lit (.bool false)], args := [d1, d2] }
  | _ => none }
def FnExactTurnMeanWrongFalsely : Prop := fnExactTurnMeanRow.holds Try.pinned (OpenSpec.ofChange fnExactTurnMeanWrong)

/-- 'laws.FnExactFourthRatio': WHATEVER THE INPUT: true; the input reads as it did. -/
def fnExactFourthRatioSpec : ChangeSpec := { name := "fnExactFourthRatio", fn := fun _ => fun
  | [d] => { results := [.lit (.bool true)], args := [d] }
  | _ => none }
def fnExactFourthRatioRow : OpenClaim := { program := "ytkjiefpnfkampaa", sum := "70e204e1b51c908d97693be0cd04aeea331692865e30388bd96fcbb46ef57205", func := "loop.example/g01382/laws.FnExactFourthRatio", spec := "fnExactFourthRatio", unfollowed := true, recurses := true, apart := false }
def FnExactFourthRatioSaid : Prop := fnExactFourthRatioRow.holds Try.pinned (OpenSpec.ofChange fnExactFourthRatioSpec)

/-- ITS FALSE NEIGHBOUR: 'it returns false'. Refute it at one input. -/
def fnExactFourthRatioWrong : ChangeSpec := { name := "fnExactFourthRatio", fn := fun _ => fun
  | [d] => { results := [.lit (.bool false)], args := [d] }
  | _ => none }
def FnExactFourthRatioWrongFalsely : Prop := fnExactFourthRatioRow.holds Try.pinned (OpenSpec.ofChange fnExactFourthRatioWrong)

/-- 'laws.FnExactAlarmCounts': WHATEVER THE INPUT: true; the input reads as it did. -/
def fnExactAlarmCountsSpec : ChangeSpec := { name := "fnExactAlarmCounts", fn := fun _ => fun
  | [d1, d2, d3, d4] => { results := [.lit (.bool true)], args := [d1, d2, d3, d4] }
  | _ => none }
def fnExactAlarmCountsRow : OpenClaim := { program := "ytkjiefpnfkampaa", sum := "70e204e1b51c908d97693be0cd04aeea331692865e30388bd96fcbb46ef57205", func := "loop.example/g01382/laws.FnExactAlarmCounts", spec := "fnExactAlarmCounts", unfollowed := true, recurses := true, apart := false }
def FnExactAlarmCountsSaid : Prop := fnExactAlarmCountsRow.holds Try.pinned (OpenSpec.ofChange fnExactAlarmCountsSpec)

/-- ITS FALSE NEIGHBOUR: 'it returns false'. Refute it at one input. -/
def fnExactAlarmCountsWrong : ChangeSpec := { name := "fnExactAlarmCounts", fn := fun _ => fun
  | [d1, d2, d3, d4] => { results := [.lit (.bool false)], args := [d1, d2, d3, d4] }
  | _ => none }
def FnExactAlarmCountsWrongFalsely : Prop := fnExactAlarmCountsRow.holds Try.pinned (OpenSpec.ofChange fnExactAlarmCountsWrong)

/-- 'laws.FnExactTurnRest': WHATEVER THE INPUT: true; the input reads as it did. -/
def fnExactTurnRestSpec : ChangeSpec := { name := "fnExactTurnRest", fn := fun _ => fun
  | [d1, d2] => { results := [.lit (.bool true)], args := [d1, d2] }
  | _ => none }
def fnExactTurnRestRow : OpenClaim := { program := "ytkjiefpnfkampaa", sum := "70e204e1b51c908d97693be0cd04aeea331692865e30388bd96fcbb46ef57205", func := "loop.example/g01382/laws.FnExactTurnRest", spec := "fnExactTurnRest", unfollowed := true, recurses := true, apart := false }
def FnExactTurnRestSaid : Prop := fnExactTurnRestRow.holds Try.pinned (OpenSpec.ofChange fnExactTurnRestSpec)

/-- ITS FALSE NEIGHBOUR: 'it returns false'. Refute it at one input. -/
def fnExactTurnRestWrong : ChangeSpec := { name := "fnExactTurnRest", fn := fun _ => fun
  | [d1, d2] => { results := [.lit (.bool false)], args := [d1, d2] }
  | _ => none }
def FnExactTurnRestWrongFalsely : Prop := fnExactTurnRestRow.holds Try.pinned (OpenSpec.ofChange fnExactTurnRestWrong)

/-- 'laws.FnExactNewDesk': WHATEVER THE INPUT: true; the input reads as it did. -/
def fnExactNewDeskSpec : ChangeSpec := { name := "fnExactNewDesk", fn := fun _ => fun
  | [] => { results := [.lit (.bool true)], args := [] }
  | _ => none }
def fnExactNewDeskRow : OpenClaim := { program := "ytkjiefpnfkampaa", sum := "70e204e1b51c908d97693be0cd04aeea331692865e30388bd96fcbb46ef57205", func := "loop.example/g01382/laws.FnExactNewDesk", spec := "fnExactNewDesk", apart := false }
def FnExactNewDeskSaid : Prop := fnExactNewDeskRow.holds Try.pinned (OpenSpec.ofChange fnExactNewDeskSpec)

/-- ITS FALSE NEIGHBOUR: 'it returns false'. Refute it at one input. -/
def fnExactNewDeskWrong : ChangeSpec := { name := "fnExactNewDesk", fn := fun _ => fun
  | [] => { results := [.lit (.bool false)], args := [] }
  | _ => none }
def FnExactNewDeskWrongFalsely : Prop := fnExactNewDeskRow.holds Try.pinned (OpenSpec.ofChange fnExactNewDeskWrong)

/-- 'laws.FnExactRootPower': WHATEVER THE INPUT: true; the input reads as it did. -/
def fnExactRootPowerSpec : ChangeSpec := { name := "fnExactRootPower", fn := fun _ => fun
  | [d] => { results := [.lit (.bool true)], args := [d] }
  | _ => none }
def fnExactRootPowerRow : OpenClaim := { program := "ytkjiefpnfkampaa", sum := "70e204e1b51c908d97693be0cd04aeea331692865e30388bd96fcbb46ef57205", func := "loop.example/g01382/laws.FnExactRootPower", spec := "fnExactRootPower", inPlace := ["math.sqrt"], unfollowed := true, recurses := true, apart := false }
def FnExactRootPowerSaid : Prop := fnExactRootPowerRow.holds Try.pinned (OpenSpec.ofChange fnExactRootPowerSpec)

/-- ITS FALSE NEIGHBOUR: 'it returns false'. Refute it at one input. -/
def fnExactRootPowerWrong : ChangeSpec := { name := "fnExactRootPower", fn := fun _ => fun
  | [d] => { results := [.lit (.bool false)], args := [d] }
  | _ => none }
def FnExactRootPowerWrongFalsely : Prop := fnExactRootPowerRow.holds Try.pinned (OpenSpec.ofChange fnExactRootPowerWrong)

/-- 'laws.FnExactAtPlaces': WHATEVER THE INPUT: true; the input reads as it did. -/
def fnExactAtPlacesSpec : ChangeSpec := { name := "fnExactAtPlaces", fn := fun _ => fun
  | [d1, d2] => { results := [.lit (.bool true)], args := [d1, d2] }
  | _ => none }
def fnExactAtPlacesRow : OpenClaim := { program := "ytkjiefpnfkampaa", sum := "70e204e1b51c908d97693be0cd04aeea331692865e30388bd96fcbb46ef57205", func := "loop.example/g01382/laws.FnExactAtPlaces", spec := "fnExactAtPlaces", inPlace := ["math.archFloor", "math.Float64bits", "math.Float64frombits", "math.archTrunc"], unfollowed := true, recurses := true, apart := false }
def FnExactAtPlacesSaid : Prop := fnExactAtPlacesRow.holds Try.pinned (OpenSpec.ofChange fnExactAtPlacesSpec)

/-- ITS FALSE NEIGHBOUR: 'it returns false'. Refute it at one input. -/
def fnExactAtPlacesWrong : ChangeSpec := { name := "fnExactAtPlaces", fn := fun _ => fun
  | [d1, d2] => { results := [.lit (.bool false)], args := [d1, d2] }
  | _ => none }
def FnExactAtPlacesWrongFalsely : Prop := fnExactAtPlacesRow.holds Try.pinned (OpenSpec.ofChange fnExactAtPlacesWrong)

/- THE SECOND FORM. 'bulk': how many values and letters a reading holds, each counted each time it is reached (what is shared counts as often as it is met; a slice's spare places count too). A statement '..UptoSaid' is the law's where the arguments, and the package variables that the reading takes, are together of bulk at most 1048576: NARROWER than '..Said'. Prove '..Said' where nothing that the law and all that it calls make is longer than what came in: it says more and counts as full. Else prove '..UptoSaid'. A law counts once. -/
mutual
def uptoBulk {H : Type} : DataW H → Nat
  | .lit (.string bytes) => bytes.length + 1
  | .lit _ => 1
  | .nil => 1
  | .ptr d => uptoBulk d + 1
  | .slice elems spare => uptoBulkAll elems + uptoBulkAll spare + 1
  | .agg parts => uptoBulkAll parts + 1
  | .iface _ d => uptoBulk d + 1
  | .map entries => uptoBulkEntries entries + 1
  | .held _ => 1
def uptoBulkAll {H : Type} : List (DataW H) → Nat
  | [] => 0
  | d :: r => uptoBulk d + uptoBulkAll r
def uptoBulkEntries {H : Type} : List (Lit × DataW H) → Nat
  | [] => 0
  | x :: r => uptoBulkEntry x + uptoBulkEntries r
def uptoBulkEntry {H : Type} : Lit × DataW H → Nat
  | (.string bytes, d) => bytes.length + uptoBulk d + 1
  | (_, d) => uptoBulk d + 1
 end
def uptoSmall : (H : Type) → List (DataW H) → Bool := fun _ ds => decide (uptoBulkAll ds ≤ 1048576)
def OpenSpec.upto (s : _root_.Go.ChangeSpec) : _root_.Go.OpenSpec := { _root_.Go.OpenSpec.ofChange s with cond := some uptoSmall }

/-- 'laws.FnExactIsSignal', WHERE WHAT IT READS IS OF BULK AT MOST 1048576: true; the input reads as it did. -/
def fnExactIsSignalUptoRow : OpenClaim := { program := "ytkjiefpnfkampaa", sum := "70e204e1b51c908d97693be0cd04aeea331692865e30388bd96fcbb46ef57205", func := "loop.example/g01382/laws.FnExactIsSignal", spec := "fnExactIsSignal", unfollowed := true, recurses := true, apart := false, narrowed := true }
def FnExactIsSignalUptoSaid : Prop := fnExactIsSignalUptoRow.holds Try.pinned (OpenSpec.upto fnExactIsSignalSpec)

/-- 'laws.FnAlarmCountsOfAll', WHERE WHAT IT READS IS OF BULK AT MOST 1048576: true; the input reads as it did. -/
def fnAlarmCountsOfAllUptoRow : OpenClaim := { program := "ytkjiefpnfkampaa", sum := "70e204e1b51c908d97693be0cd04aeea331692865e30388bd96fcbb46ef57205", func := "loop.example/g01382/laws.FnAlarmCountsOfAll", spec := "fnAlarmCountsOfAll", unfollowed := true, recurses := true, apart := false, narrowed := true }
def FnAlarmCountsOfAllUptoSaid : Prop := fnAlarmCountsOfAllUptoRow.holds Try.pinned (OpenSpec.upto fnAlarmCountsOfAllSpec)

/-- 'laws.FnExactAlarmAt', WHERE WHAT IT READS IS OF BULK AT MOST 1048576: true; the input reads as it did. -/
def fnExactAlarmAtUptoRow : OpenClaim := { program := "ytkjiefpnfkampaa", sum := "70e204e1b51c908d97693be0cd04aeea331692865e30388bd96fcbb46ef57205", func := "loop.example/g01382/laws.FnExactAlarmAt", spec := "fnExactAlarmAt", unfollowed := true, recurses := true, apart := false, narrowed := true }
def FnExactAlarmAtUptoSaid : Prop := fnExactAlarmAtUptoRow.holds Try.pinned (OpenSpec.upto fnExactAlarmAtSpec)

/-- 'laws.FnAlarms', WHERE WHAT IT READS IS OF BULK AT MOST 1048576: true; the input reads as it did. -/
def fnAlarmsUptoRow : OpenClaim := { program := "ytkjiefpnfkampaa", sum := "70e204e1b51c908d97693be0cd04aeea331692865e30388bd96fcbb46ef57205", func := "loop.example/g01382/laws.FnAlarms", spec := "fnAlarms", unfollowed := true, recurses := true, apart := false, narrowed := true }
def FnAlarmsUptoSaid : Prop := fnAlarmsUptoRow.holds Try.pinned (OpenSpec.upto fnAlarmsSpec)

/-- 'laws.FnExactAlarmStates', WHERE WHAT IT READS IS OF BULK AT MOST 1048576: true; the input reads as it did. -/
def fnExactAlarmStatesUptoRow : OpenClaim := { program := "ytkjiefpnfkampaa", sum := "70e204e1b51c908d97693be0cd04aeea331692865e30388bd96fcbb46ef57205", func := "loop.example/g01382/laws.FnExactAlarmStates", spec := "fnExactAlarmStates", unfollowed := true, recurses := true, apart := false, narrowed := true }
def FnExactAlarmStatesUptoSaid : Prop := fnExactAlarmStatesUptoRow.holds Try.pinned (OpenSpec.upto fnExactAlarmStatesSpec)

/-- 'laws.FnExactTurnMean', WHERE WHAT IT READS IS OF BULK AT MOST 1048576: true; the input reads as it did. -/
def fnExactTurnMeanUptoRow : OpenClaim := { program := "ytkjiefpnfkampaa", sum := "70e204e1b51c908d97693be0cd04aeea331692865e30388bd96fcbb46ef57205", func := "loop.example/g01382/laws.FnExactTurnMean", spec := "fnExactTurnMean", unfollowed := true, recurses := true, apart := false, narrowed := true }
def FnExactTurnMeanUptoSaid : Prop := fnExactTurnMeanUptoRow.holds Try.pinned (OpenSpec.upto fnExactTurnMeanSpec)

/-- 'laws.FnExactFourthRatio', WHERE WHAT IT READS IS OF BULK AT MOST 1048576: true; the input reads as it did. -/
def fnExactFourthRatioUptoRow : OpenClaim := { program := "ytkjiefpnfkampaa", sum := "70e204e1b51c908d97693be0cd04aeea331692865e30388bd96fcbb46ef57205", func := "loop.example/g01382/laws.FnExactFourthRatio", spec := "fnExactFourthRatio", unfollowed := true, recurses := true, apart := false, narrowed := true }
def FnExactFourthRatioUptoSaid : Prop := fnExactFourthRatioUptoRow.holds Try.pinned (OpenSpec.upto fnExactFourthRatioSpec)

/-- 'laws.FnExactAlarmCounts', WHERE WHAT IT READS IS OF BULK AT MOST 1048576: true; the input reads as it did. -/
def fnExactAlarmCountsUptoRow : OpenClaim := { program := "ytkjiefpnfkampaa", sum := "70e204e1b51c908d97693be0cd04aeea331692865e30388bd96fcbb46ef57205", func := "loop.example/g01382/laws.FnExactAlarmCounts", spec := "fnExactAlarmCounts", unfollowed := true, recurses := true, apart := false, narrowed := true }
def FnExactAlarmCountsUptoSaid : Prop := fnExactAlarmCountsUptoRow.holds Try.pinned (OpenSpec.upto fnExactAlarmCountsSpec)

/-- 'laws.FnExactTurnRest', WHERE WHAT IT READS IS OF BULK AT MOST 1048576: true; the input reads as it did. -/
def fnExactTurnRestUptoRow : OpenClaim := { program := "ytkjiefpnfkampaa", sum := "70e204e1b51c908d97693be0cd04aeea331692865e30388bd96fcbb46ef57205", func := "loop.example/g01382/laws.FnExactTurnRest", spec := "fnExactTurnRest", unfollowed := true, recurses := true, apart := false, narrowed := true }
def FnExactTurnRestUptoSaid : Prop := fnExactTurnRestUptoRow.holds Try.pinned (OpenSpec.upto fnExactTurnRestSpec)

/-- 'laws.FnExactNewDesk', WHERE WHAT IT READS IS OF BULK AT MOST 1048576: true; the input reads as it did. -/
def fnExactNewDeskUptoRow : OpenClaim := { program := "ytkjiefpnfkampaa", sum := "70e204e1b51c908d97693be0cd04aeea331692865e30388bd96fcbb46ef57205", func := "loop.example/g01382/laws.FnExactNewDesk", spec := "fnExactNewDesk", apart := false, narrowed := true }
def FnExactNewDeskUptoSaid : Prop := fnExactNewDeskUptoRow.holds Try.pinned (OpenSpec.upto fnExactNewDeskSpec)

/-- 'laws.FnExactRootPower', WHERE WHAT IT READS IS OF BULK AT MOST 1048576: true; the input reads as it did. -/
def fnExactRootPowerUptoRow : OpenClaim := { program := "ytkjiefpnfkampaa", sum := "70e204e1b51c908d97693be0cd04aeea331692865e30388bd96fcbb46ef57205", func := "loop.example/g01382/laws.FnExactRootPower", spec := "fnExactRootPower", inPlace := ["math.sqrt"], unfollowed := true, recurses := true, apart := false, narrowed := true }
def FnExactRootPowerUptoSaid : Prop := fnExactRootPowerUptoRow.holds Try.pinned (OpenSpec.upto fnExactRootPowerSpec)

/-- 'laws.FnExactAtPlaces', WHERE WHAT IT READS IS OF BULK AT MOST 1048576: true; the input reads as it did. -/
def fnExactAtPlacesUptoRow : OpenClaim := { program := "ytkjiefpnfkampaa", sum := "70e204e1b51c908d97693be0cd04aeea331692865e30388bd96fcbb46ef57205", func := "loop.example/g01382/laws.FnExactAtPlaces", spec := "fnExactAtPlaces", inPlace := ["math.archFloor", "math.Float64bits", "math.Float64frombits", "math.archTrunc"], unfollowed := true, recurses := true, apart := false, narrowed := true }
def FnExactAtPlacesUptoSaid : Prop := fnExactAtPlacesUptoRow.holds Try.pinned (OpenSpec.upto fnExactAtPlacesSpec)

end Rows
end Go.Proofs.Ytkjiefpnfkampaa
