/-
  No cell of these rows narrows 'for every input' (looked for: loops, veiled, ifaces, maps, wideKeys, modest, calm, conditions, laid).
  DERIVED. THE GIVEN ROWS OF THIS SEAT. 8 by the template 'for every input the law returns true; each argument reads behind the call as it read before'; 0 by the template 'total and deterministic' (their statements: YtjfmjeffmnjilaaTotals.lean).
  GIVEN WITH THE SEED: the statements are not yours to turn. If you find one false, say at which input.
  Laid BY PROGRAM, IN A SANDBOX (cutbox-rows.mjs): the forced cells as the released guide's own fill.sh prints them over the translation 6363888869607dae… (all of the seat's roots in one cut). By AI agents, Wed Nov 11 2026. No macro, syntax, notation, axiom, sorry.
-/
import Derived.Test.YtjfmjeffmnjilaaChecked
import GoSem.Claim
import GoSem.ClaimJoined
import GoSem.ClaimMapViews
import Derived.JoinedTies
import Derived.KernelRfl
namespace Go.Proofs.Ytjfmjeffmnjilaa
/- THE CELL 'sum', in the pinned program and in every row, IS THE sha256 OF THE DUMP (.gsa) THAT YtjfmjeffmnjilaaProg.lean LOADS. Nothing in Lean hashes anything: it is a label: what it is worth is what the hold of that sum in a sandbox is worth. -/
noncomputable def Try.pinned : Pinned := { name := "ytjfmjeffmnjilaa", sum := "6363888869607daebca917225291b29112bef613415d105dd19c86d85aea7228", checked := Try.checked }
namespace Rows
def none {H : Type} : Left H := { results := [], args := [] }

/-- 'laws.FnExactSameSaved': WHATEVER THE INPUT: true; the input reads as it did. -/
def fnExactSameSavedSpec : ChangeSpec := { name := "fnExactSameSaved", fn := fun _ => fun
  | [d1, d2] => { results := [.lit (.bool true)], args := [d1, d2] }
  | _ => none }
def fnExactSameSavedRow : OpenClaim := { program := "ytjfmjeffmnjilaa", sum := "6363888869607daebca917225291b29112bef613415d105dd19c86d85aea7228", func := "loop.example/g01382/laws.FnExactSameSaved", spec := "fnExactSameSaved", inPlace := ["math.Float32bits", "math.Float64bits"], unfollowed := true, recurses := true, apart := false }
def FnExactSameSavedSaid : Prop := fnExactSameSavedRow.holds Try.pinned (OpenSpec.ofChange fnExactSameSavedSpec)

/-- ITS FALSE NEIGHBOUR: 'it returns false'. Refute it at one input. -/
def fnExactSameSavedWrong : ChangeSpec := { name := "fnExactSameSaved", fn := fun _ => fun
  | [d1, d2] => { results := [.lit (.bool false)], args := [d1, d2] }
  | _ => none }
def FnExactSameSavedWrongFalsely : Prop := fnExactSameSavedRow.holds Try.pinned (OpenSpec.ofChange fnExactSameSavedWrong)

/-- 'laws.FnExactValidSaved': WHATEVER THE INPUT: true; the input reads as it did. -/
def fnExactValidSavedSpec : ChangeSpec := { name := "fnExactValidSaved", fn := fun _ => fun
  | [d] => { results := [.lit (.bool true)], args := [d] }
  | _ => none }
def fnExactValidSavedRow : OpenClaim := { program := "ytjfmjeffmnjilaa", sum := "6363888869607daebca917225291b29112bef613415d105dd19c86d85aea7228", func := "loop.example/g01382/laws.FnExactValidSaved", spec := "fnExactValidSaved", unfollowed := true, recurses := true, apart := false }
def FnExactValidSavedSaid : Prop := fnExactValidSavedRow.holds Try.pinned (OpenSpec.ofChange fnExactValidSavedSpec)

/-- ITS FALSE NEIGHBOUR: 'it returns false'. Refute it at one input. -/
def fnExactValidSavedWrong : ChangeSpec := { name := "fnExactValidSaved", fn := fun _ => fun
  | [d] => { results := [.lit (.bool false)], args := [d] }
  | _ => none }
def FnExactValidSavedWrongFalsely : Prop := fnExactValidSavedRow.holds Try.pinned (OpenSpec.ofChange fnExactValidSavedWrong)

/-- 'laws.FnExactStoreSaved': WHATEVER THE INPUT: true; the input reads as it did. -/
def fnExactStoreSavedSpec : ChangeSpec := { name := "fnExactStoreSaved", fn := fun _ => fun
  | [d] => { results := [.lit (.bool true)], args := [d] }
  | _ => none }
def fnExactStoreSavedRow : OpenClaim := { program := "ytjfmjeffmnjilaa", sum := "6363888869607daebca917225291b29112bef613415d105dd19c86d85aea7228", func := "loop.example/g01382/laws.FnExactStoreSaved", spec := "fnExactStoreSaved", inPlace := ["math.Float32bits"], unfollowed := true, recurses := true, apart := false }
def FnExactStoreSavedSaid : Prop := fnExactStoreSavedRow.holds Try.pinned (OpenSpec.ofChange fnExactStoreSavedSpec)

/-- ITS FALSE NEIGHBOUR: 'it returns false'. Refute it at one input. -/
def fnExactStoreSavedWrong : ChangeSpec := { name := "fnExactStoreSaved", fn := fun _ => fun
  | [d] => { results := [.lit (.bool false)], args := [d] }
  | _ => none }
def FnExactStoreSavedWrongFalsely : Prop := fnExactStoreSavedRow.holds Try.pinned (OpenSpec.ofChange fnExactStoreSavedWrong)

/-- 'laws.FnExactStoreAll': WHATEVER THE INPUT: true; the input reads as it did. -/
def fnExactStoreAllSpec : ChangeSpec := { name := "fnExactStoreAll", fn := fun _ => fun
  | [d] => { results := [.lit (.bool true)], args := [d] }
  | _ => none }
def fnExactStoreAllRow : OpenClaim := { program := "ytjfmjeffmnjilaa", sum := "6363888869607daebca917225291b29112bef613415d105dd19c86d85aea7228", func := "loop.example/g01382/laws.FnExactStoreAll", spec := "fnExactStoreAll", inPlace := ["math.Float32bits"], unfollowed := true, recurses := true, apart := false }
def FnExactStoreAllSaid : Prop := fnExactStoreAllRow.holds Try.pinned (OpenSpec.ofChange fnExactStoreAllSpec)

/-- ITS FALSE NEIGHBOUR: 'it returns false'. Refute it at one input. -/
def fnExactStoreAllWrong : ChangeSpec := { name := "fnExactStoreAll", fn := fun _ => fun
  | [d] => { results := [.lit (.bool false)], args := [d] }
  | _ => none }
def FnExactStoreAllWrongFalsely : Prop := fnExactStoreAllRow.holds Try.pinned (OpenSpec.ofChange fnExactStoreAllWrong)

/-- 'laws.FnStoredOfAll': WHATEVER THE INPUT: true; the input reads as it did. -/
def fnStoredOfAllSpec : ChangeSpec := { name := "fnStoredOfAll", fn := fun _ => fun
  | [d1, d2, d3] => { results := [.lit (.bool true)], args := [d1, d2, d3] }
  | _ => none }
def fnStoredOfAllRow : OpenClaim := { program := "ytjfmjeffmnjilaa", sum := "6363888869607daebca917225291b29112bef613415d105dd19c86d85aea7228", func := "loop.example/g01382/laws.FnStoredOfAll", spec := "fnStoredOfAll", inPlace := ["math.Float32bits", "internal/abi.NoEscape", "internal/bytealg.MakeNoZero", "math.Float32frombits"], unfollowed := true, recurses := true, apart := false }
def FnStoredOfAllSaid : Prop := fnStoredOfAllRow.holds Try.pinned (OpenSpec.ofChange fnStoredOfAllSpec)

/-- ITS FALSE NEIGHBOUR: 'it returns false'. Refute it at one input. -/
def fnStoredOfAllWrong : ChangeSpec := { name := "fnStoredOfAll", fn := fun _ => fun
  | [d1, d2, d3] => { results := [.lit (.bool false)], args := [d1, d2, d3] }
  | _ => none }
def FnStoredOfAllWrongFalsely : Prop := fnStoredOfAllRow.holds Try.pinned (OpenSpec.ofChange fnStoredOfAllWrong)

/-- 'laws.FnSavedLives': WHATEVER THE INPUT: true; the input reads as it did. -/
def fnSavedLivesSpec : ChangeSpec := { name := "fnSavedLives", fn := fun _ => fun
  | [d1, d2] => { results := [.lit (.bool true)], args := [d1, d2] }
  | _ => none }
def fnSavedLivesRow : OpenClaim := { program := "ytjfmjeffmnjilaa", sum := "6363888869607daebca917225291b29112bef613415d105dd19c86d85aea7228", func := "loop.example/g01382/laws.FnSavedLives", spec := "fnSavedLives", inPlace := ["math.Float32bits", "internal/abi.NoEscape", "internal/bytealg.MakeNoZero", "math.Float32frombits", "math.Float64bits"], unfollowed := true, recurses := true, apart := false }
def FnSavedLivesSaid : Prop := fnSavedLivesRow.holds Try.pinned (OpenSpec.ofChange fnSavedLivesSpec)

/-- ITS FALSE NEIGHBOUR: 'it returns false'. Refute it at one input. -/
def fnSavedLivesWrong : ChangeSpec := { name := "fnSavedLives", fn := fun _ => fun
  | [d1, d2] => { results := [.lit (.bool false)], args := [d1, d2] }
  | _ => none }
def FnSavedLivesWrongFalsely : Prop := fnSavedLivesRow.holds Try.pinned (OpenSpec.ofChange fnSavedLivesWrong)

/-- 'laws.FnExactLoadSaved': WHATEVER THE INPUT: true; the input reads as it did. -/
def fnExactLoadSavedSpec : ChangeSpec := { name := "fnExactLoadSaved", fn := fun _ => fun
  | [d] => { results := [.lit (.bool true)], args := [d] }
  | _ => none }
def fnExactLoadSavedRow : OpenClaim := { program := "ytjfmjeffmnjilaa", sum := "6363888869607daebca917225291b29112bef613415d105dd19c86d85aea7228", func := "loop.example/g01382/laws.FnExactLoadSaved", spec := "fnExactLoadSaved", inPlace := ["math.Float32frombits", "math.Float32bits", "internal/abi.NoEscape", "internal/bytealg.MakeNoZero"], unfollowed := true, recurses := true, apart := false }
def FnExactLoadSavedSaid : Prop := fnExactLoadSavedRow.holds Try.pinned (OpenSpec.ofChange fnExactLoadSavedSpec)

/-- ITS FALSE NEIGHBOUR: 'it returns false'. Refute it at one input. -/
def fnExactLoadSavedWrong : ChangeSpec := { name := "fnExactLoadSaved", fn := fun _ => fun
  | [d] => { results := [.lit (.bool false)], args := [d] }
  | _ => none }
def FnExactLoadSavedWrongFalsely : Prop := fnExactLoadSavedRow.holds Try.pinned (OpenSpec.ofChange fnExactLoadSavedWrong)

/-- 'laws.FnExactRecoverAll': WHATEVER THE INPUT: true; the input reads as it did. -/
def fnExactRecoverAllSpec : ChangeSpec := { name := "fnExactRecoverAll", fn := fun _ => fun
  | [d] => { results := [.lit (.bool true)], args := [d] }
  | _ => none }
def fnExactRecoverAllRow : OpenClaim := { program := "ytjfmjeffmnjilaa", sum := "6363888869607daebca917225291b29112bef613415d105dd19c86d85aea7228", func := "loop.example/g01382/laws.FnExactRecoverAll", spec := "fnExactRecoverAll", inPlace := ["math.Float32frombits", "math.Float32bits", "internal/abi.NoEscape", "internal/bytealg.MakeNoZero"], unfollowed := true, recurses := true, apart := false }
def FnExactRecoverAllSaid : Prop := fnExactRecoverAllRow.holds Try.pinned (OpenSpec.ofChange fnExactRecoverAllSpec)

/-- ITS FALSE NEIGHBOUR: 'it returns false'. Refute it at one input. -/
def fnExactRecoverAllWrong : ChangeSpec := { name := "fnExactRecoverAll", fn := fun _ => fun
  | [d] => { results := [.lit (.bool false)], args := [d] }
  | _ => none }
def FnExactRecoverAllWrongFalsely : Prop := fnExactRecoverAllRow.holds Try.pinned (OpenSpec.ofChange fnExactRecoverAllWrong)

/- THE SECOND FORM. 'bulk': how many values and letters a reading holds, each counted each time it is reached (what is shared counts as often as it is met; a slice's spare places count too). A statement '..UptoSaid' is the law's where the arguments, and the package variables that the reading takes, are together of bulk at most 1048576: NARROWER than '..Said'. Prove '..Said' where nothing that the law and all that it calls make is longer than what came in: it says more and counts as full. Else prove '..UptoSaid'. A law counts once. -/
mutual
def uptoBulk {H : Type} : DataW H → Nat
  | .lit (.string bytes) => bytes.length + 1
  | .lit _ => 1
  | .nil => 1
  | .ptr d => uptoBulk d + 1
  | .slice elems spare => uptoBulkAll elems + uptoBulkAll spare + 1
  | .agg parts => uptoBulkAll parts + 1
  | .iface _ d => uptoBulk d + 1
  | .map entries => uptoBulkEntries entries + 1
  | .held _ => 1
def uptoBulkAll {H : Type} : List (DataW H) → Nat
  | [] => 0
  | d :: r => uptoBulk d + uptoBulkAll r
def uptoBulkEntries {H : Type} : List (Lit × DataW H) → Nat
  | [] => 0
  | x :: r => uptoBulkEntry x + uptoBulkEntries r
def uptoBulkEntry {H : Type} : Lit × DataW H → Nat
  | (.string bytes, d) => bytes.length + uptoBulk d + 1
  | (_, d) => uptoBulk d + 1
 end
def uptoSmall : (H : Type) → List (DataW H) → Bool := fun _ ds => decide (uptoBulkAll ds ≤ 1048576)
def OpenSpec.upto (s : _root_.Go.ChangeSpec) : _root_.Go.OpenSpec := { _root_.Go.OpenSpec.ofChange s with cond := some uptoSmall }

/-- 'laws.FnExactSameSaved', WHERE WHAT IT READS IS OF BULK AT MOST 1048576: true; the input reads as it did. -/
def fnExactSameSavedUptoRow : OpenClaim := { program := "ytjfmjeffmnjilaa", sum := "6363888869607daebca917225291b29112bef613415d105dd19c86d85aea7228", func := "loop.example/g01382/laws.FnExactSameSaved", spec := "fnExactSameSaved", inPlace := ["math.Float32bits", "math.Float64bits"], unfollowed := true, recurses := true, apart := false, narrowed := true }
def FnExactSameSavedUptoSaid : Prop := fnExactSameSavedUptoRow.holds Try.pinned (OpenSpec.upto fnExactSameSavedSpec)

/-- 'laws.FnExactValidSaved', WHERE WHAT IT READS IS OF BULK AT MOST 1048576: true; the input reads as it did. -/
def fnExactValidSavedUptoRow : OpenClaim := { program := "ytjfmjeffmnjilaa", sum := "6363888869607daebca917225291b29112bef613415d105dd19c86d85aea7228", func := "loop.example/g01382/laws.FnExactValidSaved", spec := "fnExactValidSaved", unfollowed := true, recurses := true, apart := false, narrowed := true }
def FnExactValidSavedUptoSaid : Prop := fnExactValidSavedUptoRow.holds Try.pinned (OpenSpec.upto fnExactValidSavedSpec)

/-- 'laws.FnExactStoreSaved', WHERE WHAT IT READS IS OF BULK AT MOST 1048576: true; the input reads as it did. -/
def fnExactStoreSavedUptoRow : OpenClaim := { program := "ytjfmjeffmnjilaa", sum := "6363888869607daebca917225291b29112bef613415d105dd19c86d85aea7228", func := "loop.example/g01382/laws.FnExactStoreSaved", spec := "fnExactStoreSaved", inPlace := ["math.Float32bits"], unfollowed := true, recurses := true, apart := false, narrowed := true }
def FnExactStoreSavedUptoSaid : Prop := fnExactStoreSavedUptoRow.holds Try.pinned (OpenSpec.upto fnExactStoreSavedSpec)

/-- 'laws.FnExactStoreAll', WHERE WHAT IT READS IS OF BULK AT MOST 1048576: true; the input reads as it did. -/
def fnExactStoreAllUptoRow : OpenClaim := { program := "ytjfmjeffmnjilaa", sum := "6363888869607daebca917225291b29112bef613415d105dd19c86d85aea7228", func := "loop.example/g01382/laws.FnExactStoreAll", spec := "fnExactStoreAll", inPlace := ["math.Float32bits"], unfollowed := true, recurses := true, apart := false, narrowed := true }
def FnExactStoreAllUptoSaid : Prop := fnExactStoreAllUptoRow.holds Try.pinned (OpenSpec.upto fnExactStoreAllSpec)

/-- 'laws.FnStoredOfAll', WHERE WHAT IT READS IS OF BULK AT MOST 1048576: true; the input reads as it did. -/
def fnStoredOfAllUptoRow : OpenClaim := { program := "ytjfmjeffmnjilaa", sum := "6363888869607daebca917225291b29112bef613415d105dd19c86d85aea7228", func := "loop.example/g01382/laws.FnStoredOfAll", spec := "fnStoredOfAll", inPlace := ["math.Float32bits", "internal/abi.NoEscape", "internal/bytealg.MakeNoZero", "math.Float32frombits"], unfollowed := true, recurses := true, apart := false, narrowed := true }
def FnStoredOfAllUptoSaid : Prop := fnStoredOfAllUptoRow.holds Try.pinned (OpenSpec.upto fnStoredOfAllSpec)

/-- 'laws.FnSavedLives', WHERE WHAT IT READS IS OF BULK AT MOST 1048576: true; the input reads as it did. -/
def fnSavedLivesUptoRow : OpenClaim := { program := "ytjfmjeffmnjilaa", sum := "6363888869607daebca917225291b29112bef613415d105dd19c86d85aea7228", func := "loop.example/g01382/laws.FnSavedLives", spec := "fnSavedLives", inPlace := ["math.Float32bits", "internal/abi.NoEscape", "internal/bytealg.MakeNoZero", "math.Float32frombits", "math.Float64bits"], unfollowed := true, recurses := true, apart := false, narrowed := true }
def FnSavedLivesUptoSaid : Prop := fnSavedLivesUptoRow.holds Try.pinned (OpenSpec.upto fnSavedLivesSpec)

/-- 'laws.FnExactLoadSaved', WHERE WHAT IT READS IS OF BULK AT MOST 1048576: true; the input reads as it did. -/
def fnExactLoadSavedUptoRow : OpenClaim := { program := "ytjfmjeffmnjilaa", sum := "6363888869607daebca917225291b29112bef613415d105dd19c86d85aea7228", func := "loop.example/g01382/laws.FnExactLoadSaved", spec := "fnExactLoadSaved", inPlace := ["math.Float32frombits", "math.Float32bits", "internal/abi.NoEscape", "internal/bytealg.MakeNoZero"], unfollowed := true, recurses := true, apart := false, narrowed := true }
def FnExactLoadSavedUptoSaid : Prop := fnExactLoadSavedUptoRow.holds Try.pinned (OpenSpec.upto fnExactLoadSavedSpec)

/-- 'laws.FnExactRecoverAll', WHERE WHAT IT READS IS OF BULK AT MOST 1048576: true; the input reads as it did. -/
def fnExactRecoverAllUptoRow : OpenClaim := { program := "ytjfmjeffmnjilaa", sum := "6363888869607daebca917225291b29112bef613415d105dd19c86d85aea7228", func := "loop.example/g01382/laws.FnExactRecoverAll", spec := "fnExactRecoverAll", inPlace := ["math.Float32frombits", "math.Float32bits", "internal/abi.NoEscape", "internal/bytealg.MakeNoZero"], unfollowed := true, recurses := true, apart := false, narrowed := true }
def FnExactRecoverAllUptoSaid : Prop := fnExactRecoverAllUptoRow.holds Try.pinned (OpenSpec.upto fnExactRecoverAllSpec)

end Rows
end Go.Proofs.Ytjfmjeffmnjilaa
