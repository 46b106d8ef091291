/-
  Contracts of the helpers of the laws: copies, comparisons, marks.
-/
import Derived.Test.YteabfkgbakoljaaChecked
import Derived.Test.YteabfkgbakoljaaConv
import Derived.Test.YteabfkgbakoljaaMem
import Derived.WalkLawsBesides
import Derived.WalkSpells
import Derived.BigQuiet
import Derived.Deep.RegionWith
import Derived.Deep.QuietTactic
namespace Go.Proofs.Yteabfkgbakoljaa
open Go.RowKit Fl Mem
set_option linter.unusedVariables false

/-- The cells of a list of numbers. -/
abbrev fl (k : FloatKind) (xs : List Nat) : List Value := xs.map (Value.float k)
theorem ret_bool {a b : Bool} (h : a = b) : Ending.returned (.bool a) = .returned (.bool b) := by rw [h]
theorem ret_int {k : IntKind} {a b : Int} (h : a = b) : Ending.returned (.int k a) = .returned (.int k b) := by rw [h]

end Go.Proofs.Yteabfkgbakoljaa
