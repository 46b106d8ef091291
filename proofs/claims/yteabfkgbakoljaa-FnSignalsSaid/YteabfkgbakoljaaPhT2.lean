/-
  Words of phasors, checked: part 2.
-/
import Derived.Test.YteabfkgbakoljaaPhT0
namespace Go.Proofs.Yteabfkgbakoljaa
open Go.RowKit Mem Fl
set_option linter.unusedVariables false
set_option maxRecDepth 100000

theorem phT_2 : ∀ j : Nat, j < 60 → phRow (120 + j) = true := by decide +kernel
theorem phT_3 : ∀ j : Nat, j < 60 → phRow (180 + j) = true := by decide +kernel
end Go.Proofs.Yteabfkgbakoljaa
