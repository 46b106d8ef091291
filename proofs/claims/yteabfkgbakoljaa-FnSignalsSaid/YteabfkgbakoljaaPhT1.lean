/-
  Words of phasors, checked: part 1.
-/
import Derived.Test.YteabfkgbakoljaaPhT0
namespace Go.Proofs.Yteabfkgbakoljaa
open Go.RowKit Mem Fl
set_option linter.unusedVariables false
set_option maxRecDepth 100000

theorem phT_0 : ∀ j : Nat, j < 60 → phRow (0 + j) = true := by decide +kernel
theorem phT_1 : ∀ j : Nat, j < 60 → phRow (60 + j) = true := by decide +kernel
end Go.Proofs.Yteabfkgbakoljaa
