/-
  Words of phasors, checked: part 3.
-/
import Derived.Test.YteabfkgbakoljaaPhT0
namespace Go.Proofs.Yteabfkgbakoljaa
open Go.RowKit Mem Fl
set_option linter.unusedVariables false
set_option maxRecDepth 100000

theorem phT_4 : ∀ j : Nat, j < 60 → phRow (240 + j) = true := by decide +kernel
theorem phT_5 : ∀ j : Nat, j < 60 → phRow (300 + j) = true := by decide +kernel
end Go.Proofs.Yteabfkgbakoljaa
