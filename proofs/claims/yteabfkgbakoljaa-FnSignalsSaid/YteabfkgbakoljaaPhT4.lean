/-
  Words of phasors, checked: part 4.
-/
import Derived.Test.YteabfkgbakoljaaPhT0
namespace Go.Proofs.Yteabfkgbakoljaa
open Go.RowKit Mem Fl
set_option linter.unusedVariables false
set_option maxRecDepth 100000

theorem phT_6 : ∀ j : Nat, j < 60 → phRow (360 + j) = true := by decide +kernel
theorem phT_7 : ∀ j : Nat, j < 60 → phRow (420 + j) = true := by decide +kernel
end Go.Proofs.Yteabfkgbakoljaa
