/-
  strings.Split at a newline: the shelf's contract at this program.
-/
import Derived.Test.YthflejkkcnglgaaDoorCutL
import Derived.Test.YthflejkkcnglgaaDoorLaySplit
namespace Go.Proofs.YthflejkkcnglgaaDoor
open Go.RowKit Mem Go.Shelf
set_option linter.unusedVariables false
set_option maxRecDepth 100000

end Go.Proofs.YthflejkkcnglgaaDoor
