/-
  strings.Split at a newline: the shelf's contract at this program.
-/
import Derived.Test.YtlpfnpcnidaijaaDoorCutL
import Derived.Test.YtlpfnpcnidaijaaDoorLaySplit
namespace Go.Proofs.YtlpfnpcnidaijaaDoor
open Go.RowKit Mem Go.Shelf
set_option linter.unusedVariables false
set_option maxRecDepth 100000

end Go.Proofs.YtlpfnpcnidaijaaDoor
