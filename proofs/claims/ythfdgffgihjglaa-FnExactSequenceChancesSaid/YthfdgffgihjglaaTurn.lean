/-
  Contracts of TurnMean: the program's and the reference's.
-/
import Derived.Test.YthfdgffgihjglaaTurnP
import Derived.RegionTactic
import Derived.BigRegion
namespace Go.Proofs.Ythfdgffgihjglaa
open Go.RowKit Fl Mem
set_option linter.unusedVariables false
set_option maxRecDepth 100000


end Go.Proofs.Ythfdgffgihjglaa
