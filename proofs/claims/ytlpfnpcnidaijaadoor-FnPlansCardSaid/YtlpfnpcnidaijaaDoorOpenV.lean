/-
  Arguments opened: a law, a chain, a list of lives.
-/
import Derived.Test.YtlpfnpcnidaijaaDoorOpenS
namespace Go.Proofs.YtlpfnpcnidaijaaDoor.Opn
open Go.ChangeShapes Go.WideShapes Go.ChangeAt Go.RowKit Go.Joins Fl Mem
set_option linter.unusedVariables false
set_option maxRecDepth 100000

section
variable {H : Type} {enc : TypeId × Value → H} {w : World} {base : Nat} {spare : Nat → Bool} {held : Bool} {r : Reach} {b0 : Nat}
end
end Go.Proofs.YtlpfnpcnidaijaaDoor.Opn
