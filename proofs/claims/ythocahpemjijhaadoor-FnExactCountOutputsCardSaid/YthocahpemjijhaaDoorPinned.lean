/-
  The witness's world where a row lists unicode/utf8.first, whose text the translation bears no literal of: what the door's run leaves, the table laid into its variable.
-/
import Derived.Test.YthocahpemjijhaaDoorShaped
import Derived.Lib.LaidU8
namespace Go.Proofs.YthocahpemjijhaaDoor
open Go.ChangeShapes Go.WideShapes Go.ChangeAt Go.RowKit

noncomputable def doorW (os : Os) : World :=
  { World.doorLaid Tryd.prog 400 os with
    heap := (World.doorLaid Tryd.prog 400 os).heap.modify 6 fun
      | .cells _ t fz => .cells (Lib.firstTab.map fun z => Value.int .u8 z).toArray t fz
      | o => o }
end Go.Proofs.YthocahpemjijhaaDoor
