/-
  The lines of a text: both sides.
-/
import Derived.Test.YtnpccnhamohnkaaDoorSplit
import Derived.BigQuiet
namespace Go.Proofs.YtnpccnhamohnkaaDoor
open Go.RowKit Mem Go.Shelf
set_option linter.unusedVariables false
set_option maxRecDepth 100000

theorem splitS_pos (s : ByteArray) (m : UInt8) : 1 ≤ (splitS s m).length := by
  rw [show (splitS s m).length = Lib.countB s (markB m) + 1 from Lib.splitB_all (markB m) (Nat.le_refl 1) 0 _ s rfl]; omega
theorem splitS_le (s : ByteArray) (m : UInt8) : (splitS s m).length ≤ s.size + 1 := by
  rw [show (splitS s m).length = Lib.countB s (markB m) + 1 from Lib.splitB_all (markB m) (Nat.le_refl 1) 0 _ s rfl]
  have := Lib.countB_le (markB m) (Nat.le_refl 1) s.size s (Nat.le_refl _)
  omega
end Go.Proofs.YtnpccnhamohnkaaDoor
