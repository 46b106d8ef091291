/-
  strings.Split at a newline: the shelf's contract at this program.
-/
import Derived.Test.YtnpccnhamohnkaaGreatDoorCutL
import Derived.Test.YtnpccnhamohnkaaGreatDoorLaySplit
namespace Go.Proofs.YtnpccnhamohnkaaGreatDoor
open Go.RowKit Mem Go.Shelf
set_option linter.unusedVariables false
set_option maxRecDepth 100000

theorem split_calls {s : ByteArray} {b : Int} {m : UInt8} (w : World) (hs : s.size < 4294967281) (hm : w.cell? ⟨renSplit.g 1, 0, none⟩ = some (.int .i64 b)) :
    Calls Tryz.prog 131 #[.string s, .string (markB m)] w fun e w' =>
      e = .returned (.slice (some ⟨w.heap.size, 0, none⟩) (splitS s m).length (splitS s m).length) ∧ w' = w.alloc (.cells ((splitS s m).map Value.string).toArray 9) := by
  have hlen : (splitS s m).length = Lib.countB s (markB m) + 1 := Lib.splitB_all (markB m) (show 1 ≤ (markB m).size from Nat.le_refl 1) 0 _ s rfl
  rw [hlen]
  exact Any.strings_Split { laysSplit with } laysSplit.i9 s (markB m) b w hs hm (show 1 ≤ (markB m).size from Nat.le_refl 1)
end Go.Proofs.YtnpccnhamohnkaaGreatDoor
