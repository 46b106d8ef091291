/-
  The reference's cutting of a text at a mark.
-/
import Derived.Test.YtlpfnpcnidaijaaDoorPlanT
namespace Go.Proofs.YtlpfnpcnidaijaaDoor
open Go.RowKit Mem
set_option linter.unusedVariables false
set_option maxRecDepth 100000

theorem info_str : (Tryd.prog.info? 9).map (fun i => (i.zero, i.size, i.bytes)) = some (some (.string ByteArray.empty), 1, 16) := by kernel_rfl
/-- One step of the cutting: what is cut off so far, and where the next part begins. -/
def cutStep (s : ByteArray) (m : UInt8) (p : List ByteArray × Nat) (i : Nat) : List ByteArray × Nat :=
  if i = s.size ∨ s.data.toList[i]? = some m then (p.1 ++ [s.extract p.2 i], i + 1) else p
def cutTo (s : ByteArray) (m : UInt8) (k : Nat) : List ByteArray × Nat := (List.range k).foldl (cutStep s m) ([], 0)
def cutAll (s : ByteArray) (m : UInt8) : List ByteArray := (cutTo s m (s.size + 1)).1
theorem cutTo_succ (s : ByteArray) (m : UInt8) (k : Nat) : cutTo s m (k + 1) = cutStep s m (cutTo s m k) k := by
  unfold cutTo; rw [List.range_succ, List.foldl_append]; rfl
theorem cutTo_le (s : ByteArray) (m : UInt8) (k : Nat) : (cutTo s m k).2 ≤ k ∧ (cutTo s m k).1.length ≤ k := by
  induction k with
  | zero => exact ⟨Nat.le_refl _, Nat.le_refl _⟩
  | succ k ih =>
    rw [cutTo_succ]
    unfold cutStep
    split
    · simp; omega
    · omega

end Go.Proofs.YtlpfnpcnidaijaaDoor
