/-
  RecoverJournal: the program's walk.
-/
import Derived.Test.YtnpccnhamohnkaaDoorRecP
import Derived.Clock
namespace Go.Proofs.YtnpccnhamohnkaaDoor
open Go.RowKit Mem Go.Shelf
set_option linter.unusedVariables false
set_option maxRecDepth 100000

theorem linesL_size (s : ByteArray) : (linesL s).length ≤ s.size := by
  have : (splitS s 10).length = Lib.countB s (markB 10) + 1 := Lib.splitB_all (markB 10) (Nat.le_refl 1) 0 _ s rfl
  have h2 := Lib.countB_le (markB 10) (Nat.le_refl 1) s.size s (Nat.le_refl _)
  unfold linesL
  rw [List.length_dropLast]
  omega
theorem rres_len (c : Nat) (xs : List ByteArray) : (rres c xs).1.length ≤ xs.length := by
  induction xs generalizing c with
  | nil => simp [rres]
  | cons x xs ih =>
    rw [rres]
    split
    · have := ih (chk c (rline x)); simp; omega
    · simp
theorem ext_all (t : ByteArray) : t.extract 0 t.size = t := by
  apply ba_ext; rw [Lib.extract_data]
  have hl : t.data.toList.length = t.size := Array.length_toList
  rw [List.drop_zero, List.take_of_length_le (by omega)]
theorem str_eq (a b : ByteArray) : (a.toList == b.toList) = decide (a = b) := by
  by_cases h : a = b
  · subst h; simp
  · rw [decide_eq_false h]
    simp only [Lib.toList_data, beq_eq_false_iff_ne]
    exact fun e => h (ba_ext e)
theorem str_ne (a b : ByteArray) : (!a.toList == b.toList) = !decide (a = b) := by rw [str_eq]
end Go.Proofs.YtnpccnhamohnkaaDoor
