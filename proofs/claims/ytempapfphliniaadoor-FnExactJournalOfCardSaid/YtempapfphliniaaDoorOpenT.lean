/-
  An argument that is a list of texts, opened.
-/
import Derived.Test.YtempapfphliniaaDoorOpenS
import Derived.SliceStrings
namespace Go.Proofs.YtempapfphliniaaDoor.Opn
open Go.ChangeShapes Go.WideShapes Go.ChangeAt Go.RowKit Go.Joins Mem
set_option linter.unusedVariables false
set_option maxRecDepth 100000

section
variable {H : Type} {enc : TypeId × Value → H} {w : World} {base : Nat} {spare : Nat → Bool} {held : Bool}
theorem open_strings {A : Option Addr} {n c : Nat} {d : DataW H} {ps : List MemPlace} (h : DataW.Trod enc Tryd.prog w base spare held 22 (.slice A n c) d ps) :
    ∃ xs : List ByteArray, Reads w w.heap.size 1 A n (xs.map Value.string) ∧ xs.length = n ∧ n ≤ c ∧ c ≤ maxLen ∧ ∀ x ∈ xs, x.size ≤ maxLen := by
  obtain ⟨fu, hf⟩ := h
  rcases Go.ChangeShapes.open_strings Tryd.underlying22 Tryd.underlying9 (by kernel_rfl) hf with ⟨hcs, hx⟩ | ⟨a, len', cap', ss, hcs, _, hl, hm, hz, hx, hcell, hsz⟩
  · simp [Value.cells] at hcs
    obtain ⟨rfl, rfl, rfl⟩ := hcs
    exact ⟨[], ⟨rfl, fun h => absurd h (by omega)⟩, rfl, Nat.le_refl _, by simp [maxLen], by simp⟩
  · simp [Value.cells] at hcs
    obtain ⟨rfl, rfl, rfl⟩ := hcs
    have hle : n ≤ ss.length := by rw [hz]; split <;> omega
    refine ⟨ss.take n, ⟨by simp; omega, fun h0 => ⟨a, rfl, ?_, fun j u hu => ?_⟩⟩, by simp; omega, hl, hm, fun x hx' => hsz x (List.mem_of_mem_take hx')⟩
    · have := World.block_lt_of_cell? w _ (hcell 0 (by omega))
      rwa [block_of_add] at this
    · rw [List.getElem?_map, List.getElem?_take] at hu
      split at hu
      · rename_i hj
        have hj' : j < ss.length := by omega
        have := hcell j hj'
        rw [List.getElem?_eq_getElem hj'] at hu
        simp at hu
        rw [this, ← hu, List.getD_eq_getElem?_getD, List.getElem?_eq_getElem hj']; rfl
      · simp at hu
end
end Go.Proofs.YtempapfphliniaaDoor.Opn
