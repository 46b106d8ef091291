/-
  A row of strings of the call's own, cell by cell.
-/
import Derived.Test.YtnpccnhamohnkaaGreatDoorMem
import Derived.Test.YtnpccnhamohnkaaGreatDoorProg
namespace Go.Proofs.YtnpccnhamohnkaaGreatDoor
open Go.RowKit Mem
set_option linter.unusedVariables false

theorem row_of_own {w : World} {base m : Nat} {v : Value} {xs : List Value} (hm : 1 ≤ m) (h : w.ownsRow base 9 1 v m xs) : ∃ g cap, v = .slice (some ⟨g, 0, none⟩) m cap ∧ base ≤ g ∧ g < w.heap.size ∧ m ≤ cap ∧ ∀ j u, xs[j]? = some u → w.cell? ⟨g, j, none⟩ = some u := by
  obtain ⟨h1, h2⟩ := h
  rcases h2 with ⟨_, h2⟩ | ⟨g, cap, cur, rfl, hb, hg, hn, hc, hs, ht⟩
  · omega
  · refine ⟨g, cap, rfl, hb, (Array.getElem?_eq_some_iff.1 hg).1, hn, fun j u hu => ?_⟩
    rw [cell_of_row w g j cur _ _ hg]
    rw [← ht, List.getElem?_take] at hu
    split at hu
    · rwa [← Array.getElem?_toList]
    · cases hu
end Go.Proofs.YtnpccnhamohnkaaGreatDoor
