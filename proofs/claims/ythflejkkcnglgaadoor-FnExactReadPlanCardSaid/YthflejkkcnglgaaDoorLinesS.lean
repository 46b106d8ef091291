/-
  The lines of a text: the reference's.
-/
import Derived.Test.YthflejkkcnglgaaDoorLines
import Derived.Test.YthflejkkcnglgaaDoorRow
namespace Go.Proofs.YthflejkkcnglgaaDoor
open Go.RowKit Mem Go.Shelf
set_option linter.unusedVariables false
set_option maxRecDepth 100000

set_option maxHeartbeats 1000000 in
theorem s_l08Lines {s x : ByteArray} {w : World} (hs : s.size ≤ 1048576) (hx : (splitS s 10)[(splitS s 10).length - 1]? = some x) :
    Calls Tryd.prog 20 #[.string s] w fun e w' => ∃ g cap, e = .returned (.tuple #[.slice (some ⟨g, 0, none⟩) ((splitS s 10).length - 1) cap, .string x]) ∧ w.heap.size ≤ g ∧ g < w'.heap.size ∧ (∀ j u, (splitS s 10)[j]? = some u → w'.cell? ⟨g, j, none⟩ = some (.string u)) ∧ Below w.heap.size w w' := by
  have hp := splitS_pos s 10
  have hle := splitS_le s 10
  go_enter Tryd.func20, Tryd.ntmps20
  go_wp2_with fail
  refine (s_l01Cut (m := 10) hs).mono ?_
  rintro e w1 ⟨v, rfl, hown, hb⟩
  rw [cutAll_split] at hown
  obtain ⟨g, cap, rfl, hg, hgl, hcap, hcell⟩ := row_of_own hp hown
  have hc : w1.cell? ⟨g, (splitS s 10).length - 1, none⟩ = some (.string x) := hcell _ _ (by simp [hx])
  have HC : Hid (∀ (j : Nat) (u : ByteArray), (splitS s 10)[j]? = some u → w1.cell? ⟨g, j, none⟩ = some (.string u)) := hide (fun j u hu => hcell _ _ (by simp [hu]))
  clear hown hcell hx
  obtain ⟨n, hn⟩ : ∃ n, (splitS s 10).length = n + 1 := ⟨_, (Nat.succ_pred_eq_of_pos hp).symm⟩
  rw [hn] at hc hle hcap ⊢
  simp only [Nat.add_sub_cancel] at hc
  replace hn := hide hn
  clear hp
  go_wp2
  go_quiet (fail)
  go_wp2
  go_ret2
  exact ⟨g, cap, by rw [hn.out]; rfl, hg, hgl, HC.out, below_drewN hb _⟩
end Go.Proofs.YthflejkkcnglgaaDoor
