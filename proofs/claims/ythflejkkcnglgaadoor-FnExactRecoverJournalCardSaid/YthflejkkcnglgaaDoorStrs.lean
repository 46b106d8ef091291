/-
  Contracts of the helpers of the laws on lists of texts.
-/
import Derived.Test.YthflejkkcnglgaaDoorMark
import Derived.Test.YthflejkkcnglgaaDoorCut
namespace Go.Proofs.YthflejkkcnglgaaDoor
open Go.RowKit Mem
set_option linter.unusedVariables false
set_option maxRecDepth 100000

set_option maxHeartbeats 400000 in
/-- 'eqStringS' of two lists that are equal. -/
theorem eqStringS_eq (A A' : Option Addr) (n n' c c' : Nat) (xs : List ByteArray) (B B' : Nat) (w : World) (h : Reads w B 1 A n (xs.map (Value.string))) (h' : Reads w B' 1 A' n' (xs.map (Value.string))) (hn : n ≤ maxLen) :
    Calls Tryd.prog 7 #[.slice A n c, .slice A' n' c'] w fun e w' => e = .returned (.bool true) ∧ ∃ n, w' = w.drewN n := by
  have hl : n' = n := by rw [← h.map_len, ← h'.map_len]
  subst hl
  unfold maxLen at hn
  go_enter Tryd.func7, Tryd.ntmps7
  go_wp2
  go_loopw [5] (fun i wr => ∃ k m : Nat, k ≤ n' ∧ i = .int .i64 k ∧ wr = w.drewN m) (fun i _ => n' - (intOf i).toNat)
  case atStart => exact ⟨0, 0, Nat.zero_le _, rfl, rfl⟩
  case round =>
    obtain ⟨k, m, hk, rfl, rfl⟩ := hrel
    by_cases hlt : k < n'
    · obtain ⟨ad, x, rfl, _, hx, hc⟩ := h.map_at hlt
      obtain ⟨ad', y, rfl, _, hy, hc'⟩ := h'.map_at hlt
      obtain rfl : y = x := by rw [hx] at hy; injection hy with hy; exact hy.symm

      clear hx hy
      have h1 : (0 : Int) ≤ k := by omega
      have h2 : (k : Int) < n' := by omega
      go_wp2
      go_quiet (fail)
      go_wp2
      go_roundw
      case rel => exact ⟨k + 1, _, by omega, by go_num, rfl⟩
      case measure => simp [intOf]; omega
    · go_wp2
      go_ret
      exact ⟨rfl, m, rfl⟩

end Go.Proofs.YthflejkkcnglgaaDoor
