/-
  What the laws choose by bytes.
-/
import Derived.Test.YteabfkgbakoljaaSrc
import Derived.BigQuiet
import Derived.Deep.QuietTactic
namespace Go.Proofs.Yteabfkgbakoljaa
open Go.RowKit Fl Mem
set_option linter.unusedVariables false
set_option maxRecDepth 100000

theorem l_b10Long_no {A A' : Option Addr} {n n' c c' : Nat} {w : World} (h : n ≤ 1048576) (h' : n' ≤ 1048576) : Calls Try.prog 24 #[.slice A n c, .slice A' n' c'] w fun e w' => e = .returned (.bool false) ∧ w = w' := by
  have h1 : ¬ (1048576 : Int) < (n : Int) := by omega
  have h2 : decide ((1048576 : Int) < (n : Int)) = false := by simpa using h1
  have h3 : decide ((1048576 : Int) < (n' : Int)) = false := by simp; omega
  clear h h' h1
  go_enter Try.func24, Try.ntmps24
  go_wp2
  go_ret
  exact ⟨rfl, rfl⟩
theorem l_b10Long_yes {A A' : Option Addr} {n n' c c' : Nat} {w : World} (h : 1048576 < n ∨ 1048576 < n') : Calls Try.prog 24 #[.slice A n c, .slice A' n' c'] w fun e w' => e = .returned (.bool true) ∧ w = w' := by
  by_cases h1 : 1048576 < n
  · have h2 : decide ((1048576 : Int) < (n : Int)) = true := by simp; omega
    clear h h1
    go_enter Try.func24, Try.ntmps24
    go_wp2
    go_ret
    exact ⟨rfl, rfl⟩
  · have h2 : decide ((1048576 : Int) < (n : Int)) = false := by simp; omega
    have h3 : decide ((1048576 : Int) < (n' : Int)) = true := by simp; omega
    clear h h1
    go_enter Try.func24, Try.ntmps24
    go_wp2
    go_ret
    exact ⟨rfl, rfl⟩

theorem l_b10At {A : Option Addr} {n c B : Nat} {xs : List Int} {w : World} (h : Reads w B 1 A n (xs.map (Value.int .u8))) (hx : ∀ a ∈ xs, (Lit.int .u8 a).wf = true) (hn : n ≤ 1048576)
    {i N : Int} (hi : 0 ≤ i) (hi2 : i ≤ 100) (hN : 1 ≤ N) (hN2 : N ≤ 1000) :
    Calls Try.prog 25 #[.slice A n c, .int .i64 i, .int .i64 N] w fun e w' => ∃ v : Int, e = .returned (.int .i64 v) ∧ 0 ≤ v ∧ v < N ∧ w = w' := by
  by_cases h1 : N ≤ 1
  · go_enter Try.func25, Try.ntmps25
    go_wp2
    go_ret
    exact ⟨0, rfl, by omega, by omega, rfl⟩
  · by_cases h2 : i < n
    · obtain ⟨q, rfl⟩ := Int.eq_ofNat_of_zero_le hi
      obtain ⟨ad, x, rfl, hab, hc, hx0, hx1⟩ := src_byte h hx (show q < n by omega)
      go_enter Try.func25, Try.ntmps25
      go_wp2
      go_ret
      exact ⟨_, rfl, Int.emod_nonneg _ (by omega), Int.emod_lt_of_pos _ (by omega), rfl⟩
    · go_enter Try.func25, Try.ntmps25
      go_wp2
      go_ret
      exact ⟨_, rfl, Int.emod_nonneg _ (by omega), Int.emod_lt_of_pos _ (by omega), rfl⟩
end Go.Proofs.Yteabfkgbakoljaa
