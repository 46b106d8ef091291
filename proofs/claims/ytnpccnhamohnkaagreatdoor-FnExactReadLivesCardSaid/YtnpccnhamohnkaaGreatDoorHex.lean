/-
  Hexadecimal digits: the plain law. The fewest digits of a number, filled up with noughts, are its digits at a fixed width.
-/
import Derived.Test.YtnpccnhamohnkaaGreatDoorPlanT
namespace Go.Proofs.YtnpccnhamohnkaaGreatDoor
open Go.RowKit Mem
set_option linter.unusedVariables false

def hexDig (d : Nat) : UInt8 := if d < 10 then UInt8.ofNat (48 + d) else UInt8.ofNat (87 + d)
def hexMin (n : Nat) : List UInt8 := if h : n < 16 then [hexDig n] else hexMin (n / 16) ++ [hexDig (n % 16)]
def hexPad : Nat → Nat → List UInt8
  | 0, _ => []
  | k + 1, n => hexPad k (n / 16) ++ [hexDig (n % 16)]

theorem hexMin_small {n : Nat} (h : n < 16) : hexMin n = [hexDig n] := by rw [hexMin, dif_pos h]
theorem hexMin_big {n : Nat} (h : ¬ n < 16) : hexMin n = hexMin (n / 16) ++ [hexDig (n % 16)] := by rw [hexMin, dif_neg h]
theorem hexPad_len : ∀ k n, (hexPad k n).length = k := by
  intro k
  induction k with
  | zero => intro n; rfl
  | succ k ih => intro n; simp [hexPad, ih]
theorem hexPad_zero : ∀ k, hexPad k 0 = List.replicate k 48 := by
  intro k
  induction k with
  | zero => rfl
  | succ k ih =>
    rw [hexPad, Nat.zero_div, ih, Nat.zero_mod, List.replicate_succ']
    rfl
theorem hexMin_pos (n : Nat) : 1 ≤ (hexMin n).length := by
  by_cases h : n < 16
  · rw [hexMin_small h]; simp
  · rw [hexMin_big h]; simp
theorem hexMin_len : ∀ k n, n < 16 ^ (k + 1) → (hexMin n).length ≤ k + 1 := by
  intro k
  induction k with
  | zero => intro n h; rw [hexMin_small (by simpa using h)]; simp
  | succ k ih =>
    intro n h
    by_cases h16 : n < 16
    · rw [hexMin_small h16]; simp
    · rw [hexMin_big h16]
      have := ih (n / 16) (by rw [Nat.pow_succ] at h; exact Nat.div_lt_of_lt_mul (by rw [Nat.mul_comm]; exact h))
      simp; omega
theorem hexMin_pad : ∀ k n, n < 16 ^ (k + 1) → List.replicate (k + 1 - (hexMin n).length) 48 ++ hexMin n = hexPad (k + 1) n := by
  intro k
  induction k with
  | zero =>
    intro n h
    have h16 : n < 16 := by simpa using h
    rw [hexMin_small h16]
    simp [hexPad, Nat.mod_eq_of_lt h16]
  | succ k ih =>
    intro n h
    have hd : n / 16 < 16 ^ (k + 1) := by rw [Nat.pow_succ] at h; exact Nat.div_lt_of_lt_mul (by rw [Nat.mul_comm]; exact h)
    by_cases h16 : n < 16
    · rw [hexMin_small h16, hexPad, Nat.div_eq_of_lt h16, hexPad_zero, Nat.mod_eq_of_lt h16]
      simp
    · rw [hexMin_big h16, hexPad, ← ih (n / 16) hd]
      have hl := hexMin_len k (n / 16) hd
      rw [List.length_append, List.length_singleton, show k + 1 + 1 - ((hexMin (n / 16)).length + 1) = k + 1 - (hexMin (n / 16)).length by omega, List.append_assoc]
/-- So many digits told, and what is left. -/
def HexAt (n : Nat) (L : List UInt8) (u : Nat) : Prop := hexMin n = hexMin u ++ L
theorem hexAt_start (n : Nat) : HexAt n [] n := by unfold HexAt; simp
theorem hexAt_step {n u : Nat} {L : List UInt8} (h : HexAt n L u) (hu : ¬ u < 16) : HexAt n (hexDig (u % 16) :: L) (u / 16) := by
  unfold HexAt at *
  rw [h, hexMin_big hu, List.append_assoc]; rfl
theorem hexAt_done {n u : Nat} {L : List UInt8} (h : HexAt n L u) (hu : u < 16) : hexMin n = hexDig u :: L := by
  unfold HexAt at h
  rw [h, hexMin_small hu]; rfl
theorem hexAt_len {n u : Nat} {L : List UInt8} (h : HexAt n L u) : L.length + 1 ≤ (hexMin n).length := by
  unfold HexAt at h
  rw [h, List.length_append]
  have := hexMin_pos u
  omega
theorem hexDig_byte : ∀ d : Nat, d < 16 → (hexDig d).toNat = if d < 10 then 48 + d else 87 + d := by decide
end Go.Proofs.YtnpccnhamohnkaaGreatDoor
