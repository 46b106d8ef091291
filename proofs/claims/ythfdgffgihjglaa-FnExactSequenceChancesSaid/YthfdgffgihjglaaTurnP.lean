/-
  The numbers at places with one remainder, in plain lists.
-/
import Derived.Test.YthfdgffgihjglaaMean
namespace Go.Proofs.Ythfdgffgihjglaa
open Go.RowKit Fl Mem
set_option linter.unusedVariables false

/-- The numbers before place k whose places have the remainder r. -/
def pickTo (xs : List Nat) (p r k : Nat) : List Nat := ((List.range k).filter fun i => i % p == r).map fun i => xs.getD i 0
theorem pickTo_zero (xs : List Nat) (p r : Nat) : pickTo xs p r 0 = [] := rfl
theorem pickTo_yes {xs : List Nat} {p r k x : Nat} (hx : xs[k]? = some x) (h : k % p = r) : pickTo xs p r (k + 1) = pickTo xs p r k ++ [x] := by
  unfold pickTo
  rw [List.range_succ, List.filter_append, List.map_append]
  simp [h, hx]
theorem pickTo_no {xs : List Nat} {p r k : Nat} (h : k % p ≠ r) : pickTo xs p r (k + 1) = pickTo xs p r k := by
  unfold pickTo
  rw [List.range_succ, List.filter_append, List.map_append]
  simp [h]
/-- Between two places of one remainder there is none. -/
theorem pickTo_same {xs : List Nat} {p r i : Nat} (hp : 0 < p) (hi : i % p = r) : ∀ j, j < p → pickTo xs p r (i + 1 + j) = pickTo xs p r (i + 1) := by
  intro j
  induction j with
  | zero => intro _; rfl
  | succ j ih =>
    intro hj
    rw [← Nat.add_assoc, pickTo_no, ih (by omega)]
    intro h
    have h1 : (i + 1 + j) % p = (i % p + (1 + j)) % p := by rw [Nat.add_assoc, Nat.add_mod, Nat.mod_eq_of_lt (show 1 + j < p by omega)]
    rw [h1, hi] at h
    have hr : r < p := by rw [← hi]; exact Nat.mod_lt _ hp
    rcases Nat.lt_or_ge (r + (1 + j)) p with h2 | h2
    · rw [Nat.mod_eq_of_lt h2] at h; omega
    · rw [Nat.mod_eq_sub_mod h2, Nat.mod_eq_of_lt (by omega)] at h; omega
theorem pickTo_end {xs : List Nat} {p r n i : Nat} (hp : 0 < p) (hi : i % p = r) (h1 : n ≤ i) (h2 : i < n + p) (h3 : p ≤ i) : pickTo xs p r i = pickTo xs p r n := by
  have hi' : (i - p) % p = r := by rw [← hi, ← Nat.mod_eq_sub_mod h3]
  have e1 := pickTo_same (xs := xs) hp hi' (p - 1) (by omega)
  have e2 := pickTo_same (xs := xs) hp hi' (n - (i - p) - 1) (by omega)
  rw [show i - p + 1 + (p - 1) = i by omega] at e1
  rw [show i - p + 1 + (n - (i - p) - 1) = n by omega] at e2
  rw [e1, e2]
theorem pickTo_next {xs : List Nat} {p r i x : Nat} (hp : 0 < p) (hi : i % p = r) (hx : xs[i]? = some x) : pickTo xs p r (i + p) = pickTo xs p r i ++ [x] := by
  have e1 := pickTo_same (xs := xs) hp hi (p - 1) (by omega)
  rw [show i + 1 + (p - 1) = i + p by omega] at e1
  rw [e1, pickTo_yes hx hi]
theorem pickTo_start {xs : List Nat} {p r : Nat} : ∀ k, k ≤ r → r < p → pickTo xs p r k = [] := by
  intro k
  induction k with
  | zero => intro _ _; rfl
  | succ k ih =>
    intro h1 h2
    rw [pickTo_no (by rw [Nat.mod_eq_of_lt (by omega)]; omega), ih (by omega) h2]
theorem pickTo_len (xs : List Nat) (p r k : Nat) : (pickTo xs p r k).length ≤ k := by
  unfold pickTo
  rw [List.length_map]
  have := List.length_filter_le (fun i => i % p == r) (List.range k)
  simpa using this

/-- What TurnMean returns. -/
def turnL (xs : List Nat) (p : Nat) : List Nat := (List.range p).map fun r => fmean (pickTo xs p r xs.length)
theorem turnL_take {xs : List Nat} {p r : Nat} (h : r < p) : (turnL xs p).take (r + 1) = (turnL xs p).take r ++ [fmean (pickTo xs p r xs.length)] :=
  take_eq (by unfold turnL; simp [h])
theorem turnL_len (xs : List Nat) (p : Nat) : (turnL xs p).length = p := by simp [turnL]
def turnOk (xs : List Nat) (p : Int) : Bool := isSig xs && inB p 1 (xs.length : Int) && (turnL xs p.toNat).all (fin .f32)
def turnR (xs : List Nat) (p : Int) : List Nat := if turnOk xs p = true then turnL xs p.toNat else []
theorem turnR_no {xs : List Nat} {p : Int} (h : turnOk xs p = false) : turnR xs p = [] := by unfold turnR; rw [h]; rfl
theorem turnR_le (xs : List Nat) (p : Int) : (turnR xs p).length ≤ 1000 := by
  unfold turnR
  split
  · rename_i h
    unfold turnOk at h
    simp only [Bool.and_eq_true] at h
    have h1 := (isSig_len h.1.1).2
    have h2 := inB_iff.1 h.1.2
    rw [turnL_len]
    omega
  · simp
end Go.Proofs.Ythfdgffgihjglaa
