/-
  The line of a signal at some turns: the plain law.
-/
import Derived.Test.YthfdgffgihjglaaPhN
import Derived.Test.YthfdgffgihjglaaAlarm
namespace Go.Proofs.Ythfdgffgihjglaa
open Go.RowKit Mem Fl
set_option linter.unusedVariables false
set_option maxRecDepth 100000

/-- The turns at a place. -/
def lnT (t k : Nat) : Nat := fb .mul .f32 t (floatOfInt .f32 (k : Int))
/-- What the point at these turns is, told. -/
def lnR (t k : Nat) : Nat := if fin .f32 (lnT t k) = true then ph1 (Op.negFloat .f64 (wide (lnT t k))) else nanOf .f32
def lnI (t k : Nat) : Nat := if fin .f32 (lnT t k) = true then ph2 (Op.negFloat .f64 (wide (lnT t k))) else nanOf .f32
def lnS (t : Nat) (xs : List Nat) : Nat → Nat × Nat
  | 0 => (0, 0)
  | k + 1 => (fb .add .f32 (lnS t xs k).1 (fb .mul .f32 (lnR t k) (xs.getD k 0)), fb .add .f32 (lnS t xs k).2 (fb .mul .f32 (lnI t k) (xs.getD k 0)))
theorem fb_nan_l {op : BinOp} {k : FloatKind} {x y : Nat} (h : isNan k x = true) : fb op k x y = nanOf k := by
  unfold fb; rw [floatBits_nan_left h]; exact cn_nan (isNan_nanOf k)
theorem fb_nan_r {op : BinOp} {k : FloatKind} {x y : Nat} (h : isNan k y = true) : fb op k x y = nanOf k := by
  unfold fb; rw [floatBits_nan_right h]; exact cn_nan (isNan_nanOf k)
/-- What is no number once stays so. -/
theorem lnS_nan {t : Nat} {xs : List Nat} {j : Nat} (h : fin .f32 (lnT t j) = false) : ∀ k, j < k → (lnS t xs k).1 = nanOf .f32
  | 0, hk => absurd hk (Nat.not_lt_zero _)
  | k + 1, hk => by
    simp only [lnS]
    rcases Nat.lt_or_ge j k with h1 | h1
    · rw [lnS_nan h k h1]; exact fb_nan_l (isNan_nanOf _)
    · obtain rfl : j = k := by omega
      have hr : lnR t j = nanOf .f32 := by unfold lnR; rw [h, if_neg (by simp)]
      rw [hr, fb_nan_l (isNan_nanOf _)]
      exact fb_nan_r (isNan_nanOf _)
theorem nan_notfin : fin .f32 (nanOf .f32) = false := by decide +kernel
theorem lnS_bad {t : Nat} {xs : List Nat} {j n : Nat} (h : fin .f32 (lnT t j) = false) (hj : j < n) : cfin (lnS t xs n).1 (lnS t xs n).2 = false := by
  unfold cfin; rw [lnS_nan h n hj, nan_notfin]; rfl
/-- A product of numbers is a number, or too great. -/
theorem mul_nonan {k : FloatKind} {a b : Nat} (ha : fin k a = true) (hb : fin k b = true) : isNan k (fb .mul k a b) = false := by
  obtain ⟨s, m, i, ra⟩ := (fin_iff k a).1 ha
  obtain ⟨t, n, j, rb⟩ := (fin_iff k b).1 hb
  rw [mul_read ra rb, isNan_cn]
  exact isNan_nearest' _ _ _ _
theorem int_fin32 : ∀ k : Nat, k < 1000 → fin .f32 (floatOfInt .f32 ((k : Nat) : Int)) = true := by decide +kernel
theorem lnT_word {t k : Nat} (ht : fin .f32 t = true) (hk : k < 1000) (w : World) : flR .mul .f32 t (floatOfInt .f32 (k : Int)) w = lnT t k :=
  flR_bd rfl (mul_nonan ht (int_fin32 k hk)) w
/-- The turns, negated, as a word. -/
theorem neg_turn {a : Nat} (h : fin .f32 a = true) : ∃ s r, Op.negFloat .f64 (wide a) = FloatKind.f64.format.word s r ∧ r < 9218868437227405312 := by
  obtain ⟨s, r, hw, hr⟩ := wide_word h
  exact ⟨!s, r, by rw [hw]; exact neg_word hr, hr⟩
def lnO (xs : List Nat) (t : Nat) : Bool := (isSig xs && fin .f32 t) && cfin (lnS t xs xs.length).1 (lnS t xs xs.length).2
end Go.Proofs.Ythfdgffgihjglaa
