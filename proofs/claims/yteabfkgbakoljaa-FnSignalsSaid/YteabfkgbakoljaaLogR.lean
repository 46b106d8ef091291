/-
  The logarithm of 32 bits: plain facts on quotients and differences of what is above 0.
-/
import Derived.Test.YteabfkgbakoljaaLogQ
namespace Go.Proofs.Yteabfkgbakoljaa.Fl
open Go.RowKit
set_option linter.unusedVariables false

theorem gt_pos {k : FloatKind} {c q : Nat} (hc : c < k.format.infRung) (hq : q < k.format.infRung) : (k.format.order c q == some .gt) = decide (q < c) := by
  rw [order_pos hc hq, compare_int]
  rcases Nat.lt_trichotomy c q with h | h | h
  · rw [if_pos (by omega), decide_eq_false (by omega)]; rfl
  · subst h; rw [if_neg (by omega), if_pos rfl, decide_eq_false (Nat.lt_irrefl _)]; rfl
  · rw [if_neg (by omega), if_neg (by omega), decide_eq_true h]; rfl
theorem le_pos {k : FloatKind} {c q : Nat} (hc : c < k.format.infRung) (hq : q < k.format.infRung) : (k.format.order c q == some .lt || k.format.order c q == some .eq) = decide (c ≤ q) := by
  rw [order_pos hc hq, compare_int]
  rcases Nat.lt_trichotomy c q with h | h | h
  · rw [if_pos (by omega), decide_eq_true (by omega)]; rfl
  · subst h; rw [if_neg (by omega), if_pos rfl, decide_eq_true (Nat.le_refl _)]; rfl
  · rw [if_neg (by omega), if_neg (by omega), decide_eq_false (by omega)]; rfl
theorem eq_pos {k : FloatKind} {c q : Nat} (hc : c < k.format.infRung) (hq : q < k.format.infRung) : (k.format.order c q == some .eq) = decide (c = q) := by
  rw [order_pos hc hq, compare_int]
  rcases Nat.lt_trichotomy c q with h | h | h
  · rw [if_pos (by omega), decide_eq_false (by omega)]; rfl
  · subst h; rw [if_neg (by omega), if_pos rfl, decide_eq_true rfl]; rfl
  · rw [if_neg (by omega), if_neg (by omega), decide_eq_false (by omega)]; rfl
theorem ne_pos {k : FloatKind} {c q : Nat} (hc : c < k.format.infRung) (hq : q < k.format.infRung) : (k.format.order c q != some .eq) = decide (c ≠ q) := by
  rw [bne, eq_pos hc hq]
  by_cases h : c = q
  · rw [decide_eq_true h, decide_eq_false (fun h' => h' h)]; rfl
  · rw [decide_eq_false h, decide_eq_true h]; rfl
/-- What is divided by at most 1 becomes no less. -/
theorem quo_dn {x y : Nat} (hx : Nn x) (hy : Nn y) (h0 : y ≠ 0) (h1 : y ≤ 1065353216) : x ≤ fb .quo .f32 x y ∧ fb .quo .f32 x y ≤ 2139095040 := by
  have rx := nn_read hx
  have ry := nn_read hy
  have px := pl_ge x
  have py := pl_ge y
  have mx := mag_lt x
  have hn : magOf F32 y ≠ 0 := fun e => h0 (mag_zero e)
  have hle := (numle_of_rung F32 h1)
  unfold fb floatBits Ieee.Format.div
  simp only
  rw [rx, ry]
  simp only [Ieee.Datum.quotient, if_neg hn, Option.map_some, Option.getD_some, Ieee.Format.write]
  rw [show (false ^^ false) = false from rfl, nearest_rung, word_false]
  have hd : FloatKind.f32.format.fractionBits + 2 = 25 := by decide +kernel
  rw [hd]
  show x ≤ cn .f32 (min (rungOf F32 _ _) F32.infRung) ∧ cn .f32 (min (rungOf F32 _ _) F32.infRung) ≤ _
  rw [cn_min, f32_inf]
  refine ⟨Nat.le_min.2 ⟨?_, by unfold Nn at hx; omega⟩, Nat.min_le_right _ _⟩
  have h2 := hle.at_ (b := -149) (by have := pl_ge y; omega) (by have := pl_ge 1065353216; omega)
  rw [show magOf F32 1065353216 * 2 ^ (placeOf F32 1065353216 - -149).toNat = 2 ^ 149 by decide +kernel] at h2
  refine rung_ge F32 ?_
  generalize magOf F32 x = m at *
  generalize magOf F32 y = n at *
  generalize placeOf F32 x = i at *
  generalize placeOf F32 y = j at *
  by_cases hm : m = 0
  · subst hm; unfold NumLe; simp
  rw [Nat.shiftLeft_eq]
  generalize hmore : 25 + n.log2 - m.log2 = more at *
  have l1 := log_lo hm
  have l2 := log_hi n
  have hD : 2 ^ (25 + n.log2) ≤ m * 2 ^ more := by
    refine Nat.le_trans ?_ (Nat.mul_le_mul_right _ l1)
    rw [← Nat.pow_add]
    exact Nat.pow_le_pow_right (by omega) (by omega)
  have hn0 : 0 < n := by omega
  have hj : j ≤ 0 := by
    rcases Int.lt_or_le 0 j with h | h
    · exfalso
      have h3 : 2 ^ 150 ≤ n * 2 ^ (j - -149).toNat := Nat.le_trans (Nat.pow_le_pow_right (by omega) (by omega)) (Nat.le_mul_of_pos_left _ hn0)
      have h4 : 2 ^ 149 < 2 ^ 150 := by decide
      omega
    · exact h
  have hnj : n ≤ 2 ^ (-j).toNat := by
    rw [show 149 = (-j).toNat + (j - -149).toNat by omega, Nat.pow_add] at h2
    exact Nat.le_of_mul_le_mul_right h2 (Nat.two_pow_pos _)
  have hq : m * 2 ^ (more - (-j).toNat) ≤ m * 2 ^ more / n := by
    rw [Nat.le_div_iff_mul_le hn0]
    rcases Nat.lt_or_ge more (-j).toNat with hlt | hge
    · rw [show more - (-j).toNat = 0 by omega, Nat.pow_zero, Nat.mul_one]
      refine Nat.le_trans ?_ hD
      have h3 : m * n ≤ 2 ^ 24 * 2 ^ (n.log2 + 1) := Nat.mul_le_mul (by omega) (by omega)
      rw [← Nat.pow_add, show 24 + (n.log2 + 1) = 25 + n.log2 by omega] at h3
      exact h3
    · rw [Nat.mul_assoc]
      refine Nat.mul_le_mul_left _ ?_
      refine Nat.le_trans (Nat.mul_le_mul_left _ hnj) ?_
      rw [← Nat.pow_add]
      exact Nat.pow_le_pow_right (by omega) (by omega)
  refine NumLe.of (b := min i (i - j - more - 1)) (by omega) (by omega) ?_
  generalize m * 2 ^ more / n = D at *
  have h5 : m * 2 ^ (i - min i (i - j - more - 1)).toNat ≤ 2 * D * 2 ^ (i - j - more - 1 - min i (i - j - more - 1)).toNat := by
    rw [Nat.mul_comm 2 D, Nat.mul_assoc, ← Nat.pow_succ']
    refine Nat.le_trans ?_ (Nat.mul_le_mul_right _ hq)
    rw [Nat.mul_assoc, ← Nat.pow_add]
    exact Nat.mul_le_mul_left _ (Nat.pow_le_pow_right (by omega) (by omega))
  exact Nat.le_trans h5 (Nat.mul_le_mul_right _ (Nat.le_add_right _ _))
/-- 1 without what is between 0 and 1. -/
theorem one_sub {a : Nat} (h : a < 1065353216) : fb .sub .f32 1065353216 a ≤ 1065353216 ∧ fb .sub .f32 1065353216 a ≠ 0 ∧ Nn (fb .sub .f32 1065353216 a) := by
  have ha : Nn a := by unfold Nn; omega
  have rx := nn_read (x := 1065353216) (by unfold Nn; omega)
  have ry := nn_read ha
  have py := pl_ge a
  have hv : iv a ≤ iv 1065353215 := iv_le.1 (by omega)
  have e1 : iv 1065353215 = 2 ^ 149 - 2 ^ 125 := by decide +kernel
  have e2 : magOf F32 1065353216 = 2 ^ 23 ∧ placeOf F32 1065353216 = -23 := by decide +kernel
  have e3 : iv 1065353216 = 2 ^ 149 := by decide +kernel
  have e4 : iv 864026624 = 2 ^ 125 := by decide +kernel
  have h125 : 2 ^ 125 ≤ 2 ^ 149 := by decide
  have key : fb .sub .f32 1065353216 a = min (rungOf F32 (2 ^ 149 - iv a) (-149)) F32.infRung := by
    unfold fb floatBits Ieee.Format.sub
    simp only
    rw [rx, ry]
    simp only [Ieee.Datum.sum, Ieee.Datum.opposite, Option.map_some, Option.getD_some, Ieee.Format.write]
    rw [e2.1, e2.2]
    have hs : ∀ (m u : Nat), Ieee.signed false m u = ((m * 2 ^ u : Nat) : Int) := by intro m u; unfold Ieee.signed; rw [if_neg (by simp), Nat.shiftLeft_eq]
    have hs' : ∀ (m u : Nat), Ieee.signed (!false) m u = -((m * 2 ^ u : Nat) : Int) := by intro m u; unfold Ieee.signed; rw [if_pos (show (!false) = true from rfl), Nat.shiftLeft_eq]
    rw [hs, hs']
    unfold iv at hv e1 ⊢
    generalize magOf F32 a = n at *
    generalize placeOf F32 a = j at *
    have k1 : 2 ^ 23 * 2 ^ (-23 - min (-23) j).toNat * 2 ^ (min (-23) j + 149).toNat = 2 ^ 149 := by
      rw [← Nat.pow_add, ← Nat.pow_add]; congr 1; omega
    have k2 : n * 2 ^ (j - min (-23) j).toNat * 2 ^ (min (-23) j + 149).toNat = n * 2 ^ (j + 149).toNat := by
      rw [Nat.mul_assoc, ← Nat.pow_add]; congr 2; omega
    generalize 2 ^ 23 * 2 ^ (-23 - min (-23) j).toNat = X at *
    generalize n * 2 ^ (j - min (-23) j).toNat = Y at *
    have hlt : Y < X := by
      have : Y * 2 ^ (min (-23) j + 149).toNat < X * 2 ^ (min (-23) j + 149).toNat := by
        rw [k1, k2]
        rw [e1] at hv
        have : 0 < 2 ^ 125 := by decide
        omega
      exact Nat.lt_of_mul_lt_mul_right this
    have hsg : (if ((X : Nat) : Int) + -((Y : Nat) : Int) = 0 then false && !false else decide (((X : Nat) : Int) + -((Y : Nat) : Int) < 0)) = false := by
      rw [if_neg (by omega), decide_eq_false (by omega)]
    rw [hsg, nearest_rung, word_false, cn_min]
    congr 1
    rw [show (((X : Nat) : Int) + -((Y : Nat) : Int)).natAbs = X - Y by omega]
    refine rung_same (b := -149) (by omega) (by omega) ?_
    rw [Int.sub_self, Int.toNat_zero, Nat.pow_zero, Nat.mul_one, Nat.sub_mul, show (min (-23) j - -149).toNat = (min (-23) j + 149).toNat by omega, k1, k2]
  have u1 : rungOf F32 (2 ^ 149 - iv a) (-149) ≤ 1065353216 := rung_up (b := 0) (by omega) (by rw [e3]; omega)
  have u2 : 864026624 ≤ rungOf F32 (2 ^ 149 - iv a) (-149) := rung_dn (b := 0) (by omega) (by rw [e4]; rw [e1] at hv; omega)
  rw [key, f32_inf]
  unfold Nn
  omega
def logN (x : Nat) : Nat := if x = 2139095040 then 2139095040 else nar (logV (wide x))
theorem logN_inf : logN 2139095040 = 2139095040 := if_pos rfl
theorem logN_num {x : Nat} (h : Nn x) : logN x = nar (logV (wide x)) := if_neg (by unfold Nn at h; omega)
/-- The word of 64 bits is told by that of 32. -/
theorem cvR_pos {x : Nat} (h : Nn x) (h0 : x ≠ 0) (w : World) : cvR .f32 .f64 x w = wide x := by
  have h1 := cn_cvR x w
  have h2 := wide_pos h h0
  have hr : wide x < FloatKind.f64.format.infRung := by rw [d64_inf]; exact h2.2
  exact (eq_of_cn (k := .f64) (a := wide x) (by rw [cn_pos hr, h1]) (num_nan (read_pos hr))).symm
theorem cvR_inf (w : World) : cvR .f32 .f64 2139095040 w = 9218868437227405312 := by
  have : cvBits .f32 .f64 2139095040 = some 9218868437227405312 := by decide +kernel
  unfold cvR; rw [this]; rfl
theorem cvR_inf' (w : World) : cvR .f64 .f32 9218868437227405312 w = 2139095040 := by
  have : cvBits .f64 .f32 9218868437227405312 = some 2139095040 := by decide +kernel
  unfold cvR; rw [this]; rfl
theorem log_end {x z : Nat} (h : Nn x) (h0 : x ≠ 0) (hz : cn .f64 z = logV (wide x)) (w : World) : cn .f32 (cvR .f64 .f32 z w) = logN x := by
  have h2 := wide_pos h h0
  have hb := narOk_bd (bd_log h2.2)
  rw [cn_cvR64 (narOk_cn.1 (by rw [hz]; exact hb)), ← nar_cn, hz, logN_num h]
end Go.Proofs.Yteabfkgbakoljaa.Fl
