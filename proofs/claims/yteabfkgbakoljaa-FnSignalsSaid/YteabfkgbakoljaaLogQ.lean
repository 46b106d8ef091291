/-
  The logarithm: facts for the walks.
-/
import Derived.Test.YteabfkgbakoljaaLogP
import Derived.Test.YteabfkgbakoljaaNn
namespace Go.Proofs.Yteabfkgbakoljaa.Fl
open Go.RowKit
set_option linter.unusedVariables false

/-- A result that is exact is the very word. -/
theorem flR_pos {op : BinOp} {k : FloatKind} {x y r : Nat} (h : fb op k x y = r) (hr : r < k.format.infRung) (w : World) : flR op k x y w = r := by
  have h1 := cn_flR op k x y w
  rw [h] at h1
  exact (eq_of_cn (k := k) (a := r) (by rw [cn_pos hr, h1]) (num_nan (read_pos hr))).symm
theorem ge_pos {k : FloatKind} {c q : Nat} (hc : c < k.format.infRung) (hq : q < k.format.infRung) : (k.format.order c q == some .gt || k.format.order c q == some .eq) = decide (q ≤ c) := by
  rw [order_pos hc hq, compare_int]
  rcases Nat.lt_trichotomy c q with h | h | h
  · rw [if_pos (by omega), decide_eq_false (by omega)]; rfl
  · subst h; rw [if_neg (by omega), if_pos rfl, decide_eq_true (Nat.le_refl _)]; rfl
  · rw [if_neg (by omega), if_neg (by omega), decide_eq_true (by omega)]; rfl
theorem lt_pos {k : FloatKind} {c q : Nat} (hc : c < k.format.infRung) (hq : q < k.format.infRung) : (k.format.order c q == some .lt) = decide (c < q) := by
  rw [order_pos hc hq, compare_int]
  rcases Nat.lt_trichotomy c q with h | h | h
  · rw [if_pos (by omega), decide_eq_true h]; rfl
  · subst h; rw [if_neg (by omega), if_pos rfl, decide_eq_false (Nat.lt_irrefl _)]; rfl
  · rw [if_neg (by omega), if_neg (by omega), decide_eq_false (by omega)]; rfl
theorem half64x {c : Nat} (h1 : 9007199254740992 ≤ c) (h2 : c < 9218868437227405312) : ∃ c', c = c' + 4503599627370496 ∧ fb .quo .f64 c 4611686018427387904 = c' := ⟨c - 4503599627370496, by omega, half64 h1 h2⟩
theorem dbl64x {c : Nat} (h1 : 4503599627370496 ≤ c) (h2 : c < 9214364837600034816) : ∃ c', c' = c + 4503599627370496 ∧ fb .mul .f64 c 4611686018427387904 = c' := ⟨c + 4503599627370496, rfl, dbl64 h1 h2⟩
theorem e_zero : (0 : Nat) = floatOfInt .f64 ((0 : Nat) : Int) := by decide +kernel
theorem k_zero : (4627730092099895296 : Nat) = floatOfInt .f64 (25 - 2 * ((0 : Nat) : Int)) := by decide +kernel
theorem q_zero (U : Nat) : cn .f64 0 = logQ U 0 := by
  have : cn .f64 0 = 0 := by decide +kernel
  exact this
theorem ks_ge : ∀ j : Nat, j < 14 → (FloatKind.f64.format.order (floatOfInt .f64 (25 - 2 * ((j : Nat) : Int))) 4607182418800017408 == some .gt || FloatKind.f64.format.order (floatOfInt .f64 (25 - 2 * ((j : Nat) : Int))) 4607182418800017408 == some .eq) = decide (j < 13) := by decide +kernel
theorem ks_fin : ∀ j : Nat, j < 13 → floatOfInt .f64 (23 - 2 * ((j : Nat) : Int)) = FloatKind.f64.format.word (decide (11 < j)) (floatOfInt .f64 (23 - 2 * ((j : Nat) : Int)) % 9223372036854775808) ∧ floatOfInt .f64 (23 - 2 * ((j : Nat) : Int)) % 9223372036854775808 < FloatKind.f64.format.infRung := by decide +kernel
theorem flR_bd {op : BinOp} {k : FloatKind} {x y r : Nat} (h : fb op k x y = r) (hr : isNan k r = false) (w : World) : flR op k x y w = r := by
  have h1 := cn_flR op k x y w
  rw [h] at h1
  exact (eq_of_cn (k := k) (a := r) (by rw [cn_num hr, h1]) hr).symm
def kM (b : Nat) : Nat := if b < 9223372036854775808 then b + 1 else 0
theorem km_dec : ∀ j : Nat, j < 13 → kM (floatOfInt .f64 (25 - 2 * ((j + 1 : Nat) : Int))) < kM (floatOfInt .f64 (25 - 2 * ((j : Nat) : Int))) := by decide +kernel
theorem ks_nan : ∀ j : Nat, j < 14 → isNan .f64 (floatOfInt .f64 (25 - 2 * ((j : Nat) : Int))) = false := by decide +kernel
theorem ks_step {j : Nat} (h : j < 13) (w : World) : flR .sub .f64 (floatOfInt .f64 (25 - 2 * ((j : Nat) : Int))) 4611686018427387904 w = floatOfInt .f64 (25 - 2 * ((j + 1 : Nat) : Int)) := by
  have e : (23 : Int) - 2 * (j : Int) = 25 - 2 * ((j + 1 : Nat) : Int) := by omega
  exact flR_bd (by rw [ks_next j h, e]) (ks_nan (j + 1) (by omega)) w
theorem int_nan (e : Int) : isNan .f64 (floatOfInt .f64 e) = false := isNan_nearest' _ _ _ _
theorem e_up {j : Nat} (h : j < 2200) (w : World) : flR .add .f64 (floatOfInt .f64 ((j : Nat) : Int)) 4607182418800017408 w = floatOfInt .f64 ((j + 1 : Nat) : Int) := by
  have e : ((j : Int) + 1) = ((j + 1 : Nat) : Int) := by omega
  exact flR_bd (by rw [(int_next j h).1, e]) (int_nan _) w
theorem e_down {e : Int} (h0 : e ≤ 0) (h1 : -2200 < e) (w : World) : flR .sub .f64 (floatOfInt .f64 e) 4607182418800017408 w = floatOfInt .f64 (e - 1) := by
  obtain ⟨j, rfl⟩ : ∃ j : Nat, e = -((j : Nat) : Int) := ⟨(-e).toNat, by omega⟩
  exact flR_bd (by rw [(int_next j (by omega)).2]) (int_nan _) w
/-- One round of the sum. -/
theorem q_step {U u q : Nat} {j : Nat} (hu : cn .f64 u = U) (hq : cn .f64 q = logQ U j) (w1 w2 w3 : World) :
    cn .f64 (flR .add .f64 (flR .quo .f64 4607182418800017408 (floatOfInt .f64 (25 - 2 * (j : Int))) w1) (flR .mul .f64 u q w2) w3) = logQ U (j + 1) := by
  have h1 : fb .mul .f64 u q = fb .mul .f64 U (logQ U j) := by rw [← fb_cn .mul .f64 u q, hu, hq]
  rw [cn_flR, ← fb_cn, cn_flR, cn_flR, h1]
  rfl
theorem s_step {c : Nat} (w1 w2 w3 : World) : cn .f64 (flR .quo .f64 (flR .sub .f64 c 4607182418800017408 w1) (flR .add .f64 c 4607182418800017408 w2) w3) = logS c := by
  rw [cn_flR, ← fb_cn, cn_flR, cn_flR]; rfl
theorem u_step {S z : Nat} (h : cn .f64 z = S) (w : World) : cn .f64 (flR .mul .f64 z z w) = fb .mul .f64 S S := by
  rw [cn_flR, ← fb_cn, h]
theorem end_step {r c s q : Nat} {e : Int} (hr : redE r = e ∧ redR r = c) (hs : cn .f64 s = logS c) (hq : cn .f64 q = logQ (fb .mul .f64 (logS c) (logS c)) 13) (w1 w2 w3 w4 : World) :
    cn .f64 (flR .add .f64 (flR .mul .f64 4611686018427387904 (flR .mul .f64 s q w1) w2) (flR .mul .f64 (floatOfInt .f64 e) 4604418534313441775 w3) w4) = logV r := by
  obtain ⟨rfl, rfl⟩ := hr
  have h1 : fb .mul .f64 s q = fb .mul .f64 (logS (redR r)) (logQ (fb .mul .f64 (logS (redR r)) (logS (redR r))) 13) := by rw [← fb_cn .mul .f64 s q, hs, hq]
  have h2 : ∀ z w, fb .mul .f64 z (flR .mul .f64 s q w) = fb .mul .f64 z (fb .mul .f64 s q) := fun z w => by rw [← fb_cnr, cn_flR]
  rw [cn_flR, ← fb_cn, cn_flR, cn_flR, h2, h1]
  rfl
/-- A number of 32 bits above 0 is, in 64 bits, above the least normal one. -/
theorem wide_pos {x : Nat} (h : Nn x) (h0 : x ≠ 0) : 4503599627370496 ≤ wide x ∧ wide x < 9218868437227405312 := by
  have hx := nn_read h
  have hp := pl_ge x
  have hm := mag_lt x
  have hm0 : magOf F32 x ≠ 0 := fun e => h0 (mag_zero e)
  obtain ⟨hm2, h1, h2⟩ := read32 hx
  have hw : wide x = cn .f64 (FloatKind.f64.format.nearest false (magOf F32 x) (placeOf F32 x)) := by
    unfold wide
    rw [cvBits_num hx]; rfl
  obtain ⟨r, hr, hi⟩ := nearest64_lt false (magOf F32 x) (placeOf F32 x) hm2 h1 h2
  have hg : 4503599627370496 ≤ rungOf FloatKind.f64.format (magOf F32 x) (placeOf F32 x) := by
    refine rung_ge FloatKind.f64.format ?_
    rw [show magOf FloatKind.f64.format 4503599627370496 = 2 ^ 52 by decide +kernel, show placeOf FloatKind.f64.format 4503599627370496 = -1074 by decide +kernel]
    refine NumLe.of (b := -1074) (by omega) (by omega) ?_
    rw [Int.sub_self, Int.toNat_zero, Nat.pow_zero, Nat.mul_one]
    have h3 : 2 ^ 52 ≤ 2 ^ (placeOf F32 x - -1074).toNat := Nat.pow_le_pow_right (by omega) (by omega)
    exact Nat.le_trans h3 (Nat.le_mul_of_pos_left _ (by omega))
  rw [hw, hr, cn_num (isNan_word' (Nat.le_of_lt hi))]
  rw [nearest_rung] at hr
  have e1 : ∀ (q : Nat), FloatKind.f64.format.word false q = q := fun q => rfl
  rw [e1] at hr ⊢
  rw [d64_inf] at hr hi
  rw [e1] at hr
  omega
end Go.Proofs.Yteabfkgbakoljaa.Fl
