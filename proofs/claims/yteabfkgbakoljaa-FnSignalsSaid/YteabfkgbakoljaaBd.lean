/-
  Sizes of numbers: what '+', '-', '*', '/' give is at most what the sizes of both allow.
-/
import Derived.Test.YteabfkgbakoljaaCapP
namespace Go.Proofs.Yteabfkgbakoljaa.Fl
open Go.RowKit
set_option linter.unusedVariables false

/-- What a rung stands for, counted in units of the least one. -/
def vv (k : FloatKind) (r : Nat) : Nat := magOf k.format r * 2 ^ (placeOf k.format r - k.format.leastPlace).toNat
theorem vv_le {k : FloatKind} {r r' : Nat} (h : r ≤ r') : vv k r ≤ vv k r' := by
  have := (numle_of_rung k.format h).at_ (b := k.format.leastPlace) (place_ge _ _) (place_ge _ _)
  exact this
/-- A finite number of at most the rung R. -/
def Bd (k : FloatKind) (R x : Nat) : Prop := R < k.format.infRung ∧ ∃ s r, x = k.format.word s r ∧ r ≤ R
/-- A number that is not negative and of at least the rung L. -/
def Lo (k : FloatKind) (L x : Nat) : Prop := ∃ r, x = r ∧ L ≤ r ∧ r < k.format.infRung
theorem Bd.read {k : FloatKind} {R x : Nat} (h : Bd k R x) : ∃ s r, k.format.read x = .number s (magOf k.format r) (placeOf k.format r) ∧ r ≤ R := by
  obtain ⟨hR, s, r, rfl, hr⟩ := h
  exact ⟨s, r, read_word (by omega), hr⟩
theorem Bd.mono {k : FloatKind} {R R' x : Nat} (h : Bd k R x) (h1 : R ≤ R') (h2 : R' < k.format.infRung) : Bd k R' x := by
  obtain ⟨hR, s, r, rfl, hr⟩ := h
  exact ⟨h2, s, r, rfl, by omega⟩
theorem bd_word {k : FloatKind} {s : Bool} {r R : Nat} (h : r ≤ R) (hR : R < k.format.infRung) : Bd k R (k.format.word s r) := ⟨hR, s, r, rfl, h⟩
theorem bd_nearest {k : FloatKind} {s : Bool} {m : Nat} {e : Int} {R : Nat} (h : rungOf k.format m e ≤ R) (hR : R < k.format.infRung) : Bd k R (cn k (k.format.nearest s m e)) := by
  rw [nearest_rung, Nat.min_eq_left (by omega), cn_num (isNan_word' (by omega))]
  exact bd_word h hR
theorem signed_abs (s : Bool) (m u : Nat) : (Ieee.signed s m u).natAbs = m * 2 ^ u := by
  unfold Ieee.signed
  rw [Nat.shiftLeft_eq]
  split
  · rw [Int.natAbs_neg, Int.natAbs_natCast]
  · rw [Int.natAbs_natCast]
theorem sum_le {k : FloatKind} {s t : Bool} {r q R : Nat} (h : vv k r + vv k q ≤ vv k R) :
    rungOf k.format ((Ieee.signed s (magOf k.format r) (placeOf k.format r - min (placeOf k.format r) (placeOf k.format q)).toNat + Ieee.signed t (magOf k.format q) (placeOf k.format q - min (placeOf k.format r) (placeOf k.format q)).toNat).natAbs) (min (placeOf k.format r) (placeOf k.format q)) ≤ R := by
  have h1 := Int.natAbs_add_le (Ieee.signed s (magOf k.format r) (placeOf k.format r - min (placeOf k.format r) (placeOf k.format q)).toNat) (Ieee.signed t (magOf k.format q) (placeOf k.format q - min (placeOf k.format r) (placeOf k.format q)).toNat)
  rw [signed_abs, signed_abs] at h1
  have pr := place_ge k.format r
  have pq := place_ge k.format q
  have pR := place_ge k.format R
  refine rung_le k.format (NumLe.of (b := k.format.leastPlace) (by omega) pR (Nat.le_trans (Nat.mul_le_mul_right _ h1) ?_))
  unfold vv at h
  rw [Nat.add_mul, Nat.mul_assoc, Nat.mul_assoc, ← Nat.pow_add, ← Nat.pow_add]
  rw [show (placeOf k.format r - min (placeOf k.format r) (placeOf k.format q)).toNat + (min (placeOf k.format r) (placeOf k.format q) - k.format.leastPlace).toNat = (placeOf k.format r - k.format.leastPlace).toNat by omega]
  rw [show (placeOf k.format q - min (placeOf k.format r) (placeOf k.format q)).toNat + (min (placeOf k.format r) (placeOf k.format q) - k.format.leastPlace).toNat = (placeOf k.format q - k.format.leastPlace).toNat by omega]
  exact h
theorem bd_add {k : FloatKind} {Rx Ry R x y : Nat} (hx : Bd k Rx x) (hy : Bd k Ry y) (hR : R < k.format.infRung) (h : vv k Rx + vv k Ry ≤ vv k R) : Bd k R (fb .add k x y) := by
  obtain ⟨s, r, rx, h1⟩ := hx.read
  obtain ⟨t, q, ry, h2⟩ := hy.read
  unfold fb floatBits Ieee.Format.add
  simp only
  rw [rx, ry]
  simp only [Ieee.Datum.sum, Option.map_some, Option.getD_some, Ieee.Format.write]
  exact bd_nearest (sum_le (Nat.le_trans (Nat.add_le_add (vv_le h1) (vv_le h2)) h)) hR
theorem bd_sub {k : FloatKind} {Rx Ry R x y : Nat} (hx : Bd k Rx x) (hy : Bd k Ry y) (hR : R < k.format.infRung) (h : vv k Rx + vv k Ry ≤ vv k R) : Bd k R (fb .sub k x y) := by
  obtain ⟨s, r, rx, h1⟩ := hx.read
  obtain ⟨t, q, ry, h2⟩ := hy.read
  unfold fb floatBits Ieee.Format.sub
  simp only
  rw [rx, ry]
  simp only [Ieee.Datum.sum, Ieee.Datum.opposite, Option.map_some, Option.getD_some, Ieee.Format.write]
  exact bd_nearest (sum_le (Nat.le_trans (Nat.add_le_add (vv_le h1) (vv_le h2)) h)) hR
theorem bd_mul {k : FloatKind} {Rx Ry R x y : Nat} (hx : Bd k Rx x) (hy : Bd k Ry y) (hR : R < k.format.infRung) (h : vv k Rx * vv k Ry ≤ vv k R * 2 ^ (-k.format.leastPlace).toNat) : Bd k R (fb .mul k x y) := by
  obtain ⟨s, r, rx, h1⟩ := hx.read
  obtain ⟨t, q, ry, h2⟩ := hy.read
  have hl : k.format.leastPlace ≤ 0 := by cases k <;> decide +kernel
  have pr := place_ge k.format r
  have pq := place_ge k.format q
  have pR := place_ge k.format R
  unfold fb floatBits Ieee.Format.mul
  simp only
  rw [rx, ry]
  simp only [Ieee.Datum.product, Option.map_some, Option.getD_some, Ieee.Format.write]
  refine bd_nearest (rung_le k.format (NumLe.of (b := k.format.leastPlace + k.format.leastPlace) (by omega) (by omega) ?_)) hR
  have h3 := Nat.le_trans (Nat.mul_le_mul (vv_le h1) (vv_le h2)) h
  unfold vv at h3
  rw [Nat.mul_assoc (magOf k.format R), ← Nat.pow_add, show (placeOf k.format R - k.format.leastPlace).toNat + (-k.format.leastPlace).toNat = (placeOf k.format R - (k.format.leastPlace + k.format.leastPlace)).toNat by omega] at h3
  refine Nat.le_trans (Nat.le_of_eq ?_) h3
  rw [show (placeOf k.format r + placeOf k.format q - (k.format.leastPlace + k.format.leastPlace)).toNat = (placeOf k.format r - k.format.leastPlace).toNat + (placeOf k.format q - k.format.leastPlace).toNat by omega, Nat.pow_add]
  ac_rfl
/-- A quotient, in whole numbers. -/
theorem quo_le {f : Ieee.Format} {m n c d : Nat} {i j p : Int} (hn : n ≠ 0) (hd : c < 2 ^ d) (b : Int) (hi : b ≤ i) (hj : b ≤ j) (hp : b ≤ p) (hb : b ≤ 0) (h : m * 2 ^ (i - b).toNat * 2 ^ (-b).toNat ≤ n * 2 ^ (j - b).toNat * (c * 2 ^ (p - b).toNat)) :
    NumLe (2 * ((m <<< (d + 1 + n.log2 - m.log2)) / n) + ((m <<< (d + 1 + n.log2 - m.log2)) % n != 0).toNat) (i - j - ((d + 1 + n.log2 - m.log2 : Nat) : Int) - 1) c p := by
  rw [Nat.shiftLeft_eq]
  by_cases hm : m = 0
  · subst hm
    rw [Nat.zero_mul, Nat.zero_div, Nat.zero_mod]
    unfold NumLe
    simp
  generalize hmore : d + 1 + n.log2 - m.log2 = more at *
  have l1 := Nat.log2_self_le hm
  have l2 : n < 2 ^ (n.log2 + 1) := Nat.lt_log2_self
  have hD : 2 ^ (d + 1 + n.log2) ≤ m * 2 ^ more := by
    refine Nat.le_trans ?_ (Nat.mul_le_mul_right _ l1)
    rw [← Nat.pow_add]
    exact Nat.pow_le_pow_right (by omega) (by omega)
  have hh : m * 2 ^ (i - b - b).toNat ≤ n * c * 2 ^ (j + p - b - b).toNat := by
    have e1 : m * 2 ^ (i - b).toNat * 2 ^ (-b).toNat = m * 2 ^ (i - b - b).toNat := by rw [Nat.mul_assoc, ← Nat.pow_add]; congr 2; omega
    have e2 : n * 2 ^ (j - b).toNat * (c * 2 ^ (p - b).toNat) = n * c * 2 ^ (j + p - b - b).toNat := by
      rw [show (j + p - b - b).toNat = (j - b).toNat + (p - b).toNat by omega, Nat.pow_add]; ac_rfl
    rw [e1, e2] at h
    exact h
  have hge : i - j - more ≤ p := by
    rcases Int.lt_or_le p (i - j - more) with hlt | hge
    · exfalso
      have e3 : (i - b - b).toNat = (j + p - b - b).toNat + ((i - j - p).toNat) := by omega
      rw [e3, Nat.pow_add, Nat.mul_comm (2 ^ _) (2 ^ _), ← Nat.mul_assoc] at hh
      have h1 := Nat.le_of_mul_le_mul_right hh (Nat.two_pow_pos _)
      have h2 : m * 2 ^ (more + 1) ≤ m * 2 ^ (i - j - p).toNat := Nat.mul_le_mul_left _ (Nat.pow_le_pow_right (by omega) (by omega))
      have h3 : n * c ≤ 2 ^ (n.log2 + 1) * 2 ^ d := Nat.mul_le_mul (by omega) (by omega)
      have h4 : 2 ^ (n.log2 + 1) * 2 ^ d = 2 ^ (d + 1 + n.log2) := by rw [← Nat.pow_add]; congr 1; omega
      have h5 : m * 2 ^ (more + 1) = 2 * (m * 2 ^ more) := by rw [Nat.pow_succ, ← Nat.mul_assoc]; omega
      have h6 : 0 < 2 ^ (d + 1 + n.log2) := Nat.two_pow_pos _
      omega
    · exact hge
  have hDK : m * 2 ^ more ≤ n * (c * 2 ^ (p - (i - j - more)).toNat) := by
    have h1 := Nat.mul_le_mul_right (2 ^ (p - (i - j - more)).toNat) hh
    rw [Nat.mul_assoc, Nat.mul_assoc (n * c), ← Nat.pow_add, ← Nat.pow_add] at h1
    have e4 : (i - b - b).toNat + (p - (i - j - more)).toNat = more + (j + p - b - b).toNat := by omega
    rw [e4, Nat.add_comm (j + p - b - b).toNat, Nat.pow_add, Nat.pow_add, ← Nat.mul_assoc, ← Nat.mul_assoc] at h1
    have h2 := Nat.le_of_mul_le_mul_right h1 (Nat.two_pow_pos _)
    rwa [Nat.mul_assoc] at h2
  refine NumLe.of (b := i - j - more - 1) (by omega) (by omega) ?_
  rw [Int.sub_self, Int.toNat_zero, Nat.pow_zero, Nat.mul_one]
  rw [show (p - (i - j - more - 1)).toNat = (p - (i - j - more)).toNat + 1 by omega, Nat.pow_succ, ← Nat.mul_assoc]
  generalize c * 2 ^ (p - (i - j - more)).toNat = K at *
  generalize m * 2 ^ more = D at *
  have hn0 : 0 < n := by omega
  have hdm := Nat.div_add_mod D n
  have hq : D / n ≤ K := by
    have := Nat.div_le_div_right (c := n) hDK
    rwa [Nat.mul_div_cancel_left _ hn0] at this
  rcases Nat.lt_or_ge (D / n) K with h1 | h1
  · have : (D % n != 0).toNat ≤ 1 := by cases (D % n != 0) <;> decide
    omega
  · have he : D / n = K := by omega
    rw [he] at hdm ⊢
    have : D % n = 0 := by omega
    rw [this]
    simp
    omega
theorem mag_lt' (f : Ieee.Format) (r : Nat) : magOf f r < 2 ^ (f.fractionBits + 1) := by
  have hb := binade_pos f
  have e : 2 ^ (f.fractionBits + 1) = 2 * f.binade := by unfold Ieee.Format.binade; rw [Nat.pow_succ]; omega
  rw [e]
  unfold magOf
  split
  · omega
  · have := Nat.mod_lt r hb; omega
theorem bd_quo {k : FloatKind} {Rx Ly R x y : Nat} (hx : Bd k Rx x) (hy : Lo k Ly y) (hR : R < k.format.infRung) (h0 : vv k Ly ≠ 0) (h : vv k Rx * 2 ^ (-k.format.leastPlace).toNat ≤ vv k Ly * vv k R) : Bd k R (fb .quo k x y) := by
  obtain ⟨s, r, rx, h1⟩ := hx.read
  obtain ⟨q, hyq, hq1, hq2⟩ := hy
  subst hyq
  have ry : k.format.read y = .number false (magOf k.format y) (placeOf k.format y) := by
    have := read_word (k := k) (s := false) hq2
    rwa [show k.format.word false y = y from rfl] at this
  have hv := vv_le (k := k) hq1
  have hn : magOf k.format y ≠ 0 := by
    intro e
    have : vv k y = 0 := by unfold vv; rw [e, Nat.zero_mul]
    omega
  have pr := place_ge k.format r
  have pq := place_ge k.format y
  have pR := place_ge k.format R
  have hl : k.format.leastPlace ≤ 0 := by cases k <;> decide +kernel
  have h3 : vv k r * 2 ^ (-k.format.leastPlace).toNat ≤ vv k y * vv k R :=
    Nat.le_trans (Nat.mul_le_mul_right _ (vv_le h1)) (Nat.le_trans h (Nat.mul_le_mul_right _ hv))
  unfold fb floatBits Ieee.Format.div
  simp only
  rw [rx, ry]
  simp only [Ieee.Datum.quotient, if_neg hn, Option.map_some, Option.getD_some, Ieee.Format.write]
  refine bd_nearest (rung_le k.format ?_) hR
  exact quo_le (f := k.format) hn (mag_lt' k.format R) k.format.leastPlace pr pq pR hl h3
end Go.Proofs.Yteabfkgbakoljaa.Fl
