/-
  What is behind the point of a number of 64 bits: plain facts.
-/
import Derived.Test.YteabfkgbakoljaaLogR
import Derived.Test.YteabfkgbakoljaaExact
namespace Go.Proofs.Yteabfkgbakoljaa.Fl
open Go.RowKit
set_option linter.unusedVariables false

/-- A difference of numbers, if it is not negative. -/
theorem diff_up {k : FloatKind} {s t : Bool} {m n C : Nat} {i j : Int} (hi : k.format.leastPlace ≤ i) (hj : k.format.leastPlace ≤ j) (hC : C < k.format.infRung)
    (hs : ∃ V U : Nat, Ieee.signed s m (i - min i j).toNat + Ieee.signed t n (j - min i j).toNat = (V : Int) - (U : Int) ∧ U ≤ V ∧ (V - U) * 2 ^ (min i j - k.format.leastPlace).toNat ≤ vv k C) (h0 : s = false ∨ t = false) :
    ∃ R, R ≤ C ∧ cn k (k.format.write (.number (if Ieee.signed s m (i - min i j).toNat + Ieee.signed t n (j - min i j).toNat = 0 then s && t else decide (Ieee.signed s m (i - min i j).toNat + Ieee.signed t n (j - min i j).toNat < 0)) (Ieee.signed s m (i - min i j).toNat + Ieee.signed t n (j - min i j).toNat).natAbs (min i j))) = R := by
  obtain ⟨V, U, e, hle, hv⟩ := hs
  rw [e]
  have hsg : (if (V : Int) - (U : Int) = 0 then s && t else decide ((V : Int) - (U : Int) < 0)) = false := by
    split
    · rcases h0 with rfl | rfl
      · rfl
      · cases s <;> rfl
    · exact decide_eq_false (by omega)
  rw [hsg, show ((V : Int) - (U : Int)).natAbs = V - U by omega]
  have hr : rungOf k.format (V - U) (min i j) ≤ C := by
    refine rung_le k.format (NumLe.of (b := k.format.leastPlace) (by omega) (place_ge _ _) ?_)
    exact hv
  refine ⟨rungOf k.format (V - U) (min i j), hr, ?_⟩
  simp only [Ieee.Format.write]
  rw [nearest_rung, Nat.min_eq_left (by omega)]
  exact cn_num (isNan_word' (by omega))
theorem sgn_f (m u : Nat) : Ieee.signed false m u = ((m * 2 ^ u : Nat) : Int) := by unfold Ieee.signed; rw [if_neg (by simp), Nat.shiftLeft_eq]
theorem sgn_t (m u : Nat) : Ieee.signed true m u = -((m * 2 ^ u : Nat) : Int) := by unfold Ieee.signed; rw [if_pos rfl, Nat.shiftLeft_eq]
theorem at_least {k : FloatKind} {m : Nat} {i j : Int} (hi : k.format.leastPlace ≤ i) (hj : k.format.leastPlace ≤ j) : m * 2 ^ (i - min i j).toNat * 2 ^ (min i j - k.format.leastPlace).toNat = m * 2 ^ (i - k.format.leastPlace).toNat := by
  rw [Nat.mul_assoc, ← Nat.pow_add]; congr 2; omega
theorem at_least' {k : FloatKind} {m : Nat} {i j : Int} (hi : k.format.leastPlace ≤ i) (hj : k.format.leastPlace ≤ j) : m * 2 ^ (j - min i j).toNat * 2 ^ (min i j - k.format.leastPlace).toNat = m * 2 ^ (j - k.format.leastPlace).toNat := by
  rw [Nat.mul_assoc, ← Nat.pow_add]; congr 2; omega
/-- What is taken off a number that is not less. -/
theorem sub_pos {k : FloatKind} {r q C : Nat} (hr : r < k.format.infRung) (hq : q ≤ r) (hC : C < k.format.infRung) (hv : vv k r ≤ vv k C + vv k q) : ∃ R, R ≤ C ∧ fb .sub k r q = R := by
  have rx := read_pos hr
  have ry := read_pos (k := k) (r := q) (by omega)
  have pr := place_ge k.format r
  have pq := place_ge k.format q
  have hvv := vv_le (k := k) hq
  unfold fb floatBits Ieee.Format.sub
  simp only
  rw [rx, ry]
  simp only [Ieee.Datum.sum, Ieee.Datum.opposite, Option.map_some, Option.getD_some, Bool.not_false]
  refine diff_up pr pq hC ⟨_, _, by rw [sgn_f, sgn_t]; rfl, ?_, ?_⟩ (.inl rfl)
  · refine Nat.le_of_mul_le_mul_right ?_ (Nat.two_pow_pos (min (placeOf k.format r) (placeOf k.format q) - k.format.leastPlace).toNat)
    rw [at_least pr pq, at_least' pr pq]
    exact hvv
  · rw [Nat.sub_mul, at_least pr pq, at_least' pr pq]
    unfold vv at hv ⊢
    omega
/-- 1 and a number between -1 and 0. -/
theorem add_one_neg {r : Nat} (hr : r ≤ 4607182418800017408) : ∃ R, R ≤ 4607182418800017408 ∧ fb .add .f64 (FloatKind.f64.format.word true r) 4607182418800017408 = R := by
  have hi := d64_inf
  have rx := read_word (k := .f64) (s := true) (r := r) (by omega)
  have ry := read_pos (k := .f64) (r := 4607182418800017408) (by omega)
  have pr := place_ge FloatKind.f64.format r
  have pq := place_ge FloatKind.f64.format 4607182418800017408
  have hvv := vv_le (k := .f64) hr
  unfold fb floatBits Ieee.Format.add
  simp only
  rw [rx, ry]
  generalize hM : magOf FloatKind.f64.format 4607182418800017408 = M at *
  generalize hP : placeOf FloatKind.f64.format 4607182418800017408 = P at *
  have hv1 : vv .f64 4607182418800017408 = M * 2 ^ (P - FloatKind.f64.format.leastPlace).toNat := by unfold vv; rw [hM, hP]
  simp only [Ieee.Datum.sum, Option.map_some, Option.getD_some]
  refine diff_up (k := .f64) pr pq (by omega) ⟨M * 2 ^ (P - min (placeOf FloatKind.f64.format r) P).toNat, magOf FloatKind.f64.format r * 2 ^ (placeOf FloatKind.f64.format r - min (placeOf FloatKind.f64.format r) P).toNat, by rw [sgn_f, sgn_t]; omega, ?_, ?_⟩ (.inr rfl)
  · refine Nat.le_of_mul_le_mul_right ?_ (Nat.two_pow_pos (min (placeOf FloatKind.f64.format r) P - FloatKind.f64.format.leastPlace).toNat)
    rw [at_least (k := .f64) pr pq, at_least' (k := .f64) pr pq, ← hv1]
    exact hvv
  · rw [hv1, ← at_least' (k := .f64) (m := M) pr pq]
    exact Nat.mul_le_mul_right _ (Nat.sub_le _ _)
/-- The whole part of a number. -/
def frT (y : Nat) : Int := (floatToIntVal .f64 y .i64).getD 0
def fr0 (y : Nat) : Nat := fb .sub .f64 y (floatOfInt .f64 (frT y))
def frV (y : Nat) : Nat := if (FloatKind.f64.format.order (fr0 y) 0 == some .lt) = true then fb .add .f64 (fr0 y) 4607182418800017408 else fr0 y
theorem floor_lt {m c : Nat} {e : Int} {d : Nat} (he : -(c : Int) ≤ e) (h : m * 2 ^ (e + c).toNat < 2 ^ (d + c)) : floorv m e < 2 ^ d := by
  rw [floorv_at he, Nat.div_lt_iff_lt_mul (Nat.two_pow_pos _), ← Nat.pow_add]
  exact h
theorem trunc_val {y : Nat} {s : Bool} {m : Nat} {e : Int} (hy : FloatKind.f64.format.read y = .number s m e) (hb : floorv m e < 2 ^ 53) : floatToIntVal .f64 y .i64 = some (if s = true then -((floorv m e : Nat) : Int) else ((floorv m e : Nat) : Int)) := by
  have hd : FloatKind.f64.decode y = .number s m e := hy
  have h2 : (2 : Nat) ^ 53 = 9007199254740992 := by decide
  unfold floatToIntVal Ieee.Datum.toInt Ieee.Datum.integral
  rw [hd]
  simp only
  rw [cut_zero_way]
  have hmin : IntKind.i64.min = -9223372036854775808 := by decide +kernel
  have hmax : IntKind.i64.max = 9223372036854775807 := by decide +kernel
  cases s
  · rw [sgn_f, Nat.pow_zero, Nat.mul_one, if_pos (by rw [hmin, hmax]; omega), if_neg (by simp)]
  · rw [sgn_t, Nat.pow_zero, Nat.mul_one, if_pos (by rw [hmin, hmax]; omega), if_pos rfl]
/-- A whole number is written as it is. -/
theorem int_read {n : Int} (h : n.natAbs < 2 ^ 53) : ∃ m' e', FloatKind.f64.format.read (floatOfInt .f64 n) = .number (decide (n < 0)) m' e' ∧ -1074 ≤ e' ∧ e' ≤ 0 ∧ m' = n.natAbs * 2 ^ (0 - e').toNat := by
  have e0 : floatOfInt .f64 n = FloatKind.f64.format.nearest (decide (n < 0)) n.natAbs 0 := rfl
  rw [e0]
  by_cases h0 : n.natAbs = 0
  · rw [h0, nearest_zero]
    have h3 := read_word (k := .f64) (s := decide (n < 0)) (r := 0) (by rw [f64_inf]; omega)
    refine ⟨_, _, h3, ?_, ?_, ?_⟩
    · have := place_ge FloatKind.f64.format 0; rw [f64_least] at this; exact this
    · decide +kernel
    · have : magOf FloatKind.f64.format 0 = 0 := by decide +kernel
      rw [this, Nat.zero_mul]
  · have hl : n.natAbs.log2 ≤ 52 := by
      have := (Nat.log2_lt h0 (k := 53)).2 h
      omega
    have hrl : rungOf FloatKind.f64.format n.natAbs 0 < FloatKind.f64.format.infRung := by
      have hR : rungOf FloatKind.f64.format n.natAbs 0 ≤ 5183643171103440896 := by
        refine rung_pow _ (a := 52) (j := 76) ?_ ?_ (by omega)
        · decide +kernel
        · decide +kernel
      rw [f64_inf]
      omega
    obtain ⟨m', e', h3, h4, h5, h6⟩ := read_exact (k := .f64) (s := decide (n < 0)) h0 (by rw [f64_fb]; omega) (by rw [f64_least]; omega) hrl
    rw [f64_least] at h5
    exact ⟨m', e', h3, h5, h4, h6⟩
/-- What is left behind the whole part is less than 1. -/
theorem fr0_bd {y : Nat} {s : Bool} {m : Nat} {e : Int} (hy : FloatKind.f64.format.read y = .number s m e) (he : -1074 ≤ e) (hb : floorv m e < 2 ^ 53) :
    floatToIntVal .f64 y .i64 = some (frT y) ∧ Bd .f64 4607182418800017408 (fr0 y) := by
  have ht := trunc_val hy hb
  have hT : frT y = if s = true then -((floorv m e : Nat) : Int) else ((floorv m e : Nat) : Int) := by unfold frT; rw [ht]; rfl
  refine ⟨by rw [hT]; exact ht, ?_⟩
  have hna : (frT y).natAbs = floorv m e := by rw [hT]; cases s <;> simp
  obtain ⟨n, j, rn, hj1, hj2, hn⟩ := int_read (n := frT y) (by rw [hna]; exact hb)
  rw [hna] at hn
  unfold fr0 fb floatBits Ieee.Format.sub
  simp only
  rw [hy, rn]
  simp only [Ieee.Datum.sum, Ieee.Datum.opposite, Option.map_some, Option.getD_some, Ieee.Format.write]
  refine bd_nearest (rung_le FloatKind.f64.format ?_) (by rw [d64_inf]; omega)
  generalize hb0 : min e j = b
  have hb1 : b ≤ e := by omega
  have hb2 : b ≤ j := by omega
  have hU : n * 2 ^ (j - b).toNat = floorv m e * 2 ^ (-b).toNat := by
    rw [hn, Nat.mul_assoc, ← Nat.pow_add]; congr 2; omega
  have hF : floorv m e = m * 2 ^ (e - b).toNat / 2 ^ (-b).toNat := by
    have h := floorv_at (m := m) (e := e) (b := (-b).toNat) (by omega)
    rw [h, show (e + ((-b).toNat : Int)).toNat = (e - b).toNat by omega]
  have hp := Nat.two_pow_pos (-b).toNat
  have hdm := Nat.div_add_mod (m * 2 ^ (e - b).toNat) (2 ^ (-b).toNat)
  have hmod := Nat.mod_lt (m * 2 ^ (e - b).toNat) hp
  have habs : (Ieee.signed s m (e - b).toNat + Ieee.signed (!decide (frT y < 0)) n (j - b).toNat).natAbs < 2 ^ (-b).toNat := by
    rw [← hF, Nat.mul_comm] at hdm
    by_cases h0 : floorv m e = 0
    · have hU0 : n * 2 ^ (j - b).toNat = 0 := by rw [hU, h0, Nat.zero_mul]
      rw [h0, Nat.zero_mul] at hdm
      have hz : Ieee.signed (!decide (frT y < 0)) n (j - b).toNat = 0 := by
        cases (!decide (frT y < 0))
        · rw [sgn_f, hU0]; rfl
        · rw [sgn_t, hU0]; rfl
      rw [hz, Int.add_zero, signed_abs]
      omega
    · have hs : decide (frT y < 0) = s := by
        rw [hT]
        cases s
        · exact decide_eq_false (by simp)
        · exact decide_eq_true (by simp; omega)
      rw [hs]
      cases s
      · rw [show (!false) = true from rfl, sgn_f, sgn_t, hU]
        omega
      · rw [show (!true) = false from rfl, sgn_f, sgn_t, hU]
        omega
  have hone : magOf FloatKind.f64.format 4607182418800017408 = 2 ^ 52 ∧ placeOf FloatKind.f64.format 4607182418800017408 = -52 := by decide +kernel
  rw [hone.1, hone.2]
  refine NumLe.of (b := min b (-52)) (by omega) (by omega) ?_
  rw [← Nat.pow_add]
  generalize (Ieee.signed s m (e - b).toNat + Ieee.signed (!decide (frT y < 0)) n (j - b).toNat).natAbs = X at *
  have h9 : X * 2 ^ (b - min b (-52)).toNat ≤ 2 ^ (-b).toNat * 2 ^ (b - min b (-52)).toNat := Nat.mul_le_mul_right _ (by omega)
  rw [← Nat.pow_add] at h9
  refine Nat.le_trans h9 (Nat.pow_le_pow_right (by omega) (by omega))
/-- A number from 0 to a rung, or -0. -/
def Fr (C x : Nat) : Prop := x ≤ C ∨ x = 9223372036854775808
theorem frV_fr {y : Nat} (h : Bd .f64 4607182418800017408 (fr0 y)) : Fr 4607182418800017408 (frV y) := by
  obtain ⟨_, s, r, hx, hr⟩ := h
  have hsw : FloatKind.f64.format.signWeight = 9223372036854775808 := by decide +kernel
  unfold frV
  rw [hx]
  cases s with
  | false =>
    have hw : FloatKind.f64.format.word false r = r := rfl
    rw [hw, lt_pos (by rw [d64_inf]; omega) (by rw [d64_inf]; omega), decide_eq_false (Nat.not_lt_zero _), if_neg (by simp)]
    exact .inl hr
  | true =>
    by_cases h0 : r = 0
    · subst h0
      have : (FloatKind.f64.format.order (FloatKind.f64.format.word true 0) 0 == some .lt) = false := by decide +kernel
      rw [this, if_neg (by simp)]
      exact .inr (by decide +kernel)
    · split
      · obtain ⟨R, h1, h2⟩ := add_one_neg hr
        rw [h2]
        exact .inl h1
      · rename_i hn
        exfalso
        apply hn
        have rx := read_word (k := .f64) (s := true) (r := r) (by rw [d64_inf]; omega)
        have rz := read_pos (k := .f64) (r := 0) (by rw [d64_inf]; omega)
        have hm : magOf FloatKind.f64.format r ≠ 0 := fun e => h0 (mag_zero e)
        unfold Ieee.Format.order
        rw [rx, rz]
        have hz : magOf FloatKind.f64.format 0 = 0 := by decide +kernel
        simp only [Ieee.Datum.order]
        rw [hz, sgn_t, sgn_f, Nat.zero_mul, compare_int, if_pos]
        · rfl
        · have hp := Nat.two_pow_pos (placeOf FloatKind.f64.format r - min (placeOf FloatKind.f64.format r) (placeOf FloatKind.f64.format 0)).toNat
          have := Nat.mul_pos (Nat.pos_of_ne_zero hm) hp
          omega
end Go.Proofs.Yteabfkgbakoljaa.Fl
