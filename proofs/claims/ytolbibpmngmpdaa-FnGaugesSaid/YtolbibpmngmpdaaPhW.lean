/-
  What is behind the point of a number of 64 bits: plain facts.
-/
import Derived.Test.YtolbibpmngmpdaaLogR
import Derived.Test.YtolbibpmngmpdaaExact
import Derived.Test.YtolbibpmngmpdaaLogX
namespace Go.Proofs.Ytolbibpmngmpdaa.Fl
open Go.RowKit
set_option linter.unusedVariables false

/-- A difference of numbers, if it is not negative. -/
theorem diff_up {k : FloatKind} {s t : Bool} {m n C : Nat} {i j : Int} (hi : k.format.leastPlace ≤ i) (hj : k.format.leastPlace ≤ j) (hC : C < k.format.infRung)
    (hs : ∃ V U : Nat, Ieee.signed s m (i - min i j).toNat + Ieee.signed t n (j - min i j).toNat = (V : Int) - (U : Int) ∧ U ≤ V ∧ (V - U) * 2 ^ (min i j - k.format.leastPlace).toNat ≤ vv k C) (h0 : s = false ∨ t = false) :
    ∃ R, R ≤ C ∧ cn k (k.format.write (.number (if Ieee.signed s m (i - min i j).toNat + Ieee.signed t n (j - min i j).toNat = 0 then s && t else decide (Ieee.signed s m (i - min i j).toNat + Ieee.signed t n (j - min i j).toNat < 0)) (Ieee.signed s m (i - min i j).toNat + Ieee.signed t n (j - min i j).toNat).natAbs (min i j))) = R := by
  obtain ⟨V, U, e, hle, hv⟩ := hs
  rw [e]
  have hsg : (if (V : Int) - (U : Int) = 0 then s && t else decide ((V : Int) - (U : Int) < 0)) = false := by
    split
    · rcases h0 with rfl | rfl
      · rfl
      · cases s <;> rfl
    · exact decide_eq_false (by omega)
  rw [hsg, show ((V : Int) - (U : Int)).natAbs = V - U by omega]
  have hr : rungOf k.format (V - U) (min i j) ≤ C := by
    refine rung_le k.format (NumLe.of (b := k.format.leastPlace) (by omega) (place_ge _ _) ?_)
    exact hv
  refine ⟨rungOf k.format (V - U) (min i j), hr, ?_⟩
  simp only [Ieee.Format.write]
  rw [nearest_rung, Nat.min_eq_left (by omega)]
  exact cn_num (isNan_word' (by omega))
theorem sgn_f (m u : Nat) : Ieee.signed false m u = ((m * 2 ^ u : Nat) : Int) := by unfold Ieee.signed; rw [if_neg (by simp), Nat.shiftLeft_eq]
theorem sgn_t (m u : Nat) : Ieee.signed true m u = -((m * 2 ^ u : Nat) : Int) := by unfold Ieee.signed; rw [if_pos rfl, Nat.shiftLeft_eq]
theorem at_least {k : FloatKind} {m : Nat} {i j : Int} (hi : k.format.leastPlace ≤ i) (hj : k.format.leastPlace ≤ j) : m * 2 ^ (i - min i j).toNat * 2 ^ (min i j - k.format.leastPlace).toNat = m * 2 ^ (i - k.format.leastPlace).toNat := by
  rw [Nat.mul_assoc, ← Nat.pow_add]; congr 2; omega
theorem at_least' {k : FloatKind} {m : Nat} {i j : Int} (hi : k.format.leastPlace ≤ i) (hj : k.format.leastPlace ≤ j) : m * 2 ^ (j - min i j).toNat * 2 ^ (min i j - k.format.leastPlace).toNat = m * 2 ^ (j - k.format.leastPlace).toNat := by
  rw [Nat.mul_assoc, ← Nat.pow_add]; congr 2; omega
/-- What is taken off a number that is not less. -/
theorem sub_pos {k : FloatKind} {r q C : Nat} (hr : r < k.format.infRung) (hq : q ≤ r) (hC : C < k.format.infRung) (hv : vv k r ≤ vv k C + vv k q) : ∃ R, R ≤ C ∧ fb .sub k r q = R := by
  have rx := read_pos hr
  have ry := read_pos (k := k) (r := q) (by omega)
  have pr := place_ge k.format r
  have pq := place_ge k.format q
  have hvv := vv_le (k := k) hq
  unfold fb floatBits Ieee.Format.sub
  simp only
  rw [rx, ry]
  simp only [Ieee.Datum.sum, Ieee.Datum.opposite, Option.map_some, Option.getD_some, Bool.not_false]
  refine diff_up pr pq hC ⟨_, _, by rw [sgn_f, sgn_t]; rfl, ?_, ?_⟩ (.inl rfl)
  · refine Nat.le_of_mul_le_mul_right ?_ (Nat.two_pow_pos (min (placeOf k.format r) (placeOf k.format q) - k.format.leastPlace).toNat)
    rw [at_least pr pq, at_least' pr pq]
    exact hvv
  · rw [Nat.sub_mul, at_least pr pq, at_least' pr pq]
    unfold vv at hv ⊢
    omega
/-- 1 and a number between -1 and 0. -/
theorem add_one_neg {r : Nat} (hr : r ≤ 4607182418800017408) : ∃ R, R ≤ 4607182418800017408 ∧ fb .add .f64 (FloatKind.f64.format.word true r) 4607182418800017408 = R := by
  have hi := d64_inf
  have rx := read_word (k := .f64) (s := true) (r := r) (by omega)
  have ry := read_pos (k := .f64) (r := 4607182418800017408) (by omega)
  have pr := place_ge FloatKind.f64.format r
  have pq := place_ge FloatKind.f64.format 4607182418800017408
  have hvv := vv_le (k := .f64) hr
  unfold fb floatBits Ieee.Format.add
  simp only
  rw [rx, ry]
  generalize hM : magOf FloatKind.f64.format 4607182418800017408 = M at *
  generalize hP : placeOf FloatKind.f64.format 4607182418800017408 = P at *
  have hv1 : vv .f64 4607182418800017408 = M * 2 ^ (P - FloatKind.f64.format.leastPlace).toNat := by unfold vv; rw [hM, hP]
  simp only [Ieee.Datum.sum, Option.map_some, Option.getD_some]
  refine diff_up (k := .f64) pr pq (by omega) ⟨M * 2 ^ (P - min (placeOf FloatKind.f64.format r) P).toNat, magOf FloatKind.f64.format r * 2 ^ (placeOf FloatKind.f64.format r - min (placeOf FloatKind.f64.format r) P).toNat, by rw [sgn_f, sgn_t]; omega, ?_, ?_⟩ (.inr rfl)
  · refine Nat.le_of_mul_le_mul_right ?_ (Nat.two_pow_pos (min (placeOf FloatKind.f64.format r) P - FloatKind.f64.format.leastPlace).toNat)
    rw [at_least (k := .f64) pr pq, at_least' (k := .f64) pr pq, ← hv1]
    exact hvv
  · rw [hv1, ← at_least' (k := .f64) (m := M) pr pq]
    exact Nat.mul_le_mul_right _ (Nat.sub_le _ _)
/-- The whole part of a number. -/
def frT (y : Nat) : Int := (floatToIntVal .f64 y .i64).getD 0
def fr0 (y : Nat) : Nat := fb .sub .f64 y (floatOfInt .f64 (frT y))
def frV (y : Nat) : Nat := if (FloatKind.f64.format.order (fr0 y) 0 == some .lt) = true then fb .add .f64 (fr0 y) 4607182418800017408 else fr0 y
theorem floor_lt {m c : Nat} {e : Int} {d : Nat} (he : -(c : Int) ≤ e) (h : m * 2 ^ (e + c).toNat < 2 ^ (d + c)) : floorv m e < 2 ^ d := by
  rw [floorv_at he, Nat.div_lt_iff_lt_mul (Nat.two_pow_pos _), ← Nat.pow_add]
  exact h
theorem trunc_val {y : Nat} {s : Bool} {m : Nat} {e : Int} (hy : FloatKind.f64.format.read y = .number s m e) (hb : floorv m e < 2 ^ 53) : floatToIntVal .f64 y .i64 = some (if s = true then -((floorv m e : Nat) : Int) else ((floorv m e : Nat) : Int)) := by
  have hd : FloatKind.f64.decode y = .number s m e := hy
  have h2 : (2 : Nat) ^ 53 = 9007199254740992 := by decide
  unfold floatToIntVal Ieee.Datum.toInt Ieee.Datum.integral
  rw [hd]
  simp only
  rw [cut_zero_way]
  have hmin : IntKind.i64.min = -9223372036854775808 := by decide +kernel
  have hmax : IntKind.i64.max = 9223372036854775807 := by decide +kernel
  cases s
  · rw [sgn_f, Nat.pow_zero, Nat.mul_one, if_pos (by rw [hmin, hmax]; omega), if_neg (by simp)]
  · rw [sgn_t, Nat.pow_zero, Nat.mul_one, if_pos (by rw [hmin, hmax]; omega), if_pos rfl]
/-- A whole number is written as it is. -/
theorem int_read {n : Int} (h : n.natAbs < 2 ^ 53) : ∃ m' e', FloatKind.f64.format.read (floatOfInt .f64 n) = .number (decide (n < 0)) m' e' ∧ -1074 ≤ e' ∧ e' ≤ 0 ∧ m' = n.natAbs * 2 ^ (0 - e').toNat := by
  have e0 : floatOfInt .f64 n = FloatKind.f64.format.nearest (decide (n < 0)) n.natAbs 0 := rfl
  rw [e0]
  by_cases h0 : n.natAbs = 0
  · rw [h0, nearest_zero]
    have h3 := read_word (k := .f64) (s := decide (n < 0)) (r := 0) (by rw [f64_inf]; omega)
    refine ⟨_, _, h3, ?_, ?_, ?_⟩
    · have := place_ge FloatKind.f64.format 0; rw [f64_least] at this; exact this
    · decide +kernel
    · have : magOf FloatKind.f64.format 0 = 0 := by decide +kernel
      rw [this, Nat.zero_mul]
  · have hl : n.natAbs.log2 ≤ 52 := by
      have := (Nat.log2_lt h0 (k := 53)).2 h
      omega
    have hrl : rungOf FloatKind.f64.format n.natAbs 0 < FloatKind.f64.format.infRung := by
      have hR : rungOf FloatKind.f64.format n.natAbs 0 ≤ 5183643171103440896 := by
        refine rung_pow _ (a := 52) (j := 76) ?_ ?_ (by omega)
        · decide +kernel
        · decide +kernel
      rw [f64_inf]
      omega
    obtain ⟨m', e', h3, h4, h5, h6⟩ := read_exact (k := .f64) (s := decide (n < 0)) h0 (by rw [f64_fb]; omega) (by rw [f64_least]; omega) hrl
    rw [f64_least] at h5
    exact ⟨m', e', h3, h5, h4, h6⟩
/-- What is left behind the whole part is less than 1. -/
theorem fr0_bd {y : Nat} {s : Bool} {m : Nat} {e : Int} (hy : FloatKind.f64.format.read y = .number s m e) (he : -1074 ≤ e) (hb : floorv m e < 2 ^ 53) :
    floatToIntVal .f64 y .i64 = some (frT y) ∧ Bd .f64 4607182418800017408 (fr0 y) := by
  have ht := trunc_val hy hb
  have hT : frT y = if s = true then -((floorv m e : Nat) : Int) else ((floorv m e : Nat) : Int) := by unfold frT; rw [ht]; rfl
  refine ⟨by rw [hT]; exact ht, ?_⟩
  have hna : (frT y).natAbs = floorv m e := by rw [hT]; cases s <;> simp
  obtain ⟨n, j, rn, hj1, hj2, hn⟩ := int_read (n := frT y) (by rw [hna]; exact hb)
  rw [hna] at hn
  unfold fr0 fb floatBits Ieee.Format.sub
  simp only
  rw [hy, rn]
  simp only [Ieee.Datum.sum, Ieee.Datum.opposite, Option.map_some, Option.getD_some, Ieee.Format.write]
  refine bd_nearest (rung_le FloatKind.f64.format ?_) (by rw [d64_inf]; omega)
  generalize hb0 : min e j = b
  have hb1 : b ≤ e := by omega
  have hb2 : b ≤ j := by omega
  have hU : n * 2 ^ (j - b).toNat = floorv m e * 2 ^ (-b).toNat := by
    rw [hn, Nat.mul_assoc, ← Nat.pow_add]; congr 2; omega
  have hF : floorv m e = m * 2 ^ (e - b).toNat / 2 ^ (-b).toNat := by
    have h := floorv_at (m := m) (e := e) (b := (-b).toNat) (by omega)
    rw [h, show (e + ((-b).toNat : Int)).toNat = (e - b).toNat by omega]
  have hp := Nat.two_pow_pos (-b).toNat
  have hdm := Nat.div_add_mod (m * 2 ^ (e - b).toNat) (2 ^ (-b).toNat)
  have hmod := Nat.mod_lt (m * 2 ^ (e - b).toNat) hp
  have habs : (Ieee.signed s m (e - b).toNat + Ieee.signed (!decide (frT y < 0)) n (j - b).toNat).natAbs < 2 ^ (-b).toNat := by
    rw [← hF, Nat.mul_comm] at hdm
    by_cases h0 : floorv m e = 0
    · have hU0 : n * 2 ^ (j - b).toNat = 0 := by rw [hU, h0, Nat.zero_mul]
      rw [h0, Nat.zero_mul] at hdm
      have hz : Ieee.signed (!decide (frT y < 0)) n (j - b).toNat = 0 := by
        cases (!decide (frT y < 0))
        · rw [sgn_f, hU0]; rfl
        · rw [sgn_t, hU0]; rfl
      rw [hz, Int.add_zero, signed_abs]
      omega
    · have hs : decide (frT y < 0) = s := by
        rw [hT]
        cases s
        · exact decide_eq_false (by simp)
        · exact decide_eq_true (by simp; omega)
      rw [hs]
      cases s
      · rw [show (!false) = true from rfl, sgn_f, sgn_t, hU]
        omega
      · rw [show (!true) = false from rfl, sgn_f, sgn_t, hU]
        omega
  have hone : magOf FloatKind.f64.format 4607182418800017408 = 2 ^ 52 ∧ placeOf FloatKind.f64.format 4607182418800017408 = -52 := by decide +kernel
  rw [hone.1, hone.2]
  refine NumLe.of (b := min b (-52)) (by omega) (by omega) ?_
  rw [← Nat.pow_add]
  generalize (Ieee.signed s m (e - b).toNat + Ieee.signed (!decide (frT y < 0)) n (j - b).toNat).natAbs = X at *
  have h9 : X * 2 ^ (b - min b (-52)).toNat ≤ 2 ^ (-b).toNat * 2 ^ (b - min b (-52)).toNat := Nat.mul_le_mul_right _ (by omega)
  rw [← Nat.pow_add] at h9
  refine Nat.le_trans h9 (Nat.pow_le_pow_right (by omega) (by omega))
/-- A number from 0 to a rung, or -0. -/
def Fr (C x : Nat) : Prop := x ≤ C ∨ x = 9223372036854775808
theorem frV_fr {y : Nat} (h : Bd .f64 4607182418800017408 (fr0 y)) : Fr 4607182418800017408 (frV y) := by
  obtain ⟨_, s, r, hx, hr⟩ := h
  have hsw : FloatKind.f64.format.signWeight = 9223372036854775808 := by decide +kernel
  unfold frV
  rw [hx]
  cases s with
  | false =>
    have hw : FloatKind.f64.format.word false r = r := rfl
    rw [hw, lt_pos (by rw [d64_inf]; omega) (by rw [d64_inf]; omega), decide_eq_false (Nat.not_lt_zero _), if_neg (by simp)]
    exact .inl hr
  | true =>
    by_cases h0 : r = 0
    · subst h0
      have : (FloatKind.f64.format.order (FloatKind.f64.format.word true 0) 0 == some .lt) = false := by decide +kernel
      rw [this, if_neg (by simp)]
      exact .inr (by decide +kernel)
    · split
      · obtain ⟨R, h1, h2⟩ := add_one_neg hr
        rw [h2]
        exact .inl h1
      · rename_i hn
        exfalso
        apply hn
        have rx := read_word (k := .f64) (s := true) (r := r) (by rw [d64_inf]; omega)
        have rz := read_pos (k := .f64) (r := 0) (by rw [d64_inf]; omega)
        have hm : magOf FloatKind.f64.format r ≠ 0 := fun e => h0 (mag_zero e)
        unfold Ieee.Format.order
        rw [rx, rz]
        have hz : magOf FloatKind.f64.format 0 = 0 := by decide +kernel
        simp only [Ieee.Datum.order]
        rw [hz, sgn_t, sgn_f, Nat.zero_mul, compare_int, if_pos]
        · rfl
        · have hp := Nat.two_pow_pos (placeOf FloatKind.f64.format r - min (placeOf FloatKind.f64.format r) (placeOf FloatKind.f64.format 0)).toNat
          have := Nat.mul_pos (Nat.pos_of_ne_zero hm) hp
          omega
end Go.Proofs.Ytolbibpmngmpdaa.Fl

/-
  The point of the unit circle at some turns: the plain law.
-/
namespace Go.Proofs.Ytolbibpmngmpdaa.Fl
open Go.RowKit
set_option linter.unusedVariables false

def gq (x : Nat) : Bool := (FloatKind.f64.format.order x 4598175219545276416 == some .gt || FloatKind.f64.format.order x 4598175219545276416 == some .eq)
theorem gq_pos {x : Nat} (h : x < 9218868437227405312) : gq x = decide (4598175219545276416 ≤ x) := ge_pos (by rw [d64_inf]; exact h) (by rw [d64_inf]; omega)
theorem gq_nz : gq 9223372036854775808 = false := by decide +kernel
def phI (y : Nat) : Nat → Nat
  | 0 => frV y
  | j + 1 => fb .sub .f64 (phI y j) 4598175219545276416
def capN (j : Nat) : Nat := if j = 0 then 4607182418800017408 else if j = 1 then 4604930618986332160 else if j = 2 then 4602678819172646912 else if j = 3 then 4598175219545276416 else 0
theorem cap_step : ∀ j : Nat, j < 4 → vv .f64 (capN j) ≤ vv .f64 (capN (j + 1)) + vv .f64 4598175219545276416 := by decide +kernel
theorem cap_le (j : Nat) : capN j ≤ 4607182418800017408 := by
  unfold capN
  split
  · omega
  · split
    · omega
    · split
      · omega
      · split
        · omega
        · omega
theorem phI_cap {y : Nat} (h : Fr 4607182418800017408 (frV y)) : ∀ j, j ≤ 4 → (∀ i, i < j → gq (phI y i) = true) → Fr (capN j) (phI y j)
  | 0, _, _ => h
  | j + 1, h4, hg => by
    have ih := phI_cap h j (by omega) (fun i hi => hg i (by omega))
    have hj := hg j (by omega)
    have hcl := cap_le j
    rcases ih with ih | ih
    · rw [gq_pos (by omega)] at hj
      have hq := of_decide_eq_true hj
      have hi := d64_inf
      have hc1 := cap_le (j + 1)
      obtain ⟨R, h1, h2⟩ := sub_pos (k := .f64) (r := phI y j) (q := 4598175219545276416) (C := capN (j + 1)) (by omega) hq (by omega) (Nat.le_trans (vv_le ih) (cap_step j (by omega)))
      exact .inl (by rw [phI, h2]; exact h1)
    · rw [ih, gq_nz] at hj
      cases hj
theorem gq_end {y : Nat} (h : Fr 4607182418800017408 (frV y)) (hg : ∀ i, i < 4 → gq (phI y i) = true) : gq (phI y 4) = false := by
  rcases phI_cap h 4 (Nat.le_refl _) hg with h1 | h1
  · have h0 : phI y 4 = 0 := Nat.le_zero.1 h1
    rw [h0]; decide +kernel
  · rw [h1]; exact gq_nz
def phQ (y : Nat) : Nat := if gq (phI y 0) = false then 0 else if gq (phI y 1) = false then 1 else if gq (phI y 2) = false then 2 else if gq (phI y 3) = false then 3 else 4
theorem phQ_of {y j : Nat} (hj : j ≤ 4) (h : ∀ i, i < j → gq (phI y i) = true) (hn : gq (phI y j) = false) : phQ y = j := by
  unfold phQ
  match j, hj, h, hn with
  | 0, _, _, hn => rw [if_pos hn]
  | 1, _, h, hn => rw [h 0 (by omega), if_neg (by simp), if_pos hn]
  | 2, _, h, hn => rw [h 0 (by omega), h 1 (by omega), if_neg (by simp), if_neg (by simp), if_pos hn]
  | 3, _, h, hn => rw [h 0 (by omega), h 1 (by omega), h 2 (by omega), if_neg (by simp), if_neg (by simp), if_neg (by simp), if_pos hn]
  | 4, _, h, hn => rw [h 0 (by omega), h 1 (by omega), h 2 (by omega), h 3 (by omega), if_neg (by simp), if_neg (by simp), if_neg (by simp), if_neg (by simp)]
def phF (y : Nat) : Nat := phI y (phQ y)
/-- What is left of the turns, and a quarter without it, are from 0 to a quarter. -/
theorem left_fr {x C : Nat} (h : Fr C x) (hC : C ≤ 4607182418800017408) (hn : gq x = false) : Fr 4598175219545276416 x ∧ Fr 4598175219545276416 (fb .sub .f64 4598175219545276416 x) := by
  rcases h with h | h
  · rw [gq_pos (by omega)] at hn
    have hlt := of_decide_eq_false hn
    have hi := d64_inf
    obtain ⟨R, h1, h2⟩ := sub_pos (k := .f64) (r := 4598175219545276416) (q := x) (C := 4598175219545276416) (by omega) (by omega) (by omega) (Nat.le_add_right _ _)
    exact ⟨.inl (by omega), .inl (by rw [h2]; exact h1)⟩
  · subst h
    exact ⟨.inr rfl, .inl (by decide +kernel)⟩
theorem sub_zero_pos {r : Nat} (h : r < 9218868437227405312) : fb .sub .f64 r 0 = r := by
  have hi : r < FloatKind.f64.format.infRung := by rw [d64_inf]; exact h
  have rx := read_pos (k := .f64) hi
  have ry := read_pos (k := .f64) (r := 0) (by rw [d64_inf]; omega)
  have hz : magOf FloatKind.f64.format 0 = 0 ∧ placeOf FloatKind.f64.format 0 = FloatKind.f64.format.leastPlace := by decide +kernel
  have pr := place_ge FloatKind.f64.format r
  unfold fb floatBits Ieee.Format.sub
  simp only
  rw [rx, ry, hz.1, hz.2]
  simp only [Ieee.Datum.sum, Ieee.Datum.opposite, Option.map_some, Option.getD_some, Ieee.Format.write]
  rw [Int.min_eq_right pr, Int.sub_self, sgn_f, show Ieee.signed (!false) 0 (Int.toNat 0) = 0 by rw [show (!false) = true from rfl, sgn_t, Nat.zero_mul]; rfl, Int.add_zero, Int.natAbs_natCast]
  have hsg : (if ((magOf FloatKind.f64.format r * 2 ^ (placeOf FloatKind.f64.format r - FloatKind.f64.format.leastPlace).toNat : Nat) : Int) = 0 then false && !false else decide (((magOf FloatKind.f64.format r * 2 ^ (placeOf FloatKind.f64.format r - FloatKind.f64.format.leastPlace).toNat : Nat) : Int) < 0)) = false := by
    split
    · rfl
    · exact decide_eq_false (by omega)
  rw [hsg]
  refine (cn_nearest (k := .f64) (s := false) (R := r) ?_ hi).trans rfl
  refine rung_num (b := FloatKind.f64.format.leastPlace) (Int.le_refl _) pr ?_
  rw [Int.sub_self, Int.toNat_zero, Nat.pow_zero, Nat.mul_one]
theorem int_zero : floatOfInt .f64 0 = 0 := by decide +kernel
theorem fr_sub {C x : Nat} (h : Fr C x) (hC : C ≤ 4607182418800017408) : fb .sub .f64 x (floatOfInt .f64 0) = x := by
  rw [int_zero]
  rcases h with h | h
  · exact sub_zero_pos (by omega)
  · subst h; decide +kernel
theorem q25_vv : ∃ d : Nat, vv .f64 4598175219545276416 = 2 ^ d ∧ d < 1074 := ⟨1072, by decide +kernel, by decide⟩
theorem fr_int {x : Nat} (h : Fr 4598175219545276416 x) : floatToIntVal .f64 x .i64 = some 0 := by
  rcases h with h | h
  · have hi : x < FloatKind.f64.format.infRung := by rw [d64_inf]; omega
    have rx := read_pos (k := .f64) hi
    have pr := place_ge FloatKind.f64.format x
    rw [d64_least] at pr
    have hv := vv_le (k := .f64) h
    obtain ⟨d, hq, hd⟩ := q25_vv
    have hf : floorv (magOf FloatKind.f64.format x) (placeOf FloatKind.f64.format x) < 2 ^ 0 := by
      obtain ⟨c, hc⟩ : ∃ c : Nat, c = 1074 := ⟨_, rfl⟩
      refine floor_lt (c := c) (by omega) ?_
      have h2 : vv .f64 x = magOf FloatKind.f64.format x * 2 ^ (placeOf FloatKind.f64.format x + c).toNat := by
        unfold vv; rw [d64_least, hc]; congr 2
      rw [← h2]
      refine Nat.lt_of_le_of_lt hv ?_
      rw [hq, Nat.zero_add]
      exact Nat.pow_lt_pow_right (by omega) (by omega)
    rw [trunc_val rx (Nat.lt_of_lt_of_le hf (by decide))]
    have : floorv (magOf FloatKind.f64.format x) (placeOf FloatKind.f64.format x) = 0 := by
      rw [Nat.pow_zero] at hf; omega
    rw [this]; rfl
  · subst h; decide +kernel
theorem fr_bd {x : Nat} (h : Fr 4598175219545276416 x) : Bd .f64 4607182418800017408 x := by
  rcases h with h | h
  · exact bd_pos (by omega) (by rw [d64_inf]; omega)
  · subst h
    exact ⟨by decide +kernel, true, 0, by decide +kernel, by decide⟩
/-- 'p' behind j rounds. -/
def sinP (u : Nat) : Nat → Nat
  | 0 => 4607182418800017408
  | j + 1 => fb .sub .f64 4607182418800017408 (fb .quo .f64 (fb .mul .f64 u (sinP u j)) (floatOfInt .f64 (2 * (8 - (j : Int)) * (2 * (8 - (j : Int)) + 1))))
def sinZ (x : Nat) : Nat := fb .mul .f64 x 4618760256179416344
def sinV (x : Nat) : Nat := fb .mul .f64 (sinZ x) (sinP (fb .mul .f64 (sinZ x) (sinZ x)) 8)
theorem den_lo : ∀ j : Nat, j < 8 → pw 2 ≤ floatOfInt .f64 (2 * (8 - ((j : Nat) : Int)) * (2 * (8 - ((j : Nat) : Int)) + 1)) ∧ floatOfInt .f64 (2 * (8 - ((j : Nat) : Int)) * (2 * (8 - ((j : Nat) : Int)) + 1)) < FloatKind.f64.format.infRung := by decide +kernel
theorem sin_pow : ∀ j : Nat, j < 8 → vv .f64 (pw 6) * vv .f64 (pw (5 * j)) ≤ vv .f64 (pw (6 + 5 * j)) * 2 ^ (-FloatKind.f64.format.leastPlace).toNat ∧ vv .f64 (pw (6 + 5 * j)) * 2 ^ (-FloatKind.f64.format.leastPlace).toNat ≤ vv .f64 (pw 2) * vv .f64 (pw (4 + 5 * j)) ∧ vv .f64 4607182418800017408 + vv .f64 (pw (4 + 5 * j)) ≤ vv .f64 (pw (5 * (j + 1))) ∧ pw (6 + 5 * j) < FloatKind.f64.format.infRung ∧ pw (4 + 5 * j) < FloatKind.f64.format.infRung ∧ pw (5 * (j + 1)) < FloatKind.f64.format.infRung ∧ vv .f64 (pw 2) ≠ 0 := by decide +kernel
theorem bd_sinP {u : Nat} (hu : Bd .f64 (pw 6) u) : ∀ j, j ≤ 8 → Bd .f64 (pw (5 * j)) (sinP u j)
  | 0, _ => bd_pos (show (4607182418800017408 : Nat) ≤ pw (5 * 0) by decide +kernel) (by decide +kernel)
  | j + 1, h => by
    obtain ⟨p1, p2, p3, p4, p5, p6, p7⟩ := sin_pow j (by omega)
    obtain ⟨d1, d2⟩ := den_lo j (by omega)
    have hm := bd_mul hu (bd_sinP hu j (by omega)) p4 p1
    have hq := bd_quo hm (⟨_, rfl, d1, d2⟩ : Lo .f64 (pw 2) _) p5 p7 p2
    exact bd_sub (bd_pos (Nat.le_refl 4607182418800017408) (by decide +kernel)) hq p6 p3
theorem bd_sin {x : Nat} (h : Fr 4598175219545276416 x) : Bd .f64 (pw 43) (sinV x) := by
  have hx := fr_bd h
  have hz : Bd .f64 (pw 3) (sinZ x) := bd_mul hx (bd_pos (R := pw 3) (by decide +kernel) (by decide +kernel)) (by decide +kernel) (by decide +kernel)
  have hu : Bd .f64 (pw 6) (fb .mul .f64 (sinZ x) (sinZ x)) := bd_mul hz hz (by decide +kernel) (by decide +kernel)
  exact bd_mul hz (bd_sinP hu 8 (Nat.le_refl _)) (by decide +kernel) (by decide +kernel)
theorem bd_neg {s : Nat} (h : Bd .f64 (pw 43) s) : Bd .f64 (pw 44) (fb .sub .f64 0 s) := bd_sub (bd_pos (R := pw 0) (by decide) (by decide +kernel)) h (by decide +kernel) (by decide +kernel)
theorem nar_small {z : Nat} (h : Bd .f64 (pw 44) z) : narOk z := narOk_bd (h.mono (by decide) (by decide +kernel))
theorem nar_sin {z : Nat} (h : Bd .f64 (pw 43) z) : narOk z := narOk_bd (h.mono (by decide) (by decide +kernel))
def phC (y : Nat) : Nat := sinV (fb .sub .f64 4598175219545276416 (phF y))
def phS (y : Nat) : Nat := sinV (phF y)
def phRe (y : Nat) : Nat := if phQ y = 1 then nar (fb .sub .f64 0 (phS y)) else if phQ y = 2 then nar (fb .sub .f64 0 (phC y)) else if phQ y = 3 then nar (phS y) else nar (phC y)
def phIm (y : Nat) : Nat := if phQ y = 1 then nar (phC y) else if phQ y = 2 then nar (fb .sub .f64 0 (phS y)) else if phQ y = 3 then nar (fb .sub .f64 0 (phC y)) else nar (phS y)
end Go.Proofs.Ytolbibpmngmpdaa.Fl

/-
  The sine of a number of turns from 0 to a quarter: both sides' walks.
-/
namespace Go.Proofs.Ytolbibpmngmpdaa
open Go.RowKit Mem Fl
set_option linter.unusedVariables false
set_option maxRecDepth 100000

theorem fr_half {x : Nat} (h : Fr 4598175219545276416 x) : (FloatKind.f64.format.order x 4602678819172646912 == some .gt || FloatKind.f64.format.order x 4602678819172646912 == some .eq) = false := by
  rcases h with h | h
  · rw [ge_pos (by rw [d64_inf]; omega) (by rw [d64_inf]; omega), decide_eq_false (by omega)]
  · subst h; decide +kernel
theorem fr_quart {x : Nat} (h : Fr 4598175219545276416 x) : (FloatKind.f64.format.order x 4598175219545276416 == some .gt) = false := by
  rcases h with h | h
  · rw [gt_pos (by rw [d64_inf]; omega) (by rw [d64_inf]; omega), decide_eq_false (by omega)]
  · subst h; decide +kernel
theorem fr_neg {x C : Nat} (h : Fr C x) (hC : C ≤ 4607182418800017408) : (FloatKind.f64.format.order x 0 == some .lt) = false := by
  rcases h with h | h
  · rw [lt_pos (by rw [d64_inf]; omega) (by rw [d64_inf]; omega), decide_eq_false (Nat.not_lt_zero _)]
  · subst h; decide +kernel
theorem fr_nan {x C : Nat} (h : Fr C x) (hC : C ≤ 4607182418800017408) : isNan .f64 x = false := by
  rcases h with h | h
  · exact num_nan (read_pos (by rw [d64_inf]; omega))
  · subst h; decide +kernel
theorem fr_big {x : Nat} (h : Fr 4598175219545276416 x) : (FloatKind.f64.format.order x 4841369599423283200 == some .gt || FloatKind.f64.format.order x 4841369599423283200 == some .eq) = false := by
  rcases h with h | h
  · rw [ge_pos (by rw [d64_inf]; omega) (by rw [d64_inf]; omega), decide_eq_false (by omega)]
  · subst h; decide +kernel
theorem pos_gt_neg {r : Nat} (h : r < 9218868437227405312) : FloatKind.f64.format.order r 14064741636278059008 = some .gt := by
  have rx := read_pos (k := .f64) (r := r) (by rw [d64_inf]; exact h)
  have ry : FloatKind.f64.format.read 14064741636278059008 = .number true 4503599627370496 0 := by decide +kernel
  unfold Ieee.Format.order
  rw [rx, ry]
  simp only [Ieee.Datum.order]
  rw [sgn_f, sgn_t, compare_int]
  have hp := Nat.mul_pos (show 0 < 4503599627370496 by omega) (Nat.two_pow_pos (0 - min (placeOf FloatKind.f64.format r) 0).toNat)
  rw [if_neg (by omega), if_neg (by omega)]
theorem fr_low {x : Nat} (h : Fr 4598175219545276416 x) : (FloatKind.f64.format.order x 14064741636278059008 == some .lt || FloatKind.f64.format.order x 14064741636278059008 == some .eq) = false := by
  rcases h with h | h
  · rw [pos_gt_neg (by omega)]; rfl
  · subst h; decide +kernel
theorem fr_fin {x : Nat} (h : Fr 4598175219545276416 x) : (FloatKind.f64.format.order (fb .sub .f64 x x) 0 != some .eq) = false := by
  have : fin .f64 x = true := by
    obtain ⟨s, r, hr, _⟩ := (fr_bd h).read
    exact (fin_iff .f64 x).2 ⟨_, _, _, hr⟩
  unfold fin at this
  rw [bne, this]; rfl
theorem frV_id {x : Nat} (h : Fr 4598175219545276416 x) : frV x = x := by
  have hT : frT x = 0 := by unfold frT; rw [fr_int h]; rfl
  have h0 : fr0 x = x := by unfold fr0; rw [hT]; exact fr_sub h (by decide)
  unfold frV
  rw [h0, fr_neg h (by decide), if_neg (by simp)]
theorem exact_word {k : FloatKind} {z x : Nat} (h : cn k z = x) (hx : isNan k x = false) : z = x := (eq_of_cn (k := k) (a := x) (by rw [cn_num hx, h]) hx).symm
theorem conv_int {x : Nat} {n : Int} (h : floatToIntVal .f64 x .i64 = some n) (W : World) : (convert 33 2 (.float .f64 x)).run Try.prog W = .ok (.int .i64 n) W :=
  run_convert_float_int (P := Try.prog) (w := W) 33 2 .f64 .i64 _ _ (by rw [Try.underlying33]; rfl) Try.underlying2 h
theorem i_fraction {y : Nat} {w : World} (hI : floatToIntVal .f64 y .i64 = some (frT y)) :
    Calls Try.prog 125 #[.float .f64 y] w fun e w' => ∃ z, e = .returned (.float .f64 z) ∧ Hid (cn .f64 z = frV y) ∧ ∃ m, w' = w.drewN m := by
  have hp : Hid (frV y = if (FloatKind.f64.format.order (fb .sub .f64 y (floatOfInt .f64 (frT y))) 0 == some .lt) = true then fb .add .f64 (fb .sub .f64 y (floatOfInt .f64 (frT y))) 4607182418800017408 else fb .sub .f64 y (floatOfInt .f64 (frT y))) := hide rfl
  have hcv := conv_int hI
  generalize frT y = n at *
  clear hI
  cases h1 : (FloatKind.f64.format.order (fb .sub .f64 y (floatOfInt .f64 n)) 0 == some .lt) with
  | true =>
    rw [h1, if_pos rfl] at hp
    go_enter Try.func125, Try.ntmps125
    go_wp2
    go_ret
    exact ⟨_, rfl, hide (by rw [hp.out, cn_flR, ← fb_cnl, cn_flR]), _, rfl⟩
  | false =>
    rw [h1, if_neg (by simp)] at hp
    go_enter Try.func125, Try.ntmps125
    go_wp2
    go_ret
    exact ⟨_, rfl, hide (by rw [hp.out, cn_flR]), _, rfl⟩
theorem k8_ge : ∀ j : Nat, j < 9 → (FloatKind.f64.format.order (floatOfInt .f64 (8 - ((j : Nat) : Int))) 4607182418800017408 == some .gt || FloatKind.f64.format.order (floatOfInt .f64 (8 - ((j : Nat) : Int))) 4607182418800017408 == some .eq) = decide (j < 8) := by decide +kernel
theorem k8_next : ∀ j : Nat, j < 8 → fb .sub .f64 (floatOfInt .f64 (8 - ((j : Nat) : Int))) 4607182418800017408 = floatOfInt .f64 (8 - ((j + 1 : Nat) : Int)) := by decide +kernel
theorem k8_dec : ∀ j : Nat, j < 8 → kM (floatOfInt .f64 (8 - ((j + 1 : Nat) : Int))) < kM (floatOfInt .f64 (8 - ((j : Nat) : Int))) := by decide +kernel
theorem k8_den : ∀ j : Nat, j < 8 → fb .mul .f64 (fb .mul .f64 4611686018427387904 (floatOfInt .f64 (8 - ((j : Nat) : Int)))) (fb .add .f64 (fb .mul .f64 4611686018427387904 (floatOfInt .f64 (8 - ((j : Nat) : Int)))) 4607182418800017408) = floatOfInt .f64 (2 * (8 - ((j : Nat) : Int)) * (2 * (8 - ((j : Nat) : Int)) + 1)) := by decide +kernel
theorem k8_rng : ∀ j : Nat, j < 8 → 0 ≤ 2 * (8 - ((j : Nat) : Int)) * (2 * (8 - ((j : Nat) : Int)) + 1) ∧ 2 * (8 - ((j : Nat) : Int)) * (2 * (8 - ((j : Nat) : Int)) + 1) ≤ 272 := by decide +kernel
theorem k8_zero : (4620693217682128896 : Nat) = floatOfInt .f64 (8 - ((0 : Nat) : Int)) := by decide +kernel
theorem one_cn : cn .f64 4607182418800017408 = 4607182418800017408 := by decide +kernel
/-- One round, with the divisor told. -/
theorem p_step {U u p D d : Nat} {j : Nat} (hu : cn .f64 u = U) (hp : cn .f64 p = sinP U j) (hd : cn .f64 d = D) (hD : D = floatOfInt .f64 (2 * (8 - (j : Int)) * (2 * (8 - (j : Int)) + 1))) (w1 w2 w3 : World) :
    cn .f64 (flR .sub .f64 4607182418800017408 (flR .quo .f64 (flR .mul .f64 u p w1) d w2) w3) = sinP U (j + 1) := by
  have h1 : fb .mul .f64 u p = fb .mul .f64 U (sinP U j) := by rw [← fb_cn .mul .f64 u p, hu, hp]
  rw [cn_flR, ← fb_cnr, cn_flR, ← fb_cn .quo, cn_flR, hd, h1, hD]
  rfl
theorem den_step (K : Nat) (w1 w2 w3 w4 : World) : cn .f64 (flR .mul .f64 (flR .mul .f64 4611686018427387904 K w1) (flR .add .f64 (flR .mul .f64 4611686018427387904 K w2) 4607182418800017408 w3) w4) = fb .mul .f64 (fb .mul .f64 4611686018427387904 K) (fb .add .f64 (fb .mul .f64 4611686018427387904 K) 4607182418800017408) := by
  rw [cn_flR, ← fb_cn, cn_flR, cn_flR, ← fb_cnl .add, cn_flR]
theorem z_step {x : Nat} (w : World) : cn .f64 (flR .mul .f64 x 4618760256179416344 w) = sinZ x := by rw [cn_flR]; rfl
theorem z_step2 {x : Nat} (h : ∀ W, flR .sub .f64 x (floatOfInt .f64 0) W = x) (w1 w2 : World) : cn .f64 (flR .mul .f64 (flR .sub .f64 x (floatOfInt .f64 0) w1) 4618760256179416344 w2) = sinZ x := by rw [h, cn_flR]; rfl
theorem sin_end {x z p : Nat} (hz : cn .f64 z = sinZ x) (hp : cn .f64 p = sinP (fb .mul .f64 (sinZ x) (sinZ x)) 8) (w : World) : cn .f64 (flR .mul .f64 z p w) = sinV x := by
  rw [cn_flR, ← fb_cn, hz, hp]; rfl
set_option maxHeartbeats 2000000 in
theorem i_sine {x : Nat} {w : World} (h : Fr 4598175219545276416 x) :
    Calls Try.prog 126 #[.float .f64 x] w fun e w' => ∃ z, e = .returned (.float .f64 z) ∧ Hid (cn .f64 z = sinV x) ∧ ∃ m, w' = w.drewN m := by
  have h1 := fr_half h
  have h2 := fr_quart h
  have HF : ∀ W, Calls Try.prog 125 #[.float .f64 x] W fun e w' => e = .returned (.float .f64 x) ∧ ∃ m, w' = W.drewN m := fun W => by
    refine (i_fraction (by rw [fr_int h]; unfold frT; rw [fr_int h]; rfl)).mono ?_
    rintro e w' ⟨z, rfl, hz, hw⟩
    have : z = x := exact_word (by rw [hz.out, frV_id h]) (fr_nan h (by decide))
    subst this
    exact ⟨rfl, hw⟩
  replace HF := hide HF
  clear h
  go_enter Try.func126, Try.ntmps126
  go_wp2_with (go_at_call 125; refine (HF.out _).mono ?_; rintro e w' ⟨rfl, m1, rfl⟩)
  go_loopw [7, 8] (fun p kv wr => ∃ (j pz m : Nat), j ≤ 8 ∧ kv = .float .f64 (floatOfInt .f64 (8 - ((j : Nat) : Int))) ∧ p = .float .f64 pz ∧ Hid (cn .f64 pz = sinP (fb .mul .f64 (sinZ x) (sinZ x)) j) ∧ wr = w.drewN m) (fun _ kv _ => kM (bitsOf kv))
  case atStart => exact ⟨0, _, _, by omega, congrArg _ k8_zero, rfl, hide one_cn, rfl⟩
  case round =>
    obtain ⟨j, pz, m, hj, rfl, rfl, hq, rfl⟩ := hrel
    have hg := k8_ge j (by omega)
    by_cases hj8 : j < 8
    · rw [decide_eq_true hj8] at hg
      have HK : Hid (∀ W, flR .sub .f64 (floatOfInt .f64 (8 - ((j : Nat) : Int))) 4607182418800017408 W = floatOfInt .f64 (8 - ((j + 1 : Nat) : Int))) := hide (fun W => flR_bd (k8_next j hj8) (int_nan _) W)
      have HM := hide (k8_dec j hj8)
      have HD := hide (k8_den j hj8)
      go_wp2
      go_roundw
      case rel => exact ⟨j + 1, _, _, by omega, by rw [HK.out], rfl, hide (p_step (u_step (z_step _) _) hq.out (den_step _ _ _ _ _) HD.out _ _ _), rfl⟩
      case measure =>
        rw [HK.out]
        exact HM.out
    · rw [decide_eq_false hj8] at hg
      obtain rfl : j = 8 := by omega
      go_wp2
      go_ret
      exact ⟨_, rfl, hide (sin_end (z_step _) hq.out _), _, rfl⟩
set_option maxHeartbeats 2000000 in
theorem s_l01SineWide {x : Nat} {w : World} (h : Fr 4598175219545276416 x) :
    Calls Try.prog 157 #[.float .f64 x] w fun e w' => ∃ z, e = .returned (.float .f64 z) ∧ Hid (cn .f64 z = sinV x) ∧ ∃ m, w' = w.drewN m := by
  have h0 := fr_fin h
  have h3 := fr_big h
  have h4 := fr_low h
  have hI := conv_int (fr_int h)
  have hx : fb .sub .f64 x (floatOfInt .f64 0) = x := fr_sub h (by decide)
  have h1 := fr_half h
  have h2 := fr_quart h
  have h5 := fr_neg h (by decide)
  have HX : Hid (∀ W, flR .sub .f64 x (floatOfInt .f64 0) W = x) := hide (fun W => flR_bd hx (fr_nan h (by decide)) W)
  have h1' := h1
  have h2' := h2
  have h5' := h5
  rw [← hx] at h1' h2' h5'
  clear h hx
  go_enter Try.func157, Try.ntmps157
  go_wp2
  go_loopw [7, 8] (fun p kv wr => ∃ (j pz m : Nat), j ≤ 8 ∧ kv = .int .i64 (8 - ((j : Nat) : Int)) ∧ p = .float .f64 pz ∧ Hid (cn .f64 pz = sinP (fb .mul .f64 (sinZ x) (sinZ x)) j) ∧ wr = w.drewN m) (fun _ kv _ => (intOf kv).toNat)
  case atStart => exact ⟨0, _, _, by omega, rfl, rfl, hide one_cn, rfl⟩
  case round =>
    obtain ⟨j, pz, m, hj, rfl, rfl, hq, rfl⟩ := hrel
    by_cases hj8 : j < 8
    · have i1 : (1 : Int) ≤ 8 - (j : Int) := by omega
      have i2 : 8 - (j : Int) ≤ 8 := by omega
      obtain ⟨v, hv⟩ : ∃ v : Int, 2 * (8 - (j : Int)) * (2 * (8 - (j : Int)) + 1) = v := ⟨_, rfl⟩
      obtain ⟨v1, v2⟩ := k8_rng j hj8
      rw [hv] at v1 v2
      have HV := hide hv.symm
      go_wp2
      go_roundw
      case rel =>
        have HD : cn .f64 (floatOfInt .f64 v) = floatOfInt .f64 v := cn_num (int_nan v)
        have HE : floatOfInt .f64 v = floatOfInt .f64 (2 * (8 - (j : Int)) * (2 * (8 - (j : Int)) + 1)) := congrArg _ HV.out
        exact ⟨j + 1, _, _, by omega, by (congr 1; omega), rfl, hide (p_step (u_step (z_step2 HX.out _ _) _) hq.out HD HE _ _ _), rfl⟩
      case measure => (simp [intOf]; try omega)
    · obtain rfl : j = 8 := by omega
      go_wp2
      go_ret
      exact ⟨_, rfl, hide (sin_end (z_step2 HX.out _ _) hq.out _), _, rfl⟩
end Go.Proofs.Ytolbibpmngmpdaa
