/-
  A number of few digits is written to what it is; whole numbers of 32-bit and 64-bit words.
-/
import Derived.Test.YteabfkgbakoljaaNn
import Derived.Test.YteabfkgbakoljaaConv
import Derived.Test.YteabfkgbakoljaaSqrt
namespace Go.Proofs.Yteabfkgbakoljaa.Fl
open Go.RowKit
set_option linter.unusedVariables false

/-- A number whose last digit and whose digits the format has is read as it was written. -/
theorem read_exact {k : FloatKind} {s : Bool} {m : Nat} {e : Int} (hm : m ≠ 0) (hl : m.log2 ≤ k.format.fractionBits) (he : k.format.leastPlace ≤ e) (hr : rungOf k.format m e < k.format.infRung) :
    ∃ m' e', k.format.read (k.format.nearest s m e) = .number s m' e' ∧ e' ≤ e ∧ k.format.leastPlace ≤ e' ∧ m' = m * 2 ^ (e - e').toNat := by
  have hw := nearest_word k.format s m e (Nat.le_refl _) hr
  refine ⟨_, _, by rw [hw]; exact read_word hr, ?_⟩
  have hB := binade_pos k.format
  have hlast : lastOf k.format m e ≤ e := by unfold lastOf; omega
  have hge : k.format.leastPlace ≤ lastOf k.format m e := by unfold lastOf; omega
  have hk : rungOf k.format m e = (lastOf k.format m e - k.format.leastPlace).toNat * k.format.binade + m * 2 ^ (e - lastOf k.format m e).toNat := by
    unfold rungOf
    rw [if_neg hm, show (lastOf k.format m e - e).toNat = 0 by omega, rnd_zero]
  have hkm : m * 2 ^ (e - lastOf k.format m e).toNat < 2 * k.format.binade := by
    have h1 : m * 2 ^ (e - lastOf k.format m e).toNat < 2 ^ (m.log2 + 1) * 2 ^ (e - lastOf k.format m e).toNat := Nat.mul_lt_mul_of_pos_right Nat.lt_log2_self (Nat.two_pow_pos _)
    rw [← Nat.pow_add] at h1
    refine Nat.lt_of_lt_of_le h1 ?_
    unfold Ieee.Format.binade
    rw [show 2 * 2 ^ k.format.fractionBits = 2 ^ (k.format.fractionBits + 1) by rw [Nat.pow_succ]; omega]
    exact Nat.pow_le_pow_right (by omega) (by unfold lastOf; omega)
  by_cases hc : lastOf k.format m e = k.format.leastPlace ∧ m * 2 ^ (e - lastOf k.format m e).toNat < k.format.binade
  · obtain ⟨h1, h2⟩ := hc
    rw [h1] at hk h2
    rw [Int.sub_self] at hk
    simp only [Int.toNat_zero, Nat.zero_mul, Nat.zero_add] at hk
    have hlt : rungOf k.format m e < k.format.binade := by omega
    unfold magOf placeOf
    rw [if_pos hlt, if_pos hlt]
    exact ⟨he, Int.le_refl _, hk⟩
  · have hge2 : k.format.binade ≤ m * 2 ^ (e - lastOf k.format m e).toNat := by
      by_cases h1 : lastOf k.format m e = k.format.leastPlace
      · have : ¬ m * 2 ^ (e - lastOf k.format m e).toNat < k.format.binade := fun h => hc ⟨h1, h⟩
        omega
      · have h2 : lastOf k.format m e = e + m.log2 - k.format.fractionBits := by unfold lastOf at *; omega
        have h3 : 2 ^ m.log2 * 2 ^ (e - lastOf k.format m e).toNat ≤ m * 2 ^ (e - lastOf k.format m e).toNat := Nat.mul_le_mul_right _ (Nat.log2_self_le hm)
        rw [← Nat.pow_add] at h3
        refine Nat.le_trans ?_ h3
        unfold Ieee.Format.binade
        exact Nat.pow_le_pow_right (by omega) (by omega)
    have hb : ¬ rungOf k.format m e < k.format.binade := by omega
    generalize hK : m * 2 ^ (e - lastOf k.format m e).toNat = K at *
    generalize hL : (lastOf k.format m e - k.format.leastPlace).toNat = L at *
    have hmod : rungOf k.format m e % k.format.binade = K - k.format.binade := by
      rw [hk, Nat.mul_comm, Nat.mul_add_mod, Nat.mod_eq_sub_mod hge2, Nat.mod_eq_of_lt (by omega)]
    have hdiv : rungOf k.format m e / k.format.binade = L + 1 := by
      rw [hk, Nat.mul_comm, Nat.mul_add_div hB]
      congr 1
      exact Nat.div_eq_of_lt_le (by omega) (by omega)
    unfold magOf placeOf
    rw [if_neg hb, if_neg hb, hmod, hdiv]
    have hp : k.format.leastPlace + ((L + 1 - 1 : Nat) : Int) = lastOf k.format m e := by omega
    rw [hp]
    exact ⟨hlast, hge, by omega⟩

/-- What is left of 'm 2^e' without what is behind the point. -/
def floorv (m : Nat) (e : Int) : Nat := (m <<< e.toNat) / 2 ^ (-e).toNat
theorem floorv_at {m : Nat} {e : Int} {b : Nat} (h : -(b : Int) ≤ e) : floorv m e = m * 2 ^ (e + b).toNat / 2 ^ b := by
  unfold floorv
  rw [Nat.shiftLeft_eq]
  rcases Int.lt_or_le e 0 with h0 | h0
  · rw [show e.toNat = 0 by omega, Nat.pow_zero, Nat.mul_one]
    have : b = (-e).toNat + (e + b).toNat := by omega
    rw [show (2 : Nat) ^ b = 2 ^ (-e).toNat * 2 ^ (e + b).toNat by rw [← Nat.pow_add, ← this]]
    rw [Nat.mul_div_mul_right _ _ (Nat.two_pow_pos _)]
  · rw [show (-e).toNat = 0 by omega, Nat.pow_zero, Nat.div_one]
    rw [show (e + b).toNat = e.toNat + b by omega, Nat.pow_add, ← Nat.mul_assoc, Nat.mul_div_cancel _ (Nat.two_pow_pos _)]
theorem gap_div (n d : Nat) : n / (1 <<< min d (n.log2 + 2)) = n / 2 ^ d := by
  rw [Nat.shiftLeft_eq, Nat.one_mul]
  rcases Nat.lt_or_ge (n.log2 + 2) d with h | h
  rotate_left
  · rw [Nat.min_eq_left h]
  · rw [Nat.min_eq_right (by omega)]
    have h1 : n < 2 ^ (n.log2 + 1) := Nat.lt_log2_self
    have h2 : 2 ^ (n.log2 + 1) ≤ 2 ^ (n.log2 + 2) := Nat.pow_le_pow_right (by omega) (by omega)
    have h3 : 2 ^ (n.log2 + 2) ≤ 2 ^ d := Nat.pow_le_pow_right (by omega) (by omega)
    rw [Nat.div_eq_of_lt (by omega), Nat.div_eq_of_lt (by omega)]
theorem cut_zero_way (s : Bool) (m : Nat) (e : Int) : Ieee.Toward.zero.cut s (m <<< e.toNat) (-e).toNat = floorv m e := by
  unfold Ieee.Toward.cut floorv
  simp only [Bool.toNat_false, Nat.add_zero]
  exact gap_div _ _
theorem cut_down_way (m : Nat) (e : Int) : Ieee.Toward.down.cut false (m <<< e.toNat) (-e).toNat = floorv m e := by
  unfold Ieee.Toward.cut floorv
  simp only [Bool.false_and, Bool.toNat_false, Nat.add_zero]
  exact gap_div _ _
theorem cut_down_zero (e : Int) : Ieee.Toward.down.cut true (0 <<< e.toNat) (-e).toNat = 0 := by
  unfold Ieee.Toward.cut
  simp

theorem f64_least : FloatKind.f64.format.leastPlace = -1074 := by decide +kernel
theorem f64_fb : FloatKind.f64.format.fractionBits = 52 := by decide +kernel
theorem f64_inf : FloatKind.f64.format.infRung = 9218868437227405312 := by decide +kernel

/-- A 32-bit number written to 64 bits is read as it was. -/
theorem wide_read {s : Bool} {m : Nat} {e : Int} (hm : m < 16777216) (h1 : -149 ≤ e) (h2 : e ≤ 104) :
    ∃ m' e', FloatKind.f64.format.read (FloatKind.f64.format.nearest s m e) = .number s m' e' ∧ -1074 ≤ e' ∧ m' * 2 ^ (e' + 1074).toNat = m * 2 ^ (e + 1074).toNat := by
  by_cases h0 : m = 0
  · subst h0
    obtain ⟨p, hp⟩ := read_zero_word .f64 s
    have hz : FloatKind.f64.format.nearest s 0 e = FloatKind.f64.format.word s 0 := nearest_zero _ _ _
    have h3 := read_word (k := .f64) (s := s) (r := 0) (by rw [f64_inf]; omega)
    refine ⟨_, _, by rw [hz]; exact h3, ?_, ?_⟩
    · have := place_ge FloatKind.f64.format 0; rw [f64_least] at this; exact this
    · have : magOf FloatKind.f64.format 0 = 0 := by decide +kernel
      rw [this]; simp
  · have hl : m.log2 ≤ 23 := log2_lt_of (b := 23) (by omega)
    obtain ⟨r, hr, hlt⟩ := nearest64_lt s m e hm h1 h2
    have hrl : rungOf FloatKind.f64.format m e < FloatKind.f64.format.infRung := by
      have hR : rungOf FloatKind.f64.format m e ≤ 5183643171103440896 := by
        refine rung_pow _ (a := 52) (j := 76) ?_ ?_ (by omega)
        · decide +kernel
        · decide +kernel
      rw [f64_inf]
      omega
    obtain ⟨m', e', h3, h4, h5, h6⟩ := read_exact (k := .f64) (s := s) h0 (by rw [f64_fb]; omega) (by rw [f64_least]; omega) hrl
    rw [f64_least] at h5
    refine ⟨m', e', h3, h5, ?_⟩
    rw [h6, Nat.mul_assoc, ← Nat.pow_add]
    congr 2
    omega

theorem whole_back : ∀ N < 97, floatToIntVal .f64 (FloatKind.f64.encode (.number false N 0)) .i64 = some (N : Int) := by decide +kernel
theorem whole_back0 : floatToIntVal .f64 (FloatKind.f64.encode (.number true 0 0)) .i64 = some 0 := by decide +kernel

/-- 'float64(x)' of a number, and what math.Floor makes of it. -/
def wideN (x : Nat) : Nat := FloatKind.f64.encode (FloatKind.f32.decode x)
def floorN (y : Nat) : Nat := FloatKind.f64.encode ((FloatKind.f64.decode y).integral .down)
/-- The place N of a number that is not negative. -/
def placeN (x : Nat) : Nat := match FloatKind.f32.decode x with | .number _ m e => floorv m e | _ => 0
def PlaceOk (x : Nat) : Prop := floatToIntVal .f32 x .i64 = some (placeN x : Int) ∧ (∀ W, cvR .f32 .f64 x W = wideN x) ∧ cvN .f32 .f64 x = 0 ∧ (∃ s m e, FloatKind.f64.decode (wideN x) = .number s m e) ∧ floatToIntVal .f64 (floorN (wideN x)) .i64 = some (placeN x : Int)
/-- Is a number from 0 to the last index. -/
def inR (n x : Nat) : Bool := (FloatKind.f32.format.order x 0 == some .gt || FloatKind.f32.format.order x 0 == some .eq) && (FloatKind.f32.format.order x (floatOfInt .f32 ((n : Int) - 1)) == some .lt || FloatKind.f32.format.order x (floatOfInt .f32 ((n : Int) - 1)) == some .eq)

theorem last_iv : ∀ n : Nat, n < 97 → 1 ≤ n → Nn (floatOfInt .f32 ((n : Int) - 1)) ∧ iv (floatOfInt .f32 ((n : Int) - 1)) = (n - 1) * 2 ^ 149 := by
  unfold Nn
  decide +kernel

theorem ord_cases {a b : Int} (h : (some (compare a b) == some Ordering.gt || some (compare a b) == some Ordering.eq) = true) : b ≤ a := by
  rw [compare_int] at h
  split at h
  · exact absurd h (by decide)
  · omega
theorem ord_cases' {a b : Int} (h : (some (compare a b) == some Ordering.lt || some (compare a b) == some Ordering.eq) = true) : a ≤ b := by
  rw [compare_int] at h
  split at h
  · omega
  · split at h
    · omega
    · exact absurd h (by decide)

theorem place_ok {x n : Nat} (hn1 : 1 ≤ n) (hn : n ≤ 96) (h : inR n x = true) : placeN x < n ∧ PlaceOk x := by
  unfold inR at h
  rw [Bool.and_eq_true] at h
  obtain ⟨g1, g2⟩ := h
  obtain ⟨l1, l2⟩ := last_iv n (by omega) hn1
  have rl := nn_read l1
  cases hd : FloatKind.f32.decode x with
  | nan s t =>
    have : FloatKind.f32.format.read x = .nan s t := hd
    unfold Ieee.Format.order at g1
    rw [this] at g1
    exact absurd g1 (by simp [Ieee.Datum.order])
  | infinity s =>
    have hi : FloatKind.f32.format.read x = .infinity s := hd
    exfalso
    cases s
    · unfold Ieee.Format.order at g2
      have rl' : FloatKind.f32.format.read (floatOfInt .f32 ((n : Int) - 1)) = _ := rl
      rw [hi, rl'] at g2
      exact absurd g2 (by simp [Ieee.Datum.order])
    · unfold Ieee.Format.order at g1
      obtain ⟨p0, hp0⟩ := read_zero_word .f32 false
      have e0 : FloatKind.f32.format.word false 0 = 0 := rfl
      rw [e0] at hp0
      rw [hi, hp0] at g1
      exact absurd g1 (by simp [Ieee.Datum.order])
  | number s m e =>
    obtain ⟨b1, b2, b3⟩ := read32 hd
    have hr : FloatKind.f32.format.read x = .number s m e := hd
    obtain ⟨p0, hp0⟩ := read_zero_word .f32 false
    have e0 : FloatKind.f32.format.word false 0 = 0 := rfl
    rw [e0] at hp0
    rw [order_num hr hp0 (b := min e p0) (by omega) (by omega)] at g1
    have rl' : FloatKind.f32.format.read (floatOfInt .f32 ((n : Int) - 1)) = _ := rl
    have pl := pl_ge (floatOfInt .f32 ((n : Int) - 1))
    rw [order_num hr rl' (b := -149) b2 pl] at g2
    have c1 := ord_cases g1
    have c2 := ord_cases' g2
    have hz : sval false 0 p0 (min e p0) = 0 := by unfold sval Ieee.signed; simp
    rw [hz] at c1
    have hs0 : s = true → m = 0 := by
      intro hs
      subst hs
      unfold sval Ieee.signed at c1
      rw [if_pos rfl, Nat.shiftLeft_eq] at c1
      rcases Nat.eq_zero_or_pos m with h0 | h0
      · exact h0
      · exfalso
        have := Nat.mul_pos h0 (Nat.two_pow_pos (e - min e p0).toNat)
        omega
    have hup : m * 2 ^ (e + 149).toNat ≤ (n - 1) * 2 ^ 149 := by
      cases s with
      | true => rw [hs0 rfl]; simp
      | false =>
        unfold sval Ieee.signed at c2
        rw [if_neg (by simp), if_neg (by simp), Nat.shiftLeft_eq, Nat.shiftLeft_eq] at c2
        rw [← l2]
        unfold iv
        have e1 : (e - -149).toNat = (e + 149).toNat := by omega
        have e2 : (placeOf F32 (floatOfInt .f32 ((n : Int) - 1)) - -149).toNat = (placeOf F32 (floatOfInt .f32 ((n : Int) - 1)) + 149).toNat := by omega
        rw [e1] at c2
        rw [← e2]
        omega
    have hN : placeN x = floorv m e := by unfold placeN; rw [hd]
    have hlt : floorv m e ≤ n - 1 := by
      rw [floorv_at (b := 149) (by omega)]
      rw [show (e + ((149 : Nat) : Int)).toNat = (e + 149).toNat by omega]
      exact Nat.div_le_of_le_mul (by rw [Nat.mul_comm (2 ^ 149)]; exact hup)
    obtain ⟨m', e', w1, w2, w3⟩ := wide_read (s := s) b1 b2 b3
    have hY : wideN x = FloatKind.f64.format.nearest s m e := by unfold wideN; rw [hd]; rfl
    have hf : floorv m' e' = floorv m e := by
      rw [floorv_at (b := 1074) (by omega), floorv_at (b := 1074) (by omega)]
      rw [show (e' + ((1074 : Nat) : Int)).toNat = (e' + 1074).toNat by omega, show (e + ((1074 : Nat) : Int)).toNat = (e + 1074).toNat by omega, w3]
    have hcv := cvBits_num hd
    refine ⟨by omega, ?_, ?_, ?_, ?_, ?_⟩
    · unfold floatToIntVal
      rw [hd]
      unfold Ieee.Datum.toInt Ieee.Datum.integral
      simp only
      rw [cut_zero_way, ← hN]
      have hsg : Ieee.signed s (placeN x) 0 = (placeN x : Int) := by
        unfold Ieee.signed
        cases s with
        | false => simp
        | true => rw [hN, hs0 rfl]; simp [floorv]
      rw [hsg]
      rw [if_pos]
      constructor
      · have : IntKind.min .i64 = -9223372036854775808 := by decide
        omega
      · have : IntKind.max .i64 = 9223372036854775807 := by decide
        omega
    · intro W
      unfold cvR
      rw [hcv]
      unfold wideN
      rw [hd]; rfl
    · unfold cvN; rw [hcv]; rfl
    · exact ⟨s, m', e', by rw [hY]; exact w1⟩
    · unfold floorN
      have hy : FloatKind.f64.decode (wideN x) = .number s m' e' := by rw [hY]; exact w1
      rw [hy]
      unfold Ieee.Datum.integral
      simp only
      cases s with
      | false =>
        rw [cut_down_way, hf, ← hN]
        exact whole_back _ (by omega)
      | true =>
        have hm0 : m' = 0 := by
          rw [hs0 rfl, Nat.zero_mul] at w3
          rcases Nat.mul_eq_zero.1 w3 with h | h
          · exact h
          · exact absurd h (by have := Nat.two_pow_pos (e' + 1074).toNat; omega)
        subst hm0
        rw [cut_down_zero]
        have : placeN x = 0 := by rw [hN, hs0 rfl]; simp [floorv]
        rw [this]
        exact whole_back0
end Go.Proofs.Yteabfkgbakoljaa.Fl
