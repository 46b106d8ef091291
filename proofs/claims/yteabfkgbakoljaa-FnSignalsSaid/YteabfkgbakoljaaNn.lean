/-
  Sums, products and quotients of 32-bit numbers that are not negative: bounds that need no error.
-/
import Derived.Test.YteabfkgbakoljaaCapP
import Derived.Test.YteabfkgbakoljaaOrd
namespace Go.Proofs.Yteabfkgbakoljaa.Fl
open Go.RowKit
set_option linter.unusedVariables false

/-- The format of 32-bit numbers. -/
abbrev F32 : Ieee.Format := FloatKind.f32.format
theorem f32_inf : F32.infRung = 2139095040 := by decide +kernel
theorem f32_sw : F32.signWeight = 2147483648 := by decide +kernel
theorem f32_bin : F32.binade = 8388608 := by decide +kernel
theorem f32_least : F32.leastPlace = -149 := by decide +kernel

/-- A word that is a number and not negative. -/
def Nn (x : Nat) : Prop := x < 2139095040
/-- The number of a rung, in units of the least one. -/
def iv (r : Nat) : Nat := magOf F32 r * 2 ^ (placeOf F32 r + 149).toNat

theorem pl_ge (r : Nat) : -149 ≤ placeOf F32 r := by have := place_ge F32 r; rw [f32_least] at this; exact this
theorem mag_lt (r : Nat) : magOf F32 r < 16777216 := by
  unfold magOf
  rw [f32_bin]
  split
  · omega
  · have := Nat.mod_lt r (show 0 < 8388608 by omega); omega
theorem nn_read {x : Nat} (h : Nn x) : F32.read x = .number false (magOf F32 x) (placeOf F32 x) := by
  have := read_word (k := .f32) (s := false) (r := x) (by show x < F32.infRung; rw [f32_inf]; exact h)
  exact this
theorem nn_wf {x : Nat} (h : Nn x) : Wf .f32 x := by
  unfold Wf
  have hw : 2 ^ FloatKind.f32.format.width = 4294967296 := by decide +kernel
  rw [hw]; unfold Nn at h; omega
theorem nn_nan {x : Nat} (h : Nn x) : isNan .f32 x = false := num_nan (nn_read h)
theorem nn_fin {x : Nat} (h : Nn x) : fin .f32 x = true := (fin_iff .f32 x).2 ⟨_, _, _, nn_read h⟩
theorem nn_of {x m : Nat} {i : Int} (hw : Wf .f32 x) (h : F32.read x = .number false m i) : Nn x := by
  obtain ⟨h1, h2, _, _⟩ := read_of_rung (k := .f32) h
  have h3 := wf_word hw
  rw [← h1] at h3
  have h4 : FloatKind.f32.format.infRung = 2139095040 := f32_inf
  rw [h4] at h2
  unfold Nn
  unfold Ieee.Format.word at h3
  rw [if_neg (by simp)] at h3
  omega

theorem numle_iv {m n : Nat} {e j : Int} (he : -149 ≤ e) (hj : -149 ≤ j) : NumLe m e n j ↔ m * 2 ^ (e + 149).toNat ≤ n * 2 ^ (j + 149).toNat := by
  constructor
  · intro h
    have := h.at_ (b := -149) he hj
    rwa [show e - -149 = e + 149 by omega, show j - -149 = j + 149 by omega] at this
  · intro h
    refine NumLe.of (b := -149) he hj ?_
    rwa [show e - -149 = e + 149 by omega, show j - -149 = j + 149 by omega]
theorem iv_le {r r' : Nat} : r ≤ r' ↔ iv r ≤ iv r' := by
  constructor
  · intro h
    exact (numle_iv (pl_ge _) (pl_ge _)).1 (numle_of_rung F32 h)
  · intro h
    have := rung_mono F32 ((numle_iv (pl_ge r) (pl_ge r')).2 h)
    rwa [rung_read, rung_read] at this
theorem iv_lt {r r' : Nat} : r < r' ↔ iv r < iv r' := by have := @iv_le r' r; omega

/-- The rung of what is told in units of 2 ^ e. -/
theorem rung_up {m C : Nat} {e : Int} {b : Nat} (hb : (b : Int) = -149 - e) (h : m ≤ iv C * 2 ^ b) : rungOf F32 m e ≤ C := by
  refine rung_le F32 (NumLe.of (b := e) (by omega) (by have := pl_ge C; omega) ?_)
  rw [Int.sub_self, Int.toNat_zero, Nat.pow_zero, Nat.mul_one]
  refine Nat.le_trans h ?_
  unfold iv
  rw [Nat.mul_assoc, ← Nat.pow_add]
  have := pl_ge C
  rw [show (placeOf F32 C + 149).toNat + b = (placeOf F32 C - e).toNat by omega]
  exact Nat.le_refl _
theorem rung_dn {m C : Nat} {e : Int} {b : Nat} (hb : (b : Int) = -149 - e) (h : iv C * 2 ^ b ≤ m) : C ≤ rungOf F32 m e := by
  refine rung_ge F32 (NumLe.of (b := e) (by have := pl_ge C; omega) (by omega) ?_)
  rw [Int.sub_self, Int.toNat_zero, Nat.pow_zero, Nat.mul_one]
  refine Nat.le_trans ?_ h
  unfold iv
  rw [Nat.mul_assoc, ← Nat.pow_add]
  have := pl_ge C
  rw [show (placeOf F32 C + 149).toNat + b = (placeOf F32 C - e).toNat by omega]
  exact Nat.le_refl _

theorem word_false (f : Ieee.Format) (r : Nat) : f.word false r = r := rfl
theorem cn_min (r : Nat) : cn .f32 (min r F32.infRung) = min r F32.infRung := by
  rw [← word_false F32 (min r F32.infRung)]
  exact cn_num (isNan_word' (Nat.min_le_right _ _))

theorem rung_same {m n : Nat} {e j : Int} {b : Int} (h1 : b ≤ e) (h2 : b ≤ j) (h : m * 2 ^ (e - b).toNat = n * 2 ^ (j - b).toNat) : rungOf F32 m e = rungOf F32 n j := by
  apply Nat.le_antisymm
  · exact rung_mono F32 (NumLe.of h1 h2 (by omega))
  · exact rung_mono F32 (NumLe.of h2 h1 (by omega))

theorem fb_add_nn {x y : Nat} (hx : Nn x) (hy : Nn y) : fb .add .f32 x y = min (rungOf F32 (iv x + iv y) (-149)) F32.infRung := by
  have rx := nn_read hx
  have ry := nn_read hy
  unfold fb floatBits Ieee.Format.add
  simp only
  rw [rx, ry]
  simp only [Ieee.Datum.sum, Option.map_some, Option.getD_some, Ieee.Format.write]
  have px := pl_ge x
  have py := pl_ge y
  have hs : ∀ (m u : Nat), Ieee.signed false m u = ((m * 2 ^ u : Nat) : Int) := by intro m u; unfold Ieee.signed; rw [if_neg (by simp), Nat.shiftLeft_eq]
  rw [hs, hs]
  have hsg : (if (((magOf F32 x * 2 ^ (placeOf F32 x - min (placeOf F32 x) (placeOf F32 y)).toNat : Nat) : Int) + ((magOf F32 y * 2 ^ (placeOf F32 y - min (placeOf F32 x) (placeOf F32 y)).toNat : Nat) : Int) = 0) then false && false
      else decide ((((magOf F32 x * 2 ^ (placeOf F32 x - min (placeOf F32 x) (placeOf F32 y)).toNat : Nat) : Int) + ((magOf F32 y * 2 ^ (placeOf F32 y - min (placeOf F32 x) (placeOf F32 y)).toNat : Nat) : Int)) < 0)) = false := by
    split
    · rfl
    · simp only [decide_eq_false_iff_not]; omega
  rw [hsg, nearest_rung, word_false, cn_min]
  congr 1
  rw [← Int.natCast_add, Int.natAbs_natCast]
  refine rung_same (b := -149) (by omega) (by omega) ?_
  rw [Int.sub_self, Int.toNat_zero, Nat.pow_zero, Nat.mul_one]
  unfold iv
  rw [Nat.add_mul, Nat.mul_assoc, Nat.mul_assoc, ← Nat.pow_add, ← Nat.pow_add]
  rw [show (placeOf F32 x - min (placeOf F32 x) (placeOf F32 y)).toNat + (min (placeOf F32 x) (placeOf F32 y) - -149).toNat = (placeOf F32 x + 149).toNat by omega]
  rw [show (placeOf F32 y - min (placeOf F32 x) (placeOf F32 y)).toNat + (min (placeOf F32 x) (placeOf F32 y) - -149).toNat = (placeOf F32 y + 149).toNat by omega]

theorem fb_mul_nn {x y : Nat} (hx : Nn x) (hy : Nn y) : fb .mul .f32 x y = min (rungOf F32 (iv x * iv y) (-298)) F32.infRung := by
  have rx := nn_read hx
  have ry := nn_read hy
  unfold fb floatBits Ieee.Format.mul
  simp only
  rw [rx, ry]
  simp only [Ieee.Datum.product, Option.map_some, Option.getD_some, Ieee.Format.write]
  have px := pl_ge x
  have py := pl_ge y
  rw [show (false ^^ false) = false from rfl, nearest_rung, word_false, cn_min]
  congr 1
  refine rung_same (b := -298) (by omega) (by omega) ?_
  rw [Int.sub_self, Int.toNat_zero, Nat.pow_zero, Nat.mul_one]
  unfold iv
  rw [show (placeOf F32 x + placeOf F32 y - -298).toNat = (placeOf F32 x + 149).toNat + (placeOf F32 y + 149).toNat by omega, Nat.pow_add]
  ac_rfl

theorem add_up {x y C : Nat} (hx : Nn x) (hy : Nn y) (h : iv x + iv y ≤ iv C) : fb .add .f32 x y ≤ C := by
  rw [fb_add_nn hx hy]
  exact Nat.le_trans (Nat.min_le_left _ _) (rung_up (b := 0) (by omega) (by simpa using h))
theorem add_dn {x y C : Nat} (hx : Nn x) (hy : Nn y) (hC : C ≤ 2139095040) (h : iv C ≤ iv x + iv y) : C ≤ fb .add .f32 x y := by
  rw [fb_add_nn hx hy]
  exact Nat.le_min.2 ⟨rung_dn (b := 0) (by omega) (by simpa using h), by rw [f32_inf]; exact hC⟩
theorem mul_up {x y C : Nat} (hx : Nn x) (hy : Nn y) (h : iv x * iv y ≤ iv C * 2 ^ 149) : fb .mul .f32 x y ≤ C := by
  rw [fb_mul_nn hx hy]
  exact Nat.le_trans (Nat.min_le_left _ _) (rung_up (b := 149) (by omega) h)
theorem mul_dn {x y C : Nat} (hx : Nn x) (hy : Nn y) (hC : C ≤ 2139095040) (h : iv C * 2 ^ 149 ≤ iv x * iv y) : C ≤ fb .mul .f32 x y := by
  rw [fb_mul_nn hx hy]
  exact Nat.le_min.2 ⟨rung_dn (b := 149) (by omega) h, by rw [f32_inf]; exact hC⟩

theorem log_lo {m : Nat} (h : m ≠ 0) : 2 ^ m.log2 ≤ m := Nat.log2_self_le h
theorem log_hi (m : Nat) : m < 2 ^ (m.log2 + 1) := Nat.lt_log2_self

theorem quo_up {x y C : Nat} (hx : Nn x) (hy : Nn y) (h0 : iv y ≠ 0) (h : iv x * 2 ^ 149 ≤ iv y * iv C) : fb .quo .f32 x y ≤ C := by
  have rx := nn_read hx
  have ry := nn_read hy
  have px := pl_ge x
  have py := pl_ge y
  have pc := pl_ge C
  have mc := mag_lt C
  have hn : magOf F32 y ≠ 0 := by intro e; apply h0; unfold iv; rw [e, Nat.zero_mul]
  unfold fb floatBits Ieee.Format.div
  simp only
  rw [rx, ry]
  simp only [Ieee.Datum.quotient, if_neg hn, Option.map_some, Option.getD_some, Ieee.Format.write]
  rw [show (false ^^ false) = false from rfl, nearest_rung, word_false]
  have hd : FloatKind.f32.format.fractionBits + 2 = 25 := by decide +kernel
  rw [hd]
  unfold iv at h
  generalize hm' : magOf F32 x = m at *
  generalize magOf F32 y = n at *
  generalize placeOf F32 x = i at *
  generalize placeOf F32 y = j at *
  show cn .f32 (min (rungOf F32 _ _) F32.infRung) ≤ C
  rw [cn_min]
  refine Nat.le_trans (Nat.min_le_left _ _) ?_
  generalize hc : magOf F32 C = c at *
  generalize hp : placeOf F32 C = p at *
  by_cases hm : m = 0
  · subst hm
    rw [show (0 : Nat) <<< (25 + n.log2 - Nat.log2 0) = 0 by simp]
    rw [Nat.zero_div, Nat.zero_mod]
    unfold rungOf
    rw [if_pos (by decide)]
    omega
  refine rung_le F32 ?_
  rw [hc, hp]
  rw [Nat.shiftLeft_eq]
  generalize hmore : 25 + n.log2 - m.log2 = more at *
  have l1 := log_lo hm
  have l2 := log_hi n
  have hD : 2 ^ (25 + n.log2) ≤ m * 2 ^ more := by
    refine Nat.le_trans ?_ (Nat.mul_le_mul_right _ l1)
    rw [← Nat.pow_add]
    exact Nat.pow_le_pow_right (by omega) (by omega)
  -- both sides in whole numbers
  have hh : m * 2 ^ (i + 298).toNat ≤ n * c * 2 ^ (j + p + 298).toNat := by
    have e1 : m * 2 ^ (i + 149).toNat * 2 ^ 149 = m * 2 ^ (i + 298).toNat := by rw [Nat.mul_assoc, ← Nat.pow_add]; congr 2; omega
    have e2 : n * 2 ^ (j + 149).toNat * (c * 2 ^ (p + 149).toNat) = n * c * 2 ^ (j + p + 298).toNat := by
      rw [show (j + p + 298).toNat = (j + 149).toNat + (p + 149).toNat by omega, Nat.pow_add]; ac_rfl
    rw [e1, e2] at h
    exact h
  have hge : i - j - more ≤ p := by
    rcases Int.lt_or_le p (i - j - more) with hlt | hge
    · exfalso
      have e3 : (i + 298).toNat = (j + p + 298).toNat + ((i - j - p).toNat) := by omega
      rw [e3, Nat.pow_add, Nat.mul_comm (2 ^ _) (2 ^ _), ← Nat.mul_assoc] at hh
      have h1 := Nat.le_of_mul_le_mul_right hh (Nat.two_pow_pos _)
      have h2 : m * 2 ^ (more + 1) ≤ m * 2 ^ (i - j - p).toNat := Nat.mul_le_mul_left _ (Nat.pow_le_pow_right (by omega) (by omega))
      have h3 : n * c ≤ 2 ^ (n.log2 + 1) * 16777216 := Nat.mul_le_mul (by omega) (by omega)
      have h4 : 2 ^ (n.log2 + 1) * 16777216 = 2 ^ (25 + n.log2) := by rw [show (16777216 : Nat) = 2 ^ 24 by decide, ← Nat.pow_add]; congr 1; omega
      have h5 : m * 2 ^ (more + 1) = 2 * (m * 2 ^ more) := by rw [Nat.pow_succ, ← Nat.mul_assoc]; omega
      have h6 : 0 < 2 ^ (25 + n.log2) := Nat.two_pow_pos _
      omega
    · exact hge
  have hDK : m * 2 ^ more ≤ n * (c * 2 ^ (p - (i - j - more)).toNat) := by
    have h1 := Nat.mul_le_mul_right (2 ^ (p - (i - j - more)).toNat) hh
    rw [Nat.mul_assoc, Nat.mul_assoc (n * c), ← Nat.pow_add, ← Nat.pow_add] at h1
    have e4 : (i + 298).toNat + (p - (i - j - more)).toNat = more + (j + p + 298).toNat := by omega
    rw [e4, Nat.add_comm (j + p + 298).toNat, Nat.pow_add, Nat.pow_add, ← Nat.mul_assoc, ← Nat.mul_assoc] at h1
    have h2 := Nat.le_of_mul_le_mul_right h1 (Nat.two_pow_pos _)
    rwa [Nat.mul_assoc] at h2
  refine NumLe.of (b := i - j - more - 1) (by omega) (by omega) ?_
  rw [Int.sub_self, Int.toNat_zero, Nat.pow_zero, Nat.mul_one]
  rw [show (p - (i - j - more - 1)).toNat = (p - (i - j - more)).toNat + 1 by omega, Nat.pow_succ, ← Nat.mul_assoc]
  generalize c * 2 ^ (p - (i - j - more)).toNat = K at *
  generalize m * 2 ^ more = D at *
  have hn0 : 0 < n := by omega
  have hdm := Nat.div_add_mod D n
  have hq : D / n ≤ K := by
    have := Nat.div_le_div_right (c := n) hDK
    rwa [Nat.mul_div_cancel_left _ hn0] at this
  rcases Nat.lt_or_ge (D / n) K with h1 | h1
  · have : (D % n != 0).toNat ≤ 1 := by cases (D % n != 0) <;> decide
    omega
  · have he : D / n = K := by omega
    rw [he] at hdm ⊢
    have : D % n = 0 := by omega
    rw [this]
    simp
    omega

theorem no_inf {s : Bool} {m : Nat} {i : Int} (g : Bool) (h : FloatKind.f32.format.read (cn .f32 (FloatKind.f32.format.word g FloatKind.f32.format.infRung)) = .number s m i) : False := by
  have hr : FloatKind.f32.format.read (cn .f32 (FloatKind.f32.format.word g FloatKind.f32.format.infRung)) = .infinity g := by cases g <;> decide +kernel
  rw [hr] at h; cases h
theorem fin_quo {a b : Nat} (h : fin .f32 (fb .quo .f32 a b) = true) : fin .f32 a = true := by
  rw [fin_iff] at h ⊢
  obtain ⟨s, m, i, h⟩ := h
  unfold fb floatBits Ieee.Format.div at h
  simp only at h
  have hnan := (read_nan (isNan_nanOf .f32))
  cases ra : FloatKind.f32.format.read a with
  | number s m i => exact ⟨s, m, i, rfl⟩
  | nan s t =>
    rw [ra] at h
    simp only [Ieee.Datum.quotient, Option.map_none, Option.getD_none] at h
    rw [cn_nan (isNan_nanOf _)] at h
    obtain ⟨_, _, h2⟩ := hnan
    rw [h2] at h; cases h
  | infinity s =>
    rw [ra] at h
    cases rb : FloatKind.f32.format.read b with
    | nan s' t =>
      rw [rb] at h
      simp only [Ieee.Datum.quotient, Option.map_none, Option.getD_none] at h
      rw [cn_nan (isNan_nanOf _)] at h
      obtain ⟨_, _, h2⟩ := hnan
      rw [h2] at h; cases h
    | infinity t =>
      rw [rb] at h
      simp only [Ieee.Datum.quotient, Option.map_none, Option.getD_none] at h
      rw [cn_nan (isNan_nanOf _)] at h
      obtain ⟨_, _, h2⟩ := hnan
      rw [h2] at h; cases h
    | number t m' j =>
      rw [rb] at h
      simp only [Ieee.Datum.quotient, Option.map_some, Option.getD_some, Ieee.Format.write] at h
      exfalso
      exact no_inf _ h

theorem fin_add {a b : Nat} (h : fin .f32 (fb .add .f32 a b) = true) : fin .f32 a = true ∧ fin .f32 b = true := by
  rw [fin_iff] at h
  rw [fin_iff, fin_iff]
  obtain ⟨s, m, i, h⟩ := h
  unfold fb floatBits Ieee.Format.add at h
  simp only at h
  obtain ⟨_, _, hnan⟩ := (read_nan (isNan_nanOf .f32))
  have hno : ∀ g : Bool, FloatKind.f32.format.read (cn .f32 (FloatKind.f32.format.write (.infinity g))) ≠ .number s m i := fun g he => no_inf g he
  cases ra : FloatKind.f32.format.read a with
  | number s m i =>
    cases rb : FloatKind.f32.format.read b with
    | number t n j => exact ⟨⟨_, _, _, rfl⟩, ⟨_, _, _, rfl⟩⟩
    | infinity t => rw [ra, rb] at h; exact absurd h (hno _)
    | nan t u =>
      rw [ra, rb] at h
      simp only [Ieee.Datum.sum, Option.map_none, Option.getD_none] at h
      rw [cn_nan (isNan_nanOf _), hnan] at h; cases h
  | nan s t =>
    rw [ra] at h
    simp only [Ieee.Datum.sum, Option.map_none, Option.getD_none] at h
    rw [cn_nan (isNan_nanOf _), hnan] at h; cases h
  | infinity g =>
    rw [ra] at h
    cases rb : FloatKind.f32.format.read b with
    | number t n j => rw [rb] at h; exact absurd h (hno _)
    | nan t u =>
      rw [rb] at h
      simp only [Ieee.Datum.sum, Option.map_none, Option.getD_none] at h
      rw [cn_nan (isNan_nanOf _), hnan] at h; cases h
    | infinity t =>
      rw [rb] at h
      simp only [Ieee.Datum.sum] at h
      split at h
      · exact absurd h (hno _)
      · simp only [Option.map_none, Option.getD_none] at h
        rw [cn_nan (isNan_nanOf _), hnan] at h; cases h

/-- A square that is finite is one of a number, and not negative. -/
theorem fin_sq {a : Nat} (h : fin .f32 (fb .mul .f32 a a) = true) : fin .f32 a = true ∧ Nn (fb .mul .f32 a a) := by
  have hw := wf_fb .mul .f32 a a
  rw [fin_iff] at h
  rw [fin_iff]
  obtain ⟨s, m, i, h⟩ := h
  have h' := h
  unfold fb floatBits Ieee.Format.mul at h
  simp only at h
  obtain ⟨_, _, hnan⟩ := (read_nan (isNan_nanOf .f32))
  cases ra : FloatKind.f32.format.read a with
  | nan s t =>
    rw [ra] at h
    simp only [Ieee.Datum.product, Option.map_none, Option.getD_none] at h
    rw [cn_nan (isNan_nanOf _), hnan] at h; cases h
  | infinity g =>
    rw [ra] at h
    simp only [Ieee.Datum.product, Option.map_some, Option.getD_some, Ieee.Format.write] at h
    exfalso
    exact no_inf _ h
  | number t n j =>
    refine ⟨⟨_, _, _, rfl⟩, ?_⟩
    rw [ra] at h
    simp only [Ieee.Datum.product, Option.map_some, Option.getD_some, Ieee.Format.write] at h
    have e : (t ^^ t) = false := by cases t <;> rfl
    rw [e, nearest_rung, word_false] at h
    have h2 : FloatKind.f32.format.read (min (rungOf F32 (n * n) (j + j)) F32.infRung) = .number s m i := by
      have := cn_min (rungOf F32 (n * n) (j + j))
      rw [this] at h
      exact h
    obtain ⟨k1, _⟩ := read_of_rung (k := .f32) h2
    have k2 : min (rungOf F32 (n * n) (j + j)) F32.infRung / FloatKind.f32.format.signWeight = 0 := by
      apply Nat.div_eq_of_lt
      have h5 : FloatKind.f32.format.signWeight = 2147483648 := f32_sw
      have h6 := Nat.min_le_right (rungOf F32 (n * n) (j + j)) F32.infRung
      rw [f32_inf] at h6
      rw [h5, f32_inf]
      omega
    rw [k2] at k1
    have k3 : s = false := k1
    subst k3
    exact nn_of hw h'

end Go.Proofs.Yteabfkgbakoljaa.Fl
