/-
  The logarithm in 64 bits, as both sides compute it: halving and doubling are exact, and what comes out is small.
-/
import Derived.Test.YteabfkgbakoljaaBd
import Derived.Test.YteabfkgbakoljaaSqrt
namespace Go.Proofs.Yteabfkgbakoljaa.Fl
open Go.RowKit
set_option linter.unusedVariables false

theorem d64_inf : FloatKind.f64.format.infRung = 9218868437227405312 := by decide +kernel
theorem d64_bin : FloatKind.f64.format.binade = 4503599627370496 := by decide +kernel
theorem d64_least : FloatKind.f64.format.leastPlace = -1074 := by decide +kernel
theorem d64_fb : FloatKind.f64.format.fractionBits = 52 := by decide +kernel
theorem rung_num {f : Ieee.Format} {m : Nat} {e : Int} {R : Nat} {b : Int} (h1 : b ≤ e) (h2 : b ≤ placeOf f R) (h : m * 2 ^ (e - b).toNat = magOf f R * 2 ^ (placeOf f R - b).toNat) : rungOf f m e = R := by
  apply Nat.le_antisymm
  · exact rung_le f (NumLe.of h1 h2 (by omega))
  · exact rung_ge f (NumLe.of h2 h1 (by omega))
theorem read_pos {k : FloatKind} {r : Nat} (h : r < k.format.infRung) : k.format.read r = .number false (magOf k.format r) (placeOf k.format r) := by
  have := read_word (k := k) (s := false) h
  rwa [show k.format.word false r = r from rfl] at this
theorem cn_pos {k : FloatKind} {r : Nat} (h : r < k.format.infRung) : cn k r = r := cn_num (num_nan (read_pos h))
theorem cn_nearest {k : FloatKind} {s : Bool} {m : Nat} {e : Int} {R : Nat} (h : rungOf k.format m e = R) (hR : R < k.format.infRung) : cn k (k.format.nearest s m e) = k.format.word s R := by
  rw [nearest_rung, h, Nat.min_eq_left (by omega), cn_num (isNan_word' (by omega))]
theorem pl64 {r : Nat} (h : FloatKind.f64.format.binade ≤ r) : magOf FloatKind.f64.format r = FloatKind.f64.format.binade + r % FloatKind.f64.format.binade ∧ placeOf FloatKind.f64.format r = -1074 + ((r / FloatKind.f64.format.binade - 1 : Nat) : Int) := by
  unfold magOf placeOf
  rw [d64_least, if_neg (by omega), if_neg (by omega)]
  exact ⟨rfl, rfl⟩
theorem two_read : magOf FloatKind.f64.format 4611686018427387904 = FloatKind.f64.format.binade ∧ placeOf FloatKind.f64.format 4611686018427387904 = -51 := by decide +kernel
theorem bin_log : FloatKind.f64.format.binade.log2 = 52 := by decide +kernel
theorem mag_log {s : Nat} (h : s < FloatKind.f64.format.binade) : (FloatKind.f64.format.binade + s).log2 = 52 := by
  have hB := binade_pos FloatKind.f64.format
  have hl1 : FloatKind.f64.format.fractionBits ≤ (FloatKind.f64.format.binade + s).log2 := (Nat.le_log2 (by omega)).2 (Nat.le_add_right _ _)
  have hl2 : (FloatKind.f64.format.binade + s).log2 < FloatKind.f64.format.fractionBits + 1 := (Nat.log2_lt (by omega)).2 (by rw [Nat.pow_succ]; unfold Ieee.Format.binade at *; omega)
  rw [d64_fb] at hl1 hl2
  omega
theorem word_ff (f : Ieee.Format) (x : Nat) : f.word (false ^^ false) x = x := rfl
theorem prodc (M B P : Nat) : M * B * P = M * (P * B) := by rw [Nat.mul_assoc, Nat.mul_comm B]
theorem prod8 (M P : Nat) : 2 * (M * 4) * P = M * (P * 2 ^ 3) := by
  rw [show M * (P * 2 ^ 3) = 8 * (M * P) by rw [show (2 : Nat) ^ 3 = 8 from rfl, ← Nat.mul_assoc, Nat.mul_comm _ 8], Nat.mul_comm M 4, ← Nat.mul_assoc, Nat.mul_assoc _ M P]
theorem mul_read {k : FloatKind} {x y m n : Nat} {s t : Bool} {i j : Int} (rx : k.format.read x = .number s m i) (ry : k.format.read y = .number t n j) : fb .mul k x y = cn k (k.format.nearest (s ^^ t) (m * n) (i + j)) := by
  unfold fb floatBits Ieee.Format.mul
  simp only
  rw [rx, ry]
  simp only [Ieee.Datum.product, Option.map_some, Option.getD_some, Ieee.Format.write]
/-- A number that is not the least is halved. -/
theorem half64' {r : Nat} (h1 : 2 * FloatKind.f64.format.binade ≤ r) (h2 : r < FloatKind.f64.format.infRung) : fb .quo .f64 r 4611686018427387904 = r - FloatKind.f64.format.binade := by
  have hB := binade_pos FloatKind.f64.format
  have rx := read_pos (k := .f64) h2
  have ry := read_pos (k := .f64) (r := 4611686018427387904) (by decide +kernel)
  obtain ⟨m1, p1⟩ := pl64 (r := r) (by omega)
  obtain ⟨m2, p2⟩ := pl64 (r := r - FloatKind.f64.format.binade) (by omega)
  have hn : magOf FloatKind.f64.format 4611686018427387904 ≠ 0 := by rw [two_read.1]; omega
  have hd := Nat.div_eq_sub_div hB (show FloatKind.f64.format.binade ≤ r by omega)
  have hm := Nat.mod_eq_sub_mod (show r ≥ FloatKind.f64.format.binade by omega)
  have hq : 2 ≤ r / FloatKind.f64.format.binade := (Nat.le_div_iff_mul_le hB).2 h1
  have hs := Nat.mod_lt r hB
  rw [← hm] at m2
  rw [show (r - FloatKind.f64.format.binade) / FloatKind.f64.format.binade = r / FloatKind.f64.format.binade - 1 by omega] at p2
  unfold fb floatBits Ieee.Format.div
  simp only
  rw [rx, ry]
  simp only [Ieee.Datum.quotient, if_neg hn, Option.map_some, Option.getD_some, Ieee.Format.write]
  refine Eq.trans (cn_nearest (s := false ^^ false) (R := r - FloatKind.f64.format.binade) ?_ (by omega)) (word_ff _ _)
  rw [two_read.1, two_read.2, m1, p1, mag_log hs, bin_log, d64_fb]
  simp only [Nat.shiftLeft_eq]
  generalize r / FloatKind.f64.format.binade = q at *
  have e1 : (FloatKind.f64.format.binade + r % FloatKind.f64.format.binade) * 2 ^ (52 + 2 + 52 - 52) = (FloatKind.f64.format.binade + r % FloatKind.f64.format.binade) * 4 * FloatKind.f64.format.binade := by
    rw [show (2 : Nat) ^ (52 + 2 + 52 - 52) = 4 * FloatKind.f64.format.binade by decide +kernel, Nat.mul_assoc]
  rw [e1, Nat.mul_div_cancel _ hB, Nat.mul_mod_left]
  refine rung_num (b := -1079) (by omega) (by rw [p2]; omega) ?_
  rw [m2, p2]
  have e2 : (-1074 + ((q - 1 : Nat) : Int) - -51 - ((52 + 2 + 52 - 52 : Nat) : Int) - 1 - -1079).toNat = q := by omega
  have e3 : (-1074 + ((q - 1 - 1 : Nat) : Int) - -1079).toNat = q + 3 := by omega
  rw [e2, e3, Nat.pow_add]
  simp only [bne_self_eq_false, Bool.toNat_false, Nat.add_zero]
  exact prod8 _ _
/-- A number is doubled. -/
theorem dbl64' {r : Nat} (h1 : FloatKind.f64.format.binade ≤ r) (h2 : r + FloatKind.f64.format.binade < FloatKind.f64.format.infRung) : fb .mul .f64 r 4611686018427387904 = r + FloatKind.f64.format.binade := by
  have hB := binade_pos FloatKind.f64.format
  have rx := read_pos (k := .f64) (r := r) (by omega)
  have ry := read_pos (k := .f64) (r := 4611686018427387904) (by decide +kernel)
  obtain ⟨m1, p1⟩ := pl64 (r := r) (by omega)
  obtain ⟨m2, p2⟩ := pl64 (r := r + FloatKind.f64.format.binade) (by omega)
  rw [Nat.add_mod_right] at m2
  rw [Nat.add_div_right _ hB] at p2
  have hq : 1 ≤ r / FloatKind.f64.format.binade := (Nat.le_div_iff_mul_le hB).2 (by omega)
  rw [mul_read rx ry]
  refine Eq.trans (cn_nearest (s := false ^^ false) (R := r + FloatKind.f64.format.binade) ?_ h2) (word_ff _ _)
  rw [two_read.1, two_read.2, m1, p1]
  generalize r / FloatKind.f64.format.binade = q at *
  refine rung_num (b := -1125) (by omega) (by rw [p2]; omega) ?_
  rw [m2, p2]
  have e2 : (-1074 + ((q - 1 : Nat) : Int) + -51 - -1125).toNat = q - 1 := by omega
  have e3 : (-1074 + (((q + 1) - 1 : Nat) : Int) - -1125).toNat = (q - 1) + 52 := by omega
  rw [e2]
  first | rw [e3] | rw [show (-1074 + ((Nat.succ q - 1 : Nat) : Int) - -1125).toNat = (q - 1) + 52 from e3]
  rw [Nat.pow_add, show (2 : Nat) ^ 52 = FloatKind.f64.format.binade by decide +kernel]
  exact prodc _ _ _
theorem half64 {r : Nat} (h1 : 9007199254740992 ≤ r) (h2 : r < 9218868437227405312) : fb .quo .f64 r 4611686018427387904 = r - 4503599627370496 := by
  have := half64' (r := r) (by rw [d64_bin]; omega) (by rw [d64_inf]; exact h2)
  rw [d64_bin] at this
  exact this
theorem dbl64 {r : Nat} (h1 : 4503599627370496 ≤ r) (h2 : r < 9214364837600034816) : fb .mul .f64 r 4611686018427387904 = r + 4503599627370496 := by
  have := dbl64' (r := r) (by rw [d64_bin]; exact h1) (by rw [d64_bin, d64_inf]; omega)
  rw [d64_bin] at this
  exact this
theorem vv_lt {k : FloatKind} {r r' : Nat} (h : r < r') : vv k r < vv k r' := by
  rcases Nat.lt_or_ge (vv k r) (vv k r') with h1 | h1
  · exact h1
  · exfalso
    have h2 : NumLe (magOf k.format r') (placeOf k.format r') (magOf k.format r) (placeOf k.format r) := NumLe.of (b := k.format.leastPlace) (place_ge _ _) (place_ge _ _) h1
    have := rung_mono k.format h2
    rw [rung_read, rung_read] at this
    omega
/-- Numbers that are not negative stand to each other as their words do. -/
theorem order_pos {k : FloatKind} {r q : Nat} (h1 : r < k.format.infRung) (h2 : q < k.format.infRung) : k.format.order r q = some (compare (r : Int) (q : Int)) := by
  rw [order_num (read_pos h1) (read_pos h2) (b := k.format.leastPlace) (place_ge _ _) (place_ge _ _)]
  have hs : ∀ x : Nat, sval false (magOf k.format x) (placeOf k.format x) k.format.leastPlace = ((vv k x : Nat) : Int) := by
    intro x; unfold sval Ieee.signed vv; rw [if_neg (by simp), Nat.shiftLeft_eq]
  rw [hs, hs, compare_int, compare_int]
  congr 1
  rcases Nat.lt_trichotomy r q with h | h | h
  · have := vv_lt (k := k) h
    rw [if_pos (by omega), if_pos (by omega)]
  · subst h; simp
  · have := vv_lt (k := k) h
    rw [if_neg (by omega), if_neg (by omega), if_neg (by omega), if_neg (by omega)]
/-- The binades that are taken off, and what is left. -/
def redE (r : Nat) : Int := ((r : Int) - 4604930618986332160) / 4503599627370496
def redR (r : Nat) : Nat := (((r : Int) - 4604930618986332160) % 4503599627370496).toNat + 4604930618986332160
theorem red_of {r c : Nat} {e : Int} (h : (r : Int) = c + e * 4503599627370496) (h1 : 4604930618986332160 ≤ c) (h2 : c < 4609434218613702656) : redE r = e ∧ redR r = c := by
  unfold redE redR
  have e1 : (r : Int) - 4604930618986332160 = ((c : Int) - 4604930618986332160) + 4503599627370496 * e := by omega
  rw [e1, Int.add_mul_ediv_left _ _ (by decide), Int.add_mul_emod_self_left]
  rw [Int.ediv_eq_zero_of_lt (by omega) (by omega), Int.emod_eq_of_lt (by omega) (by omega)]
  omega
/-- 'q' behind j rounds. -/
def logQ (u : Nat) : Nat → Nat
  | 0 => 0
  | j + 1 => fb .add .f64 (fb .quo .f64 4607182418800017408 (floatOfInt .f64 (25 - 2 * (j : Int)))) (fb .mul .f64 u (logQ u j))
def logS (c : Nat) : Nat := fb .quo .f64 (fb .sub .f64 c 4607182418800017408) (fb .add .f64 c 4607182418800017408)
abbrev ln2 : Nat := 4604418534313441775
/-- The logarithm of a number of 64 bits, which is neither 0 nor less than the least normal one. -/
def logV (r : Nat) : Nat := fb .add .f64 (fb .mul .f64 4611686018427387904 (fb .mul .f64 (logS (redR r)) (logQ (fb .mul .f64 (logS (redR r)) (logS (redR r))) 13))) (fb .mul .f64 (floatOfInt .f64 (redE r)) ln2)
/-- 2 to the n. -/
abbrev pw (n : Nat) : Nat := (1023 + n) * 4503599627370496
theorem ten_steps : ∀ j : Nat, j < 14 → Bd .f64 (pw 0) (fb .quo .f64 4607182418800017408 (floatOfInt .f64 (25 - 2 * (j : Int)))) ∨ 13 ≤ j := by
  intro j hj
  have h : ∀ j : Nat, j < 13 → (fb .quo .f64 4607182418800017408 (floatOfInt .f64 (25 - 2 * ((j : Nat) : Int)))) ≤ pw 0 := by decide +kernel
  rcases Nat.lt_or_ge j 13 with h1 | h1
  · exact .inl ⟨by decide +kernel, false, _, rfl, h j h1⟩
  · exact .inr h1
theorem pow_ok : ∀ n : Nat, n < 14 → vv .f64 (pw 0) + vv .f64 (pw (4 + 5 * n)) ≤ vv .f64 (pw (5 * (n + 1))) ∧ vv .f64 (pw 4) * vv .f64 (pw (5 * n)) ≤ vv .f64 (pw (4 + 5 * n)) * 2 ^ (-FloatKind.f64.format.leastPlace).toNat ∧ pw (4 + 5 * n) < FloatKind.f64.format.infRung ∧ pw (5 * (n + 1)) < FloatKind.f64.format.infRung := by decide +kernel
theorem bd_logQ {u : Nat} (hu : Bd .f64 (pw 4) u) : ∀ j, j ≤ 13 → Bd .f64 (pw (5 * j)) (logQ u j)
  | 0, _ => ⟨by decide +kernel, false, 0, rfl, by decide⟩
  | j + 1, h => by
    rcases ten_steps j (by omega) with h5 | h5
    · obtain ⟨h1, h2, h3, h4⟩ := pow_ok j (by omega)
      exact bd_add h5 (bd_mul hu (bd_logQ hu j (by omega)) h3 h2) h4 h1
    · exact absurd h5 (by omega)
theorem bd_pos {k : FloatKind} {r R : Nat} (h : r ≤ R) (hR : R < k.format.infRung) : Bd k R r := ⟨hR, false, r, rfl, h⟩
theorem lo_one {c : Nat} (h2 : c < 4609434218613702656) : Lo .f64 4607182418800017408 (fb .add .f64 c 4607182418800017408) := by
  have rx := read_pos (k := .f64) (r := c) (by rw [d64_inf]; omega)
  have ry := read_pos (k := .f64) (r := 4607182418800017408) (by rw [d64_inf]; decide)
  have hb := bd_add (k := .f64) (R := pw 2) (bd_pos (k := .f64) (r := c) (R := 4609434218613702656) (by omega) (by decide +kernel)) (bd_pos (k := .f64) (Nat.le_refl 4607182418800017408) (by decide +kernel)) (by decide +kernel) (by decide +kernel)
  have e : fb .add .f64 c 4607182418800017408 = cn .f64 (FloatKind.f64.format.nearest false ((magOf FloatKind.f64.format c * 2 ^ (placeOf FloatKind.f64.format c - min (placeOf FloatKind.f64.format c) (placeOf FloatKind.f64.format 4607182418800017408)).toNat + magOf FloatKind.f64.format 4607182418800017408 * 2 ^ (placeOf FloatKind.f64.format 4607182418800017408 - min (placeOf FloatKind.f64.format c) (placeOf FloatKind.f64.format 4607182418800017408)).toNat)) (min (placeOf FloatKind.f64.format c) (placeOf FloatKind.f64.format 4607182418800017408))) := by
    unfold fb floatBits Ieee.Format.add
    simp only
    rw [rx, ry]
    simp only [Ieee.Datum.sum, Option.map_some, Option.getD_some, Ieee.Format.write]
    have hs : ∀ (m u : Nat), Ieee.signed false m u = ((m * 2 ^ u : Nat) : Int) := by intro m u; unfold Ieee.signed; rw [if_neg (by simp), Nat.shiftLeft_eq]
    rw [hs, hs]
    generalize magOf FloatKind.f64.format c * 2 ^ (placeOf FloatKind.f64.format c - min (placeOf FloatKind.f64.format c) (placeOf FloatKind.f64.format 4607182418800017408)).toNat = A
    generalize magOf FloatKind.f64.format 4607182418800017408 * 2 ^ (placeOf FloatKind.f64.format 4607182418800017408 - min (placeOf FloatKind.f64.format c) (placeOf FloatKind.f64.format 4607182418800017408)).toNat = B
    have : (if ((A : Nat) : Int) + ((B : Nat) : Int) = 0 then false && false else decide (((A : Nat) : Int) + ((B : Nat) : Int) < 0)) = false := by
      split
      · rfl
      · simp only [decide_eq_false_iff_not]; omega
    rw [this, ← Int.natCast_add, Int.natAbs_natCast]
  rw [e] at hb ⊢
  rw [nearest_rung] at hb ⊢
  have hge : 4607182418800017408 ≤ rungOf FloatKind.f64.format (magOf FloatKind.f64.format c * 2 ^ (placeOf FloatKind.f64.format c - min (placeOf FloatKind.f64.format c) (placeOf FloatKind.f64.format 4607182418800017408)).toNat + magOf FloatKind.f64.format 4607182418800017408 * 2 ^ (placeOf FloatKind.f64.format 4607182418800017408 - min (placeOf FloatKind.f64.format c) (placeOf FloatKind.f64.format 4607182418800017408)).toNat) (min (placeOf FloatKind.f64.format c) (placeOf FloatKind.f64.format 4607182418800017408)) := by
    refine rung_ge FloatKind.f64.format (NumLe.of (b := min (placeOf FloatKind.f64.format c) (placeOf FloatKind.f64.format 4607182418800017408)) (by omega) (by omega) ?_)
    rw [Int.sub_self, Int.toNat_zero, Nat.pow_zero, Nat.mul_one]
    exact Nat.le_add_left _ _
  obtain ⟨hR, s, q, hw, hq⟩ := hb
  have hc : cn .f64 (FloatKind.f64.format.word false (min (rungOf FloatKind.f64.format (magOf FloatKind.f64.format c * 2 ^ (placeOf FloatKind.f64.format c - min (placeOf FloatKind.f64.format c) (placeOf FloatKind.f64.format 4607182418800017408)).toNat + magOf FloatKind.f64.format 4607182418800017408 * 2 ^ (placeOf FloatKind.f64.format 4607182418800017408 - min (placeOf FloatKind.f64.format c) (placeOf FloatKind.f64.format 4607182418800017408)).toNat) (min (placeOf FloatKind.f64.format c) (placeOf FloatKind.f64.format 4607182418800017408))) FloatKind.f64.format.infRung)) = min (rungOf FloatKind.f64.format (magOf FloatKind.f64.format c * 2 ^ (placeOf FloatKind.f64.format c - min (placeOf FloatKind.f64.format c) (placeOf FloatKind.f64.format 4607182418800017408)).toNat + magOf FloatKind.f64.format 4607182418800017408 * 2 ^ (placeOf FloatKind.f64.format 4607182418800017408 - min (placeOf FloatKind.f64.format c) (placeOf FloatKind.f64.format 4607182418800017408)).toNat) (min (placeOf FloatKind.f64.format c) (placeOf FloatKind.f64.format 4607182418800017408))) FloatKind.f64.format.infRung :=
    cn_num (isNan_word' (k := .f64) (s := false) (Nat.min_le_right _ _))
  rw [hc] at hw ⊢
  generalize rungOf FloatKind.f64.format (magOf FloatKind.f64.format c * 2 ^ (placeOf FloatKind.f64.format c - min (placeOf FloatKind.f64.format c) (placeOf FloatKind.f64.format 4607182418800017408)).toNat + magOf FloatKind.f64.format 4607182418800017408 * 2 ^ (placeOf FloatKind.f64.format 4607182418800017408 - min (placeOf FloatKind.f64.format c) (placeOf FloatKind.f64.format 4607182418800017408)).toNat) (min (placeOf FloatKind.f64.format c) (placeOf FloatKind.f64.format 4607182418800017408)) = G at *
  refine ⟨min G FloatKind.f64.format.infRung, rfl, Nat.le_min.2 ⟨hge, by decide +kernel⟩, ?_⟩
  have hi := d64_inf
  have hsw : FloatKind.f64.format.signWeight = 9223372036854775808 := by decide +kernel
  unfold Ieee.Format.word at hw
  rw [hsw] at hw
  split at hw
  · omega
  · omega
theorem bd_logS {c : Nat} (h2 : c < 4609434218613702656) : Bd .f64 (pw 2) (logS c) := by
  have hs : Bd .f64 (pw 2) (fb .sub .f64 c 4607182418800017408) := bd_sub (bd_pos (R := 4609434218613702656) (by omega) (by decide +kernel)) (bd_pos (Nat.le_refl 4607182418800017408) (by decide +kernel)) (by decide +kernel) (by decide +kernel)
  exact bd_quo hs (lo_one h2) (by decide +kernel) (by decide +kernel) (by decide +kernel)
theorem int_steps : ∀ j : Nat, j < 2200 → floatOfInt .f64 ((j : Nat) : Int) ≤ pw 12 ∧ floatOfInt .f64 (-((j : Nat) : Int)) = FloatKind.f64.format.word (decide (0 < j)) (floatOfInt .f64 ((j : Nat) : Int)) := by decide +kernel
theorem bd_int {e : Int} (h1 : -2200 < e) (h2 : e < 2200) : Bd .f64 (pw 12) (floatOfInt .f64 e) := by
  rcases Int.eq_nat_or_neg e with ⟨j, rfl | rfl⟩
  · exact bd_pos (int_steps j (by omega)).1 (by decide +kernel)
  · have h := int_steps j (by omega)
    rw [h.2]
    exact ⟨by decide +kernel, _, _, rfl, h.1⟩
/-- The logarithm is a number below 2 to the 80. -/
theorem bd_log {r : Nat} (h : r < 9218868437227405312) : Bd .f64 (pw 80) (logV r) := by
  have hc : redR r < 4609434218613702656 := by unfold redR; have := Int.emod_lt_of_pos ((r : Int) - 4604930618986332160) (show (0 : Int) < 4503599627370496 by decide); have := Int.emod_nonneg ((r : Int) - 4604930618986332160) (show (4503599627370496 : Int) ≠ 0 by decide); omega
  have hs := bd_logS hc
  have hu : Bd .f64 (pw 4) (fb .mul .f64 (logS (redR r)) (logS (redR r))) := bd_mul hs hs (by decide +kernel) (by decide +kernel)
  have hq := bd_logQ hu 13 (Nat.le_refl _)
  have h1 : Bd .f64 (pw 67) (fb .mul .f64 (logS (redR r)) (logQ (fb .mul .f64 (logS (redR r)) (logS (redR r))) 13)) := bd_mul hs hq (by decide +kernel) (by decide +kernel)
  have h2 : Bd .f64 (pw 68) (fb .mul .f64 4611686018427387904 _) := bd_mul (bd_pos (R := 4611686018427387904) (Nat.le_refl _) (by decide +kernel)) h1 (by decide +kernel) (by decide +kernel)
  have he : Bd .f64 (pw 12) (floatOfInt .f64 (redE r)) := bd_int (by unfold redE; omega) (by unfold redE; omega)
  have h3 : Bd .f64 (pw 13) (fb .mul .f64 (floatOfInt .f64 (redE r)) ln2) := bd_mul he (bd_pos (R := pw 0) (by decide) (by decide +kernel)) (by decide +kernel) (by decide +kernel)
  exact bd_add h2 h3 (by decide +kernel) (by decide +kernel)
theorem narOk_bd {z : Nat} (h : Bd .f64 (pw 80) z) : narOk z := by
  obtain ⟨s, r, hz, hr⟩ := h.read
  refine narOk_num hz ?_
  by_cases h0 : magOf FloatKind.f64.format r = 0
  · rw [show magOf FloatKind.f64.format r = 0 from h0]
    have hlt : r = 0 := mag_zero h0
    subst hlt
    decide +kernel
  · have := rung_log FloatKind.f64.format (R := pw 80) (a := 52) (j := 28) (by decide +kernel) (by decide +kernel) hr h0
    omega
/-- The logarithm of 32 bits. -/
theorem int_next : ∀ j : Nat, j < 2200 → fb .add .f64 (floatOfInt .f64 ((j : Nat) : Int)) 4607182418800017408 = floatOfInt .f64 ((j : Nat) + 1 : Int) ∧ fb .sub .f64 (floatOfInt .f64 (-((j : Nat) : Int))) 4607182418800017408 = floatOfInt .f64 (-((j : Nat) : Int) - 1) := by decide +kernel
theorem ks_next : ∀ j : Nat, j < 13 → fb .sub .f64 (floatOfInt .f64 (25 - 2 * ((j : Nat) : Int))) 4611686018427387904 = floatOfInt .f64 (23 - 2 * ((j : Nat) : Int)) := by decide +kernel
end Go.Proofs.Yteabfkgbakoljaa.Fl
