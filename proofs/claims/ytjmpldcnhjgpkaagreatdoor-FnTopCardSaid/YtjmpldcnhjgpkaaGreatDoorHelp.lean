/-
  Sums, products and quotients of 32-bit numbers that are not negative: bounds that need no error.
-/
import Derived.Test.YtjmpldcnhjgpkaaGreatDoorBd
import Derived.Test.YtjmpldcnhjgpkaaGreatDoorOps
import Derived.Test.YtjmpldcnhjgpkaaGreatDoorLogP
import Derived.Test.YtjmpldcnhjgpkaaGreatDoorChecked
import Derived.WalkKit
import Derived.Below
import Derived.Laws.OwnMore
import Derived.Deep.AppendLies
import Derived.Deep.Draws
import Derived.Laws.Rows
import Derived.Laws.MakeOwn
import Derived.Laws.Entries
import Derived.Maps.AppendAt
import Derived.RegionTactic
import Derived.OwnWalk
import Derived.Lib.Hide
import Derived.WalkLawsBesides
import Derived.WalkSpells
import Derived.BigQuiet
import Derived.Deep.RegionWith
import Derived.Deep.QuietTactic
namespace Go.Proofs.YtjmpldcnhjgpkaaGreatDoor.Fl
open Go.RowKit
set_option linter.unusedVariables false

/-- The format of 32-bit numbers. -/
abbrev F32 : Ieee.Format := FloatKind.f32.format
theorem f32_inf : F32.infRung = 2139095040 := by decide +kernel
theorem f32_sw : F32.signWeight = 2147483648 := by decide +kernel
theorem f32_bin : F32.binade = 8388608 := by decide +kernel
theorem f32_least : F32.leastPlace = -149 := by decide +kernel

/-- A word that is a number and not negative. -/
def Nn (x : Nat) : Prop := x < 2139095040
/-- The number of a rung, in units of the least one. -/
def iv (r : Nat) : Nat := magOf F32 r * 2 ^ (placeOf F32 r + 149).toNat

theorem pl_ge (r : Nat) : -149 ≤ placeOf F32 r := by have := place_ge F32 r; rw [f32_least] at this; exact this
theorem mag_lt (r : Nat) : magOf F32 r < 16777216 := by
  unfold magOf
  rw [f32_bin]
  split
  · omega
  · have := Nat.mod_lt r (show 0 < 8388608 by omega); omega
theorem nn_read {x : Nat} (h : Nn x) : F32.read x = .number false (magOf F32 x) (placeOf F32 x) := by
  have := read_word (k := .f32) (s := false) (r := x) (by show x < F32.infRung; rw [f32_inf]; exact h)
  exact this
theorem nn_wf {x : Nat} (h : Nn x) : Wf .f32 x := by
  unfold Wf
  have hw : 2 ^ FloatKind.f32.format.width = 4294967296 := by decide +kernel
  rw [hw]; unfold Nn at h; omega
theorem nn_nan {x : Nat} (h : Nn x) : isNan .f32 x = false := num_nan (nn_read h)
theorem nn_fin {x : Nat} (h : Nn x) : fin .f32 x = true := (fin_iff .f32 x).2 ⟨_, _, _, nn_read h⟩
theorem nn_of {x m : Nat} {i : Int} (hw : Wf .f32 x) (h : F32.read x = .number false m i) : Nn x := by
  obtain ⟨h1, h2, _, _⟩ := read_of_rung (k := .f32) h
  have h3 := wf_word hw
  rw [← h1] at h3
  have h4 : FloatKind.f32.format.infRung = 2139095040 := f32_inf
  rw [h4] at h2
  unfold Nn
  unfold Ieee.Format.word at h3
  rw [if_neg (by simp)] at h3
  omega

theorem numle_iv {m n : Nat} {e j : Int} (he : -149 ≤ e) (hj : -149 ≤ j) : NumLe m e n j ↔ m * 2 ^ (e + 149).toNat ≤ n * 2 ^ (j + 149).toNat := by
  constructor
  · intro h
    have := h.at_ (b := -149) he hj
    rwa [show e - -149 = e + 149 by omega, show j - -149 = j + 149 by omega] at this
  · intro h
    refine NumLe.of (b := -149) he hj ?_
    rwa [show e - -149 = e + 149 by omega, show j - -149 = j + 149 by omega]
theorem iv_le {r r' : Nat} : r ≤ r' ↔ iv r ≤ iv r' := by
  constructor
  · intro h
    exact (numle_iv (pl_ge _) (pl_ge _)).1 (numle_of_rung F32 h)
  · intro h
    have := rung_mono F32 ((numle_iv (pl_ge r) (pl_ge r')).2 h)
    rwa [rung_read, rung_read] at this
theorem iv_lt {r r' : Nat} : r < r' ↔ iv r < iv r' := by have := @iv_le r' r; omega

/-- The rung of what is told in units of 2 ^ e. -/
theorem rung_up {m C : Nat} {e : Int} {b : Nat} (hb : (b : Int) = -149 - e) (h : m ≤ iv C * 2 ^ b) : rungOf F32 m e ≤ C := by
  refine rung_le F32 (NumLe.of (b := e) (by omega) (by have := pl_ge C; omega) ?_)
  rw [Int.sub_self, Int.toNat_zero, Nat.pow_zero, Nat.mul_one]
  refine Nat.le_trans h ?_
  unfold iv
  rw [Nat.mul_assoc, ← Nat.pow_add]
  have := pl_ge C
  rw [show (placeOf F32 C + 149).toNat + b = (placeOf F32 C - e).toNat by omega]
  exact Nat.le_refl _
theorem rung_dn {m C : Nat} {e : Int} {b : Nat} (hb : (b : Int) = -149 - e) (h : iv C * 2 ^ b ≤ m) : C ≤ rungOf F32 m e := by
  refine rung_ge F32 (NumLe.of (b := e) (by have := pl_ge C; omega) (by omega) ?_)
  rw [Int.sub_self, Int.toNat_zero, Nat.pow_zero, Nat.mul_one]
  refine Nat.le_trans ?_ h
  unfold iv
  rw [Nat.mul_assoc, ← Nat.pow_add]
  have := pl_ge C
  rw [show (placeOf F32 C + 149).toNat + b = (placeOf F32 C - e).toNat by omega]
  exact Nat.le_refl _

theorem word_false (f : Ieee.Format) (r : Nat) : f.word false r = r := rfl
theorem cn_min (r : Nat) : cn .f32 (min r F32.infRung) = min r F32.infRung := by
  rw [← word_false F32 (min r F32.infRung)]
  exact cn_num (isNan_word' (Nat.min_le_right _ _))

theorem rung_same {m n : Nat} {e j : Int} {b : Int} (h1 : b ≤ e) (h2 : b ≤ j) (h : m * 2 ^ (e - b).toNat = n * 2 ^ (j - b).toNat) : rungOf F32 m e = rungOf F32 n j := by
  apply Nat.le_antisymm
  · exact rung_mono F32 (NumLe.of h1 h2 (by omega))
  · exact rung_mono F32 (NumLe.of h2 h1 (by omega))

theorem fb_add_nn {x y : Nat} (hx : Nn x) (hy : Nn y) : fb .add .f32 x y = min (rungOf F32 (iv x + iv y) (-149)) F32.infRung := by
  have rx := nn_read hx
  have ry := nn_read hy
  unfold fb floatBits Ieee.Format.add
  simp only
  rw [rx, ry]
  simp only [Ieee.Datum.sum, Option.map_some, Option.getD_some, Ieee.Format.write]
  have px := pl_ge x
  have py := pl_ge y
  have hs : ∀ (m u : Nat), Ieee.signed false m u = ((m * 2 ^ u : Nat) : Int) := by intro m u; unfold Ieee.signed; rw [if_neg (by simp), Nat.shiftLeft_eq]
  rw [hs, hs]
  have hsg : (if (((magOf F32 x * 2 ^ (placeOf F32 x - min (placeOf F32 x) (placeOf F32 y)).toNat : Nat) : Int) + ((magOf F32 y * 2 ^ (placeOf F32 y - min (placeOf F32 x) (placeOf F32 y)).toNat : Nat) : Int) = 0) then false && false
      else decide ((((magOf F32 x * 2 ^ (placeOf F32 x - min (placeOf F32 x) (placeOf F32 y)).toNat : Nat) : Int) + ((magOf F32 y * 2 ^ (placeOf F32 y - min (placeOf F32 x) (placeOf F32 y)).toNat : Nat) : Int)) < 0)) = false := by
    split
    · rfl
    · simp only [decide_eq_false_iff_not]; omega
  rw [hsg, nearest_rung, word_false, cn_min]
  congr 1
  rw [← Int.natCast_add, Int.natAbs_natCast]
  refine rung_same (b := -149) (by omega) (by omega) ?_
  rw [Int.sub_self, Int.toNat_zero, Nat.pow_zero, Nat.mul_one]
  unfold iv
  rw [Nat.add_mul, Nat.mul_assoc, Nat.mul_assoc, ← Nat.pow_add, ← Nat.pow_add]
  rw [show (placeOf F32 x - min (placeOf F32 x) (placeOf F32 y)).toNat + (min (placeOf F32 x) (placeOf F32 y) - -149).toNat = (placeOf F32 x + 149).toNat by omega]
  rw [show (placeOf F32 y - min (placeOf F32 x) (placeOf F32 y)).toNat + (min (placeOf F32 x) (placeOf F32 y) - -149).toNat = (placeOf F32 y + 149).toNat by omega]

theorem fb_mul_nn {x y : Nat} (hx : Nn x) (hy : Nn y) : fb .mul .f32 x y = min (rungOf F32 (iv x * iv y) (-298)) F32.infRung := by
  have rx := nn_read hx
  have ry := nn_read hy
  unfold fb floatBits Ieee.Format.mul
  simp only
  rw [rx, ry]
  simp only [Ieee.Datum.product, Option.map_some, Option.getD_some, Ieee.Format.write]
  have px := pl_ge x
  have py := pl_ge y
  rw [show (false ^^ false) = false from rfl, nearest_rung, word_false, cn_min]
  congr 1
  refine rung_same (b := -298) (by omega) (by omega) ?_
  rw [Int.sub_self, Int.toNat_zero, Nat.pow_zero, Nat.mul_one]
  unfold iv
  rw [show (placeOf F32 x + placeOf F32 y - -298).toNat = (placeOf F32 x + 149).toNat + (placeOf F32 y + 149).toNat by omega, Nat.pow_add]
  ac_rfl

theorem add_up {x y C : Nat} (hx : Nn x) (hy : Nn y) (h : iv x + iv y ≤ iv C) : fb .add .f32 x y ≤ C := by
  rw [fb_add_nn hx hy]
  exact Nat.le_trans (Nat.min_le_left _ _) (rung_up (b := 0) (by omega) (by simpa using h))
theorem add_dn {x y C : Nat} (hx : Nn x) (hy : Nn y) (hC : C ≤ 2139095040) (h : iv C ≤ iv x + iv y) : C ≤ fb .add .f32 x y := by
  rw [fb_add_nn hx hy]
  exact Nat.le_min.2 ⟨rung_dn (b := 0) (by omega) (by simpa using h), by rw [f32_inf]; exact hC⟩
theorem mul_up {x y C : Nat} (hx : Nn x) (hy : Nn y) (h : iv x * iv y ≤ iv C * 2 ^ 149) : fb .mul .f32 x y ≤ C := by
  rw [fb_mul_nn hx hy]
  exact Nat.le_trans (Nat.min_le_left _ _) (rung_up (b := 149) (by omega) h)
theorem mul_dn {x y C : Nat} (hx : Nn x) (hy : Nn y) (hC : C ≤ 2139095040) (h : iv C * 2 ^ 149 ≤ iv x * iv y) : C ≤ fb .mul .f32 x y := by
  rw [fb_mul_nn hx hy]
  exact Nat.le_min.2 ⟨rung_dn (b := 149) (by omega) h, by rw [f32_inf]; exact hC⟩

theorem log_lo {m : Nat} (h : m ≠ 0) : 2 ^ m.log2 ≤ m := Nat.log2_self_le h
theorem log_hi (m : Nat) : m < 2 ^ (m.log2 + 1) := Nat.lt_log2_self

theorem quo_up {x y C : Nat} (hx : Nn x) (hy : Nn y) (h0 : iv y ≠ 0) (h : iv x * 2 ^ 149 ≤ iv y * iv C) : fb .quo .f32 x y ≤ C := by
  have rx := nn_read hx
  have ry := nn_read hy
  have px := pl_ge x
  have py := pl_ge y
  have pc := pl_ge C
  have mc := mag_lt C
  have hn : magOf F32 y ≠ 0 := by intro e; apply h0; unfold iv; rw [e, Nat.zero_mul]
  unfold fb floatBits Ieee.Format.div
  simp only
  rw [rx, ry]
  simp only [Ieee.Datum.quotient, if_neg hn, Option.map_some, Option.getD_some, Ieee.Format.write]
  rw [show (false ^^ false) = false from rfl, nearest_rung, word_false]
  have hd : FloatKind.f32.format.fractionBits + 2 = 25 := by decide +kernel
  rw [hd]
  unfold iv at h
  generalize hm' : magOf F32 x = m at *
  generalize magOf F32 y = n at *
  generalize placeOf F32 x = i at *
  generalize placeOf F32 y = j at *
  show cn .f32 (min (rungOf F32 _ _) F32.infRung) ≤ C
  rw [cn_min]
  refine Nat.le_trans (Nat.min_le_left _ _) ?_
  generalize hc : magOf F32 C = c at *
  generalize hp : placeOf F32 C = p at *
  by_cases hm : m = 0
  · subst hm
    rw [show (0 : Nat) <<< (25 + n.log2 - Nat.log2 0) = 0 by simp]
    rw [Nat.zero_div, Nat.zero_mod]
    unfold rungOf
    rw [if_pos (by decide)]
    omega
  refine rung_le F32 ?_
  rw [hc, hp]
  rw [Nat.shiftLeft_eq]
  generalize hmore : 25 + n.log2 - m.log2 = more at *
  have l1 := log_lo hm
  have l2 := log_hi n
  have hD : 2 ^ (25 + n.log2) ≤ m * 2 ^ more := by
    refine Nat.le_trans ?_ (Nat.mul_le_mul_right _ l1)
    rw [← Nat.pow_add]
    exact Nat.pow_le_pow_right (by omega) (by omega)
  -- both sides in whole numbers
  have hh : m * 2 ^ (i + 298).toNat ≤ n * c * 2 ^ (j + p + 298).toNat := by
    have e1 : m * 2 ^ (i + 149).toNat * 2 ^ 149 = m * 2 ^ (i + 298).toNat := by rw [Nat.mul_assoc, ← Nat.pow_add]; congr 2; omega
    have e2 : n * 2 ^ (j + 149).toNat * (c * 2 ^ (p + 149).toNat) = n * c * 2 ^ (j + p + 298).toNat := by
      rw [show (j + p + 298).toNat = (j + 149).toNat + (p + 149).toNat by omega, Nat.pow_add]; ac_rfl
    rw [e1, e2] at h
    exact h
  have hge : i - j - more ≤ p := by
    rcases Int.lt_or_le p (i - j - more) with hlt | hge
    · exfalso
      have e3 : (i + 298).toNat = (j + p + 298).toNat + ((i - j - p).toNat) := by omega
      rw [e3, Nat.pow_add, Nat.mul_comm (2 ^ _) (2 ^ _), ← Nat.mul_assoc] at hh
      have h1 := Nat.le_of_mul_le_mul_right hh (Nat.two_pow_pos _)
      have h2 : m * 2 ^ (more + 1) ≤ m * 2 ^ (i - j - p).toNat := Nat.mul_le_mul_left _ (Nat.pow_le_pow_right (by omega) (by omega))
      have h3 : n * c ≤ 2 ^ (n.log2 + 1) * 16777216 := Nat.mul_le_mul (by omega) (by omega)
      have h4 : 2 ^ (n.log2 + 1) * 16777216 = 2 ^ (25 + n.log2) := by rw [show (16777216 : Nat) = 2 ^ 24 by decide, ← Nat.pow_add]; congr 1; omega
      have h5 : m * 2 ^ (more + 1) = 2 * (m * 2 ^ more) := by rw [Nat.pow_succ, ← Nat.mul_assoc]; omega
      have h6 : 0 < 2 ^ (25 + n.log2) := Nat.two_pow_pos _
      omega
    · exact hge
  have hDK : m * 2 ^ more ≤ n * (c * 2 ^ (p - (i - j - more)).toNat) := by
    have h1 := Nat.mul_le_mul_right (2 ^ (p - (i - j - more)).toNat) hh
    rw [Nat.mul_assoc, Nat.mul_assoc (n * c), ← Nat.pow_add, ← Nat.pow_add] at h1
    have e4 : (i + 298).toNat + (p - (i - j - more)).toNat = more + (j + p + 298).toNat := by omega
    rw [e4, Nat.add_comm (j + p + 298).toNat, Nat.pow_add, Nat.pow_add, ← Nat.mul_assoc, ← Nat.mul_assoc] at h1
    have h2 := Nat.le_of_mul_le_mul_right h1 (Nat.two_pow_pos _)
    rwa [Nat.mul_assoc] at h2
  refine NumLe.of (b := i - j - more - 1) (by omega) (by omega) ?_
  rw [Int.sub_self, Int.toNat_zero, Nat.pow_zero, Nat.mul_one]
  rw [show (p - (i - j - more - 1)).toNat = (p - (i - j - more)).toNat + 1 by omega, Nat.pow_succ, ← Nat.mul_assoc]
  generalize c * 2 ^ (p - (i - j - more)).toNat = K at *
  generalize m * 2 ^ more = D at *
  have hn0 : 0 < n := by omega
  have hdm := Nat.div_add_mod D n
  have hq : D / n ≤ K := by
    have := Nat.div_le_div_right (c := n) hDK
    rwa [Nat.mul_div_cancel_left _ hn0] at this
  rcases Nat.lt_or_ge (D / n) K with h1 | h1
  · have : (D % n != 0).toNat ≤ 1 := by cases (D % n != 0) <;> decide
    omega
  · have he : D / n = K := by omega
    rw [he] at hdm ⊢
    have : D % n = 0 := by omega
    rw [this]
    simp
    omega

theorem no_inf {s : Bool} {m : Nat} {i : Int} (g : Bool) (h : FloatKind.f32.format.read (cn .f32 (FloatKind.f32.format.word g FloatKind.f32.format.infRung)) = .number s m i) : False := by
  have hr : FloatKind.f32.format.read (cn .f32 (FloatKind.f32.format.word g FloatKind.f32.format.infRung)) = .infinity g := by cases g <;> decide +kernel
  rw [hr] at h; cases h
theorem fin_quo {a b : Nat} (h : fin .f32 (fb .quo .f32 a b) = true) : fin .f32 a = true := by
  rw [fin_iff] at h ⊢
  obtain ⟨s, m, i, h⟩ := h
  unfold fb floatBits Ieee.Format.div at h
  simp only at h
  have hnan := (read_nan (isNan_nanOf .f32))
  cases ra : FloatKind.f32.format.read a with
  | number s m i => exact ⟨s, m, i, rfl⟩
  | nan s t =>
    rw [ra] at h
    simp only [Ieee.Datum.quotient, Option.map_none, Option.getD_none] at h
    rw [cn_nan (isNan_nanOf _)] at h
    obtain ⟨_, _, h2⟩ := hnan
    rw [h2] at h; cases h
  | infinity s =>
    rw [ra] at h
    cases rb : FloatKind.f32.format.read b with
    | nan s' t =>
      rw [rb] at h
      simp only [Ieee.Datum.quotient, Option.map_none, Option.getD_none] at h
      rw [cn_nan (isNan_nanOf _)] at h
      obtain ⟨_, _, h2⟩ := hnan
      rw [h2] at h; cases h
    | infinity t =>
      rw [rb] at h
      simp only [Ieee.Datum.quotient, Option.map_none, Option.getD_none] at h
      rw [cn_nan (isNan_nanOf _)] at h
      obtain ⟨_, _, h2⟩ := hnan
      rw [h2] at h; cases h
    | number t m' j =>
      rw [rb] at h
      simp only [Ieee.Datum.quotient, Option.map_some, Option.getD_some, Ieee.Format.write] at h
      exfalso
      exact no_inf _ h

theorem fin_add {a b : Nat} (h : fin .f32 (fb .add .f32 a b) = true) : fin .f32 a = true ∧ fin .f32 b = true := by
  rw [fin_iff] at h
  rw [fin_iff, fin_iff]
  obtain ⟨s, m, i, h⟩ := h
  unfold fb floatBits Ieee.Format.add at h
  simp only at h
  obtain ⟨_, _, hnan⟩ := (read_nan (isNan_nanOf .f32))
  have hno : ∀ g : Bool, FloatKind.f32.format.read (cn .f32 (FloatKind.f32.format.write (.infinity g))) ≠ .number s m i := fun g he => no_inf g he
  cases ra : FloatKind.f32.format.read a with
  | number s m i =>
    cases rb : FloatKind.f32.format.read b with
    | number t n j => exact ⟨⟨_, _, _, rfl⟩, ⟨_, _, _, rfl⟩⟩
    | infinity t => rw [ra, rb] at h; exact absurd h (hno _)
    | nan t u =>
      rw [ra, rb] at h
      simp only [Ieee.Datum.sum, Option.map_none, Option.getD_none] at h
      rw [cn_nan (isNan_nanOf _), hnan] at h; cases h
  | nan s t =>
    rw [ra] at h
    simp only [Ieee.Datum.sum, Option.map_none, Option.getD_none] at h
    rw [cn_nan (isNan_nanOf _), hnan] at h; cases h
  | infinity g =>
    rw [ra] at h
    cases rb : FloatKind.f32.format.read b with
    | number t n j => rw [rb] at h; exact absurd h (hno _)
    | nan t u =>
      rw [rb] at h
      simp only [Ieee.Datum.sum, Option.map_none, Option.getD_none] at h
      rw [cn_nan (isNan_nanOf _), hnan] at h; cases h
    | infinity t =>
      rw [rb] at h
      simp only [Ieee.Datum.sum] at h
      split at h
      · exact absurd h (hno _)
      · simp only [Option.map_none, Option.getD_none] at h
        rw [cn_nan (isNan_nanOf _), hnan] at h; cases h

/-- A square that is finite is one of a number, and not negative. -/
theorem fin_sq {a : Nat} (h : fin .f32 (fb .mul .f32 a a) = true) : fin .f32 a = true ∧ Nn (fb .mul .f32 a a) := by
  have hw := wf_fb .mul .f32 a a
  rw [fin_iff] at h
  rw [fin_iff]
  obtain ⟨s, m, i, h⟩ := h
  have h' := h
  unfold fb floatBits Ieee.Format.mul at h
  simp only at h
  obtain ⟨_, _, hnan⟩ := (read_nan (isNan_nanOf .f32))
  cases ra : FloatKind.f32.format.read a with
  | nan s t =>
    rw [ra] at h
    simp only [Ieee.Datum.product, Option.map_none, Option.getD_none] at h
    rw [cn_nan (isNan_nanOf _), hnan] at h; cases h
  | infinity g =>
    rw [ra] at h
    simp only [Ieee.Datum.product, Option.map_some, Option.getD_some, Ieee.Format.write] at h
    exfalso
    exact no_inf _ h
  | number t n j =>
    refine ⟨⟨_, _, _, rfl⟩, ?_⟩
    rw [ra] at h
    simp only [Ieee.Datum.product, Option.map_some, Option.getD_some, Ieee.Format.write] at h
    have e : (t ^^ t) = false := by cases t <;> rfl
    rw [e, nearest_rung, word_false] at h
    have h2 : FloatKind.f32.format.read (min (rungOf F32 (n * n) (j + j)) F32.infRung) = .number s m i := by
      have := cn_min (rungOf F32 (n * n) (j + j))
      rw [this] at h
      exact h
    obtain ⟨k1, _⟩ := read_of_rung (k := .f32) h2
    have k2 : min (rungOf F32 (n * n) (j + j)) F32.infRung / FloatKind.f32.format.signWeight = 0 := by
      apply Nat.div_eq_of_lt
      have h5 : FloatKind.f32.format.signWeight = 2147483648 := f32_sw
      have h6 := Nat.min_le_right (rungOf F32 (n * n) (j + j)) F32.infRung
      rw [f32_inf] at h6
      rw [h5, f32_inf]
      omega
    rw [k2] at k1
    have k3 : s = false := k1
    subst k3
    exact nn_of hw h'

end Go.Proofs.YtjmpldcnhjgpkaaGreatDoor.Fl

/-
  The logarithm: facts for the walks.
-/
namespace Go.Proofs.YtjmpldcnhjgpkaaGreatDoor.Fl
open Go.RowKit
set_option linter.unusedVariables false

/-- A result that is exact is the very word. -/
theorem flR_pos {op : BinOp} {k : FloatKind} {x y r : Nat} (h : fb op k x y = r) (hr : r < k.format.infRung) (w : World) : flR op k x y w = r := by
  have h1 := cn_flR op k x y w
  rw [h] at h1
  exact (eq_of_cn (k := k) (a := r) (by rw [cn_pos hr, h1]) (num_nan (read_pos hr))).symm
theorem ge_pos {k : FloatKind} {c q : Nat} (hc : c < k.format.infRung) (hq : q < k.format.infRung) : (k.format.order c q == some .gt || k.format.order c q == some .eq) = decide (q ≤ c) := by
  rw [order_pos hc hq, compare_int]
  rcases Nat.lt_trichotomy c q with h | h | h
  · rw [if_pos (by omega), decide_eq_false (by omega)]; rfl
  · subst h; rw [if_neg (by omega), if_pos rfl, decide_eq_true (Nat.le_refl _)]; rfl
  · rw [if_neg (by omega), if_neg (by omega), decide_eq_true (by omega)]; rfl
theorem lt_pos {k : FloatKind} {c q : Nat} (hc : c < k.format.infRung) (hq : q < k.format.infRung) : (k.format.order c q == some .lt) = decide (c < q) := by
  rw [order_pos hc hq, compare_int]
  rcases Nat.lt_trichotomy c q with h | h | h
  · rw [if_pos (by omega), decide_eq_true h]; rfl
  · subst h; rw [if_neg (by omega), if_pos rfl, decide_eq_false (Nat.lt_irrefl _)]; rfl
  · rw [if_neg (by omega), if_neg (by omega), decide_eq_false (by omega)]; rfl
theorem half64x {c : Nat} (h1 : 9007199254740992 ≤ c) (h2 : c < 9218868437227405312) : ∃ c', c = c' + 4503599627370496 ∧ fb .quo .f64 c 4611686018427387904 = c' := ⟨c - 4503599627370496, by omega, half64 h1 h2⟩
theorem dbl64x {c : Nat} (h1 : 4503599627370496 ≤ c) (h2 : c < 9214364837600034816) : ∃ c', c' = c + 4503599627370496 ∧ fb .mul .f64 c 4611686018427387904 = c' := ⟨c + 4503599627370496, rfl, dbl64 h1 h2⟩
theorem e_zero : (0 : Nat) = floatOfInt .f64 ((0 : Nat) : Int) := by decide +kernel
theorem k_zero : (4627730092099895296 : Nat) = floatOfInt .f64 (25 - 2 * ((0 : Nat) : Int)) := by decide +kernel
theorem q_zero (U : Nat) : cn .f64 0 = logQ U 0 := by
  have : cn .f64 0 = 0 := by decide +kernel
  exact this
theorem ks_ge : ∀ j : Nat, j < 14 → (FloatKind.f64.format.order (floatOfInt .f64 (25 - 2 * ((j : Nat) : Int))) 4607182418800017408 == some .gt || FloatKind.f64.format.order (floatOfInt .f64 (25 - 2 * ((j : Nat) : Int))) 4607182418800017408 == some .eq) = decide (j < 13) := by decide +kernel
theorem ks_fin : ∀ j : Nat, j < 13 → floatOfInt .f64 (23 - 2 * ((j : Nat) : Int)) = FloatKind.f64.format.word (decide (11 < j)) (floatOfInt .f64 (23 - 2 * ((j : Nat) : Int)) % 9223372036854775808) ∧ floatOfInt .f64 (23 - 2 * ((j : Nat) : Int)) % 9223372036854775808 < FloatKind.f64.format.infRung := by decide +kernel
theorem flR_bd {op : BinOp} {k : FloatKind} {x y r : Nat} (h : fb op k x y = r) (hr : isNan k r = false) (w : World) : flR op k x y w = r := by
  have h1 := cn_flR op k x y w
  rw [h] at h1
  exact (eq_of_cn (k := k) (a := r) (by rw [cn_num hr, h1]) hr).symm
def kM (b : Nat) : Nat := if b < 9223372036854775808 then b + 1 else 0
theorem km_dec : ∀ j : Nat, j < 13 → kM (floatOfInt .f64 (25 - 2 * ((j + 1 : Nat) : Int))) < kM (floatOfInt .f64 (25 - 2 * ((j : Nat) : Int))) := by decide +kernel
theorem ks_nan : ∀ j : Nat, j < 14 → isNan .f64 (floatOfInt .f64 (25 - 2 * ((j : Nat) : Int))) = false := by decide +kernel
theorem ks_step {j : Nat} (h : j < 13) (w : World) : flR .sub .f64 (floatOfInt .f64 (25 - 2 * ((j : Nat) : Int))) 4611686018427387904 w = floatOfInt .f64 (25 - 2 * ((j + 1 : Nat) : Int)) := by
  have e : (23 : Int) - 2 * (j : Int) = 25 - 2 * ((j + 1 : Nat) : Int) := by omega
  exact flR_bd (by rw [ks_next j h, e]) (ks_nan (j + 1) (by omega)) w
theorem int_nan (e : Int) : isNan .f64 (floatOfInt .f64 e) = false := isNan_nearest' _ _ _ _
theorem e_up {j : Nat} (h : j < 2200) (w : World) : flR .add .f64 (floatOfInt .f64 ((j : Nat) : Int)) 4607182418800017408 w = floatOfInt .f64 ((j + 1 : Nat) : Int) := by
  have e : ((j : Int) + 1) = ((j + 1 : Nat) : Int) := by omega
  exact flR_bd (by rw [(int_next j h).1, e]) (int_nan _) w
theorem e_down {e : Int} (h0 : e ≤ 0) (h1 : -2200 < e) (w : World) : flR .sub .f64 (floatOfInt .f64 e) 4607182418800017408 w = floatOfInt .f64 (e - 1) := by
  obtain ⟨j, rfl⟩ : ∃ j : Nat, e = -((j : Nat) : Int) := ⟨(-e).toNat, by omega⟩
  exact flR_bd (by rw [(int_next j (by omega)).2]) (int_nan _) w
/-- One round of the sum. -/
theorem q_step {U u q : Nat} {j : Nat} (hu : cn .f64 u = U) (hq : cn .f64 q = logQ U j) (w1 w2 w3 : World) :
    cn .f64 (flR .add .f64 (flR .quo .f64 4607182418800017408 (floatOfInt .f64 (25 - 2 * (j : Int))) w1) (flR .mul .f64 u q w2) w3) = logQ U (j + 1) := by
  have h1 : fb .mul .f64 u q = fb .mul .f64 U (logQ U j) := by rw [← fb_cn .mul .f64 u q, hu, hq]
  rw [cn_flR, ← fb_cn, cn_flR, cn_flR, h1]
  rfl
theorem s_step {c : Nat} (w1 w2 w3 : World) : cn .f64 (flR .quo .f64 (flR .sub .f64 c 4607182418800017408 w1) (flR .add .f64 c 4607182418800017408 w2) w3) = logS c := by
  rw [cn_flR, ← fb_cn, cn_flR, cn_flR]; rfl
theorem u_step {S z : Nat} (h : cn .f64 z = S) (w : World) : cn .f64 (flR .mul .f64 z z w) = fb .mul .f64 S S := by
  rw [cn_flR, ← fb_cn, h]
theorem end_step {r c s q : Nat} {e : Int} (hr : redE r = e ∧ redR r = c) (hs : cn .f64 s = logS c) (hq : cn .f64 q = logQ (fb .mul .f64 (logS c) (logS c)) 13) (w1 w2 w3 w4 : World) :
    cn .f64 (flR .add .f64 (flR .mul .f64 4611686018427387904 (flR .mul .f64 s q w1) w2) (flR .mul .f64 (floatOfInt .f64 e) 4604418534313441775 w3) w4) = logV r := by
  obtain ⟨rfl, rfl⟩ := hr
  have h1 : fb .mul .f64 s q = fb .mul .f64 (logS (redR r)) (logQ (fb .mul .f64 (logS (redR r)) (logS (redR r))) 13) := by rw [← fb_cn .mul .f64 s q, hs, hq]
  have h2 : ∀ z w, fb .mul .f64 z (flR .mul .f64 s q w) = fb .mul .f64 z (fb .mul .f64 s q) := fun z w => by rw [← fb_cnr, cn_flR]
  rw [cn_flR, ← fb_cn, cn_flR, cn_flR, h2, h1]
  rfl
/-- A number of 32 bits above 0 is, in 64 bits, above the least normal one. -/
theorem wide_pos {x : Nat} (h : Nn x) (h0 : x ≠ 0) : 4503599627370496 ≤ wide x ∧ wide x < 9218868437227405312 := by
  have hx := nn_read h
  have hp := pl_ge x
  have hm := mag_lt x
  have hm0 : magOf F32 x ≠ 0 := fun e => h0 (mag_zero e)
  obtain ⟨hm2, h1, h2⟩ := read32 hx
  have hw : wide x = cn .f64 (FloatKind.f64.format.nearest false (magOf F32 x) (placeOf F32 x)) := by
    unfold wide
    rw [cvBits_num hx]; rfl
  obtain ⟨r, hr, hi⟩ := nearest64_lt false (magOf F32 x) (placeOf F32 x) hm2 h1 h2
  have hg : 4503599627370496 ≤ rungOf FloatKind.f64.format (magOf F32 x) (placeOf F32 x) := by
    refine rung_ge FloatKind.f64.format ?_
    rw [show magOf FloatKind.f64.format 4503599627370496 = 2 ^ 52 by decide +kernel, show placeOf FloatKind.f64.format 4503599627370496 = -1074 by decide +kernel]
    refine NumLe.of (b := -1074) (by omega) (by omega) ?_
    rw [Int.sub_self, Int.toNat_zero, Nat.pow_zero, Nat.mul_one]
    have h3 : 2 ^ 52 ≤ 2 ^ (placeOf F32 x - -1074).toNat := Nat.pow_le_pow_right (by omega) (by omega)
    exact Nat.le_trans h3 (Nat.le_mul_of_pos_left _ (by omega))
  rw [hw, hr, cn_num (isNan_word' (Nat.le_of_lt hi))]
  rw [nearest_rung] at hr
  have e1 : ∀ (q : Nat), FloatKind.f64.format.word false q = q := fun q => rfl
  rw [e1] at hr ⊢
  rw [d64_inf] at hr hi
  rw [e1] at hr
  omega
end Go.Proofs.YtjmpldcnhjgpkaaGreatDoor.Fl

/-
  Words for memory: a slice that reads as a list, a block that is known whole, small laws on draws. (After the guide's extra-words and extra-small.)
-/
namespace Go.Proofs.YtjmpldcnhjgpkaaGreatDoor.Mem
open Go.RowKit
set_option linter.unusedVariables false

theorem block_of_add (a : Addr) (n : Nat) : (a.add n).block = a.block := by unfold Addr.add; split <;> rfl
theorem add_of_add (a : Addr) (i j : Nat) : (a.add i).add j = a.add (i + j) := by
  unfold Addr.add
  by_cases hi : i = 0 <;> by_cases hj : j = 0 <;> simp [hi, hj, Nat.add_assoc]

/-- The slice value '.slice A n c' holds the cells xs, and lies below block B. -/
def Reads (w : World) (B size : Nat) (A : Option Addr) (n : Nat) (xs : List Value) : Prop :=
  xs.length = n * size ∧ (0 < n → ∃ ad, A = some ad ∧ ad.block < B ∧ ∀ j u, xs[j]? = some u → w.cell? (ad.add j) = some u)

section
variable {w w' : World} {B B' size n : Nat} {A : Option Addr} {xs : List Value}
theorem Reads.none_ : Reads w B size A 0 [] := ⟨by simp, fun h => absurd h (by omega)⟩
theorem Reads.at_ {k : Nat} (h : Reads w B 1 A n xs) (hk : k < n) : ∃ ad u, A = some ad ∧ ad.block < B ∧ xs[k]? = some u ∧ w.cell? (ad.add k) = some u := by
  obtain ⟨ad, e, hb, hc⟩ := h.2 (by omega)
  have hl : k < xs.length := by have := h.1; omega
  exact ⟨ad, xs[k], e, hb, List.getElem?_eq_getElem hl, hc k _ (List.getElem?_eq_getElem hl)⟩
theorem Reads.keep (h : Reads w B size A n xs) (hk : ∀ p : Addr, p.block < B → w'.cell? p = w.cell? p) : Reads w' B size A n xs :=
  ⟨h.1, fun hn => by
    obtain ⟨ad, e, hb, hc⟩ := h.2 hn
    exact ⟨ad, e, hb, fun j u hu => (hk _ (by rw [block_of_add]; exact hb)).trans (hc j u hu)⟩⟩
theorem Reads.more (h : Reads w B size A n xs) (hB : B ≤ B') : Reads w B' size A n xs :=
  ⟨h.1, fun hn => by
    obtain ⟨ad, e, hb, hc⟩ := h.2 hn
    exact ⟨ad, e, by omega, hc⟩⟩
theorem Reads.below (h : Reads w B size A n xs) (hb : Below B w w') : Reads w' B size A n xs := h.keep fun _ hp => hb.cell hp
theorem Reads.drew (h : Reads w B size A n xs) : Reads w.drew B size A n xs := h
theorem Reads.drewN (h : Reads w B size A n xs) (k : Nat) : Reads (w.drewN k) B size A n xs := h
theorem Reads.alloc (h : Reads w B size A n xs) (hB : B ≤ w.heap.size) (o : Obj) : Reads (w.alloc o) B size A n xs := h.keep fun p hp => World.cell?_alloc_lt w o p (by omega)
theorem Reads.setCell (h : Reads w B size A n xs) {p : Addr} (hB : B ≤ p.block) (u : Value) : Reads (w.setCell p u) B size A n xs :=
  h.keep fun q hq => World.cell?_setCell_other w p q u (fun e => by subst e; omega)
theorem Reads.grown (h : Reads w B size A n xs) {row : Option Nat} (hg : w.grownBy w' row) (hB : B ≤ w.heap.size) (hr : ∀ g, row = some g → B ≤ g) : Reads w' B size A n xs :=
  h.keep fun p hp => World.cell?_of_block (hg.block p.block (by omega) (fun e => by have := hr _ e.symm; omega))
theorem Reads.cut (h : Reads w B size A n xs) {k cap : Nat} (hk : k ≤ n) (hc : n ≤ cap) :
    Reads w B size (if cap = k then A else A.map (·.add (k * size))) (n - k) (xs.drop (k * size)) := by
  refine ⟨by rw [List.length_drop, h.1, Nat.sub_mul], fun hn => ?_⟩
  obtain ⟨ad, rfl, hb, hcell⟩ := h.2 (by omega)
  rw [if_neg (by omega)]
  refine ⟨ad.add (k * size), rfl, by rw [block_of_add]; exact hb, fun j u hu => ?_⟩
  rw [add_of_add]
  exact hcell _ u (by rw [← hu, List.getElem?_drop])
theorem Reads.of_own {base : Nat} {e : TypeId} {c : Nat} (h : w.ownsRow base e size (.slice A n c) n xs) : Reads w w.heap.size size A n xs := by
  refine ⟨h.1, fun hn => ?_⟩
  obtain ⟨g, cap, hv, _, hlt⟩ := h.form hn
  have hA : A = some ⟨g, 0, none⟩ := by injection hv
  subst hA
  exact ⟨_, rfl, hlt, h.cells (g := g) rfl⟩
end

theorem Reads.map_at {α : Type} {F : α → Value} {w : World} {B n k : Nat} {A : Option Addr} {xs : List α} (h : Reads w B 1 A n (xs.map F)) (hk : k < n) :
    ∃ ad x, A = some ad ∧ ad.block < B ∧ xs[k]? = some x ∧ w.cell? (ad.add k) = some (F x) := by
  obtain ⟨ad, u, e, hb, hx, hc⟩ := h.at_ hk
  rw [List.getElem?_map] at hx
  cases hx' : xs[k]? with
  | none => rw [hx'] at hx; cases hx
  | some x =>
    rw [hx'] at hx
    injection hx with hx
    subst hx
    exact ⟨ad, x, e, hb, rfl, hc⟩
theorem Reads.map_len {α : Type} {F : α → Value} {w : World} {B n : Nat} {A : Option Addr} {xs : List α} (h : Reads w B 1 A n (xs.map F)) : xs.length = n := by
  have := h.1; simpa using this
theorem drop_eq {α : Type} {xs : List α} {k : Nat} {x : α} (h : xs[k]? = some x) : xs.drop k = x :: xs.drop (k + 1) := by
  obtain ⟨hk, rfl⟩ := List.getElem?_eq_some_iff.1 h
  exact List.drop_eq_getElem_cons hk
theorem take_eq {α : Type} {xs : List α} {k : Nat} {x : α} (h : xs[k]? = some x) : xs.take (k + 1) = xs.take k ++ [x] := by
  obtain ⟨hk, rfl⟩ := List.getElem?_eq_some_iff.1 h
  exact List.take_succ_eq_append_getElem hk

/-- Block g is just the cells cs of element type t, none frozen. -/
def Blk (w : World) (g : Nat) (t : TypeId) (cs : Array Value) : Prop := w.heap[g]? = some (.cells cs t (0, 0))

section
variable {w w' : World} {g : Nat} {t : TypeId} {cs : Array Value}
theorem Blk.lt (h : Blk w g t cs) : g < w.heap.size := by
  rcases Nat.lt_or_ge g w.heap.size with hlt | hge
  · exact hlt
  · unfold Blk at h; rw [Array.getElem?_eq_none hge] at h; cases h
theorem Blk.cell (h : Blk w g t cs) (i : Nat) : w.cell? ⟨g, i, none⟩ = cs[i]? := cell_of_row w g i cs t (0, 0) h
theorem Blk.frozen (h : Blk w g t cs) (i : Nat) : w.frozen? ⟨g, i, none⟩ = false := by
  unfold Blk at h
  simp [World.frozen?, h]
theorem Blk.new (w : World) (t : TypeId) (cs : Array Value) : Blk (w.alloc (.cells cs t)) w.heap.size t cs := heap_alloc_new w _
theorem Blk.drew (h : Blk w g t cs) : Blk w.drew g t cs := h
theorem Blk.drewN (h : Blk w g t cs) (n : Nat) : Blk (w.drewN n) g t cs := h
theorem Blk.alloc (h : Blk w g t cs) (o : Obj) : Blk (w.alloc o) g t cs := (Below.heap_alloc w o g h.lt).trans h
theorem Blk.set_ (h : Blk w g t cs) (i : Nat) (u : Value) : Blk (w.setCell ⟨g, i, none⟩ u) g t (cs.setIfInBounds i u) := by
  unfold Blk at h ⊢
  simp [World.setCell, Array.getElem?_modify, h]
theorem Blk.far (h : Blk w g t cs) {p : Addr} (hp : g ≠ p.block) (u : Value) : Blk (w.setCell p u) g t cs := (Below.heap_setCell w p u g hp).trans h
theorem Blk.below {B : Nat} (h : Blk w g t cs) (hb : Below B w w') (hg : g < B) : Blk w' g t cs := (hb.block g hg).trans h
theorem Blk.grown {row : Option Nat} (h : Blk w g t cs) (hb : w.grownBy w' row) (hg : some g ≠ row) : Blk w' g t cs := (hb.block g h.lt hg).trans h
theorem Blk.ne_ {g' : Nat} {t' : TypeId} {cs' : Array Value} (h : Blk w g t cs) (h' : Blk w g' t' cs') (hne : t ≠ t') : g ≠ g' := by
  rintro rfl
  unfold Blk at h h'
  rw [h] at h'
  injection h' with h'
  injection h' with _ ht
  exact hne ht
end

theorem below_drewN {B : Nat} {a w : World} (h : Below B a w) (n : Nat) : Below B a (w.drewN n) := ⟨h.os, h.tape, h.output, h.size, h.block⟩
theorem grown_trans {a b c : World} (h : Grown a b) (k : Grown b c) : Grown a c :=
  ⟨World.keptBut_trans h.1 k.1, fun x => (k.2.1 x).trans (h.2.1 x), Nat.le_trans h.2.2 k.2.2⟩
theorem only_drewN {a w : World} {row : Option Nat} (h : a.grownBy w row) (n : Nat) : a.grownBy (w.drewN n) row := ⟨h.os, h.tape, h.output, h.size, h.block⟩
theorem only_drew {a w : World} {row : Option Nat} (h : a.grownBy w row) : a.grownBy w.drew row := ⟨h.os, h.tape, h.output, h.size, h.block⟩
theorem only_alloc {a w : World} {row : Option Nat} (h : a.grownBy w row) (o : Obj) : a.grownBy (w.alloc o) row :=
  ⟨h.os, h.tape, h.output, Nat.le_trans h.size (by simp), fun i hi hne => (Below.heap_alloc w o i (Nat.lt_of_lt_of_le hi h.size)).trans (h.block i hi hne)⟩
theorem only_setCell {a w : World} {g : Nat} (h : a.grownBy w (some g)) {p : Addr} (hp : p.block = g ∨ a.heap.size ≤ p.block) (u : Value) : a.grownBy (w.setCell p u) (some g) :=
  ⟨h.os, h.tape, h.output, by simpa [World.setCell] using h.size, fun i hi hne => (Below.heap_setCell w p u i (by
    rintro rfl
    rcases hp with hp | hp
    · exact hne (by rw [hp])
    · omega)).trans (h.block i hi hne)⟩
theorem only_of_below {a w : World} (h : Below a.heap.size a w) (row : Option Nat) : a.grownBy w row := ⟨h.os, h.tape, h.output, h.size, fun i hi _ => h.block i hi⟩
theorem below_of_only {a w : World} {g : Nat} (h : a.grownBy w (some g)) (hg : g < a.heap.size) : Below g a w :=
  ⟨h.os, h.tape, h.output, h.size, fun i hi => h.block i (by omega) (fun e => by injection e with e; omega)⟩

theorem run_store_float (P : Program) (w : World) (a : Addr) (m : Mode) (k : FloatKind) (b : Nat) : (store a (.float k b) m).run P w = stored P w a (.float k b) m := run_store P w a _ m rfl
theorem run_store_complex (P : Program) (w : World) (a : Addr) (m : Mode) (k : FloatKind) (x y : Nat) : (store a (.complex k x y) m).run P w = stored P w a (.complex k x y) m := run_store P w a _ m rfl
attribute [go_sem] run_store_float run_store_complex

theorem run_make_rowN {P : Program} (t e : TypeId) (i : TypeInfo) (z : Value) (ht : P.underlying t = some (.slice e)) (hi : P.info? e = some i) (hz : i.zero = some z)
    (kl kc : IntKind) (n c : Nat) (hnc : n ≤ c) (hbytes : i.bytes * c ≤ 281474976710656) (h63 : c ≤ 9223372036854775807) (w : World) :
    (Instr.makeSlice t (.int kl (n : Int)) (.int kc (c : Int))).run P w = .ok (.slice (some ⟨w.heap.size, 0, none⟩) n c) (w.alloc (.cells (madeCells z.cells (c * i.size)) e)) := by
  have hb : (i.bytes : Int) * (c : Int) ≤ 281474976710656 := by
    have h : ((i.bytes * c : Nat) : Int) ≤ 281474976710656 := by omega
    rwa [Int.natCast_mul] at h
  have hr := run_make (P := P) w t e i z ht hi hz kl kc n c (by omega) (by omega) hb (by omega)
  simp only [Int.toNat_natCast] at hr
  exact hr

theorem madeCells_one {z : Value} (hz : z.cells = #[z]) (n : Nat) : madeCells z.cells (n * 1) = Array.replicate n z := by
  rw [hz, Nat.mul_one]
  unfold madeCells
  apply Array.ext
  · simp
  · intro i h1 h2
    have : i % 1 = 0 := Nat.mod_one i
    simp [this]

/-- 'make([]T, n)' of one-celled elements, in every world. -/
theorem run_make1 {P : Program} (t e : TypeId) (z : Value) (by_ : Nat) (hI : (P.info? e).map (fun i => (i.zero, i.size, i.bytes)) = some (some z, 1, by_)) (ht : P.underlying t = some (.slice e)) (hz : z.cells = #[z])
    (n : Nat) (hbytes : by_ * n ≤ 281474976710656) (h63 : n ≤ 9223372036854775807) (W : World) :
    (Instr.makeSlice t (.int .i64 (n : Int)) (.int .i64 (n : Int))).run P W = .ok (.slice (some ⟨W.heap.size, 0, none⟩) n n) (W.alloc (.cells (Array.replicate n z) e)) := by
  obtain ⟨i0, hi, hz0, hz1, hz2⟩ := info_parts hI
  have h := run_make_rowN (P := P) t e i0 z ht hi hz0 .i64 .i64 n n (Nat.le_refl _) (by rw [hz2]; exact hbytes) h63 W
  rw [hz1, madeCells_one hz] at h
  exact h

theorem own_empty (w : World) (e : TypeId) (size : Nat) : (w.alloc (.cells #[] e)).ownsRow w.heap.size e size (.slice (some ⟨w.heap.size, 0, none⟩) 0 0) 0 [] :=
  World.ownsRow_made _ _ _ (Nat.le_refl _) (by simp [maxLen]) (by simp)
theorem own_nil (w : World) (base : Nat) (e : TypeId) (size : Nat) : w.ownsRow base e size (.slice none 0 0) 0 [] := World.ownsRow_nil _ _ _ _
theorem own_drewN {w : World} {base : Nat} {e : TypeId} {size n : Nat} {v : Value} {xs : List Value} (h : w.ownsRow base e size v n xs) (m : Nat) : (w.drewN m).ownsRow base e size v n xs := h
theorem own_below {w w' : World} {base : Nat} {e : TypeId} {size n : Nat} {v : Value} {xs : List Value} (h : w.ownsRow base e size v n xs) (hb : Below w.heap.size w w') : w'.ownsRow base e size v n xs :=
  h.kept (only_of_below hb none) (by cases v.ownBlock <;> simp)

/-- 'append(out, u)' of one one-celled element onto a row of the call's own. -/
theorem wpList_append1 {P : Program} {w0 w : World} {ops : Array Oper} {rest : List Oper} {o : Oper} {a : Act} {Q : Exit → Act → World → Prop} (hgd : o.guard = none) (s x : Operand) (t : TypeId)
    (ho : o.op = .call { callee := .builtin .append, args := #[s, x], argTypes := #[t, t] })
    (base : Nat) (e : TypeId) (z u : Value) (by_ : Nat) (hI : (P.info? e).map (fun i => (i.zero, i.size, i.bytes)) = some (some z, 1, by_)) (ht : P.underlying t = some (.slice e)) (hz : z.cells.size = 1)
    (hw : w = w0.alloc (.cells #[u] e)) (v : Value) (n : Nat) (xs : List Value) (hs : a.eval s = v) (hown : w0.ownsRow base e 1 v n xs)
    (hx : a.eval x = .slice (some ⟨w0.heap.size, 0, none⟩) 1 1) (hu : u.oneCell' = true)
    (hn : n < 1099511627776) (hby : by_ ≤ 64) (hbase : base ≤ w0.heap.size)
    (h : ∀ v' w', w'.ownsRow base e 1 v' (n + 1) (xs ++ [u]) → Below base w0 w' → wpList P ops Q rest (a.put o.dst v') w') : wpList P ops Q (o :: rest) a w := by
  subst hw
  obtain ⟨i0, hi, hz0, hz1, hz2⟩ := info_parts hI
  refine wpList_append_own _ hgd s x t ho base e i0 z 1 by_ ht hi hz0 hz1 hz2 hz (by decide) v n xs hs (hown.alloc _) ⟨w0.heap.size, 0, none⟩ 1 1 [u] hx rfl (cell_one_new _ _ _) (by simpa using hu) (by simp [maxLen]; omega) ?_ (by simp; omega) ?_
  · have : (n + 1) * by_ ≤ 1099511627776 * 64 := Nat.mul_le_mul (by omega) hby
    omega
  · intro v' w' h1 h2 _
    exact h v' w' h1 (((Below.refl _ _).alloc hbase _).grown h2 (by simp; omega) (fun g hg => (hown.lt g hg).1))

theorem hide {p : Prop} (h : p) : Hid p := h
theorem unhide {p : Prop} (h : Hid p) : p := h
end Go.Proofs.YtjmpldcnhjgpkaaGreatDoor.Mem

/-
  Contracts of the helpers of the laws: copies, comparisons, marks.
-/
namespace Go.Proofs.YtjmpldcnhjgpkaaGreatDoor
open Go.RowKit Fl Mem
set_option linter.unusedVariables false

/-- The cells of a list of numbers. -/
abbrev fl (k : FloatKind) (xs : List Nat) : List Value := xs.map (Value.float k)
theorem ret_bool {a b : Bool} (h : a = b) : Ending.returned (.bool a) = .returned (.bool b) := by rw [h]
theorem ret_int {k : IntKind} {a b : Int} (h : a = b) : Ending.returned (.int k a) = .returned (.int k b) := by rw [h]

end Go.Proofs.YtjmpldcnhjgpkaaGreatDoor
