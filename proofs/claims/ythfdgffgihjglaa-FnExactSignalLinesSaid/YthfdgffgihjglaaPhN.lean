/-
  The point of the unit circle at some turns: both parts, at any number of 64 bits.
-/
import Derived.Test.YthfdgffgihjglaaCplx
namespace Go.Proofs.Ythfdgffgihjglaa
open Go.RowKit Mem Fl
set_option linter.unusedVariables false
set_option maxRecDepth 100000

/-- Both parts, told. -/
def ph1 (y : Nat) : Nat := if 4841369599423283200 ≤ y % 9223372036854775808 then 1065353216 else phRe y
def ph2 (y : Nat) : Nat := if 4841369599423283200 ≤ y % 9223372036854775808 then 0 else phIm y
theorem i_PhN {s : Bool} {r y : Nat} {w : World} (hy : y = FloatKind.f64.format.word s r) (hr : r < 9218868437227405312) : Calls Try.prog 80 #[.float .f64 y] w fun e w' => ∃ a b, e = .returned (.complex .f32 a b) ∧ Hid (cn .f32 a = ph1 y) ∧ Hid (cn .f32 b = ph2 y) ∧ ∃ m, w' = w.drewN m := by
  have hm := (word_mod (s := s) hr).1
  rw [← hy] at hm
  by_cases hb : 4841369599423283200 ≤ r
  · have h1 : ph1 y = 1065353216 := by unfold ph1; rw [hm, if_pos hb]
    have h2 : ph2 y = 0 := by unfold ph2; rw [hm, if_pos hb]
    refine (i_PhasorOf_big hy hb hr).mono ?_
    rintro e w' ⟨rfl, h3⟩
    exact ⟨_, _, rfl, hide (by rw [h1]; decide +kernel), hide (by rw [h2]; decide +kernel), h3⟩
  · have h1 : ph1 y = phRe y := by unfold ph1; rw [hm, if_neg hb]
    have h2 : ph2 y = phIm y := by unfold ph2; rw [hm, if_neg hb]
    refine (i_PhasorOf hy (by omega)).mono ?_
    rintro e w' ⟨x, z, rfl, h3, h4, h5⟩
    exact ⟨_, _, rfl, hide (by rw [h1]; exact h3.out), hide (by rw [h2]; exact h4.out), h5⟩
theorem s_PhN {s : Bool} {r y : Nat} {w : World} (hy : y = FloatKind.f64.format.word s r) (hr : r < 9218868437227405312) : Calls Try.prog 77 #[.float .f64 y] w fun e w' => ∃ a b, e = .returned (.complex .f32 a b) ∧ Hid (cn .f32 a = ph1 y) ∧ Hid (cn .f32 b = ph2 y) ∧ ∃ m, w' = w.drewN m := by
  have hm := (word_mod (s := s) hr).1
  rw [← hy] at hm
  by_cases hb : 4841369599423283200 ≤ r
  · have h1 : ph1 y = 1065353216 := by unfold ph1; rw [hm, if_pos hb]
    have h2 : ph2 y = 0 := by unfold ph2; rw [hm, if_pos hb]
    refine (s_l01Phasor_big hy hb hr).mono ?_
    rintro e w' ⟨rfl, h3⟩
    exact ⟨_, _, rfl, hide (by rw [h1]; decide +kernel), hide (by rw [h2]; decide +kernel), h3⟩
  · have h1 : ph1 y = phRe y := by unfold ph1; rw [hm, if_neg hb]
    have h2 : ph2 y = phIm y := by unfold ph2; rw [hm, if_neg hb]
    refine (s_l01Phasor hy (by omega)).mono ?_
    rintro e w' ⟨x, z, rfl, h3, h4, h5⟩
    exact ⟨_, _, rfl, hide (by rw [h1]; exact h3.out), hide (by rw [h2]; exact h4.out), h5⟩
theorem neg_parts (x : Nat) : Op.negFloat .f64 x % 9223372036854775808 = x % 9223372036854775808 ∧ Op.negFloat .f64 x / 9223372036854775808 % 2 = 1 - x / 9223372036854775808 % 2 := by
  have e : (2 : Nat) ^ 63 = 9223372036854775808 := by decide +kernel
  have hn : Op.negFloat .f64 x = x ^^^ 2 ^ 63 := rfl
  rw [hn, ← e]
  refine ⟨by rw [Nat.xor_mod_two_pow, Nat.mod_self, Nat.xor_zero], ?_⟩
  rw [Nat.xor_div_two_pow, Nat.div_self (Nat.two_pow_pos _)]
  generalize x / 2 ^ 63 = q
  have := Nat.xor_mod_two_pow (a := q) (b := 1) (n := 1)
  simp only [Nat.pow_one] at this
  rw [this]
  rcases Nat.mod_two_eq_zero_or_one q with h | h <;> rw [h] <;> rfl
theorem neg_lt {x : Nat} (h : x < 18446744073709551616) : Op.negFloat .f64 x < 18446744073709551616 := by
  have e : (2 : Nat) ^ 64 = 18446744073709551616 := by decide +kernel
  have hn : Op.negFloat .f64 x = x ^^^ 2 ^ 63 := rfl
  rw [hn, ← e]
  exact Nat.xor_lt_two_pow (by rw [e]; exact h) (Nat.pow_lt_pow_right (by omega) (by omega))
theorem neg_word {s : Bool} {r : Nat} (h : r < 9218868437227405312) : Op.negFloat .f64 (FloatKind.f64.format.word s r) = FloatKind.f64.format.word (!s) r := by
  have hsw : FloatKind.f64.format.signWeight = 9223372036854775808 := by decide +kernel
  obtain ⟨h1, h2⟩ := neg_parts (FloatKind.f64.format.word s r)
  have h3 := neg_lt (word_mod (s := s) h).2
  generalize Op.negFloat .f64 (FloatKind.f64.format.word s r) = N at *
  unfold Ieee.Format.word at *
  rw [hsw] at *
  cases s
  · rw [if_neg (by simp)] at h1 h2
    rw [if_pos (show (!false) = true from rfl)]
    omega
  · rw [if_pos rfl] at h1 h2
    rw [if_neg (by simp)]
    omega
end Go.Proofs.Ythfdgffgihjglaa
