/-
  'float64(x)' of a 32-bit number: it is exact, never an infinity of its own; what is told of it hangs on what is told of x alone.
-/
import Derived.Test.YteabfkgbakoljaaOps
namespace Go.Proofs.Yteabfkgbakoljaa.Fl
open Go.RowKit

theorem log2_lt_of {m b : Nat} (h : m < 2 ^ (b + 1)) : m.log2 ≤ b := by
  rcases Nat.eq_zero_or_pos m with h0 | h0
  · subst h0; simp
  · exact Nat.le_of_lt_succ ((Nat.log2_lt (by omega)).2 h)

theorem pow_log2_le {m : Nat} (h : m ≠ 0) : 2 ^ m.log2 ≤ m := Nat.log2_self_le h
theorem lt_pow_log2 (m : Nat) : m < 2 ^ (m.log2 + 1) := Nat.lt_log2_self

/-- What a 32-bit word stands for, if it is a number. -/
theorem read32 {x : Nat} {s : Bool} {m : Nat} {e : Int} (h : FloatKind.f32.decode x = .number s m e) : m < 16777216 ∧ -149 ≤ e ∧ e ≤ 104 := by
  unfold FloatKind.decode Ieee.Format.read at h
  have e1 : FloatKind.f32.format.signWeight = 2147483648 := by decide +kernel
  have e2 : FloatKind.f32.format.binade = 8388608 := by decide +kernel
  have e3 : FloatKind.f32.format.infRung = 2139095040 := by decide +kernel
  have e4 : FloatKind.f32.format.leastPlace = -149 := by decide +kernel
  simp only [e1, e2, e3, e4] at h
  generalize x % 2147483648 = r at h
  split at h
  · injection h with h1 h2 h3; omega
  · split at h
    · injection h with h1 h2 h3
      have : r % 8388608 < 8388608 := Nat.mod_lt _ (by omega)
      omega
    · split at h <;> cases h

theorem word_inf_false {k : FloatKind} {s : Bool} {r : Nat} (h : r < k.format.infRung) : (k.decode (k.format.word s r)).isInfinity = false := by
  unfold FloatKind.decode Ieee.Format.read Ieee.Format.word
  have hlt := Ieee.Format.infRung_lt k.format
  have hw : 0 < k.format.signWeight := by omega
  have hm : (if s = true then k.format.signWeight + r else r) % k.format.signWeight = r := by
    split
    · rw [Nat.add_mod_left, Nat.mod_eq_of_lt (by omega)]
    · exact Nat.mod_eq_of_lt (by omega)
  simp only [hm]
  split
  · rfl
  · first | rfl | (rw [if_pos h]; rfl)

theorem cut_zero (way : Ieee.Toward) (s : Bool) (n : Nat) : way.cut s n 0 = n := by
  unfold Ieee.Toward.cut
  cases way <;> simp [Nat.mod_one]

theorem rung_lt (b q : Nat) (hb : b ≤ 1149) (hk : q < 2 ^ 53) : min (b * 4503599627370496 + q) 9218868437227405312 < 9218868437227405312 := by
  have h : b * 4503599627370496 ≤ 1149 * 4503599627370496 := Nat.mul_le_mul_right _ hb
  refine Nat.lt_of_le_of_lt (Nat.min_le_left _ _) ?_
  have h2 : (2 : Nat) ^ 53 = 9007199254740992 := by decide
  rw [h2] at hk
  omega

/-- A number of at most 53 digits, not too great and not too small, is written as it is. -/
theorem nearest64_lt (s : Bool) (m : Nat) (e : Int) (hm : m < 16777216) (h1 : -149 ≤ e) (h2 : e ≤ 104) : ∃ r, FloatKind.f64.format.nearest s m e = FloatKind.f64.format.word s r ∧ r < FloatKind.f64.format.infRung := by
  have e2 : FloatKind.f64.format.binade = 4503599627370496 := by decide +kernel
  have e3 : FloatKind.f64.format.infRung = 9218868437227405312 := by decide +kernel
  have e4 : FloatKind.f64.format.leastPlace = -1074 := by decide +kernel
  have e5 : FloatKind.f64.format.fractionBits = 52 := by decide +kernel
  unfold Ieee.Format.nearest
  rw [e2, e3, e4, e5]
  by_cases h0 : m = 0
  · rw [if_pos h0]; exact ⟨0, rfl, by omega⟩
  · rw [if_neg h0]
    refine ⟨_, rfl, ?_⟩
    have hl : m.log2 ≤ 23 := log2_lt_of (b := 23) (by omega)
    have hlast : max (e + (m.log2 : Int) - (52 : Nat)) (-1074) = e + (m.log2 : Int) - 52 := by omega
    simp only [hlast]
    have hd : (e + (m.log2 : Int) - 52 - e).toNat = 0 := by omega
    rw [hd, cut_zero]
    have hs : (e - (e + (m.log2 : Int) - 52)).toNat = 52 - m.log2 := by omega
    rw [hs, Nat.shiftLeft_eq]
    have hk : m * 2 ^ (52 - m.log2) < 2 ^ 53 := by
      have := lt_pow_log2 m
      have h3 : m * 2 ^ (52 - m.log2) < 2 ^ (m.log2 + 1) * 2 ^ (52 - m.log2) := Nat.mul_lt_mul_of_pos_right this (Nat.two_pow_pos _)
      rw [← Nat.pow_add, show m.log2 + 1 + (52 - m.log2) = 53 by omega] at h3
      exact h3
    have hb : (e + (m.log2 : Int) - 52 - -1074).toNat ≤ 1149 := by omega
    generalize (e + (m.log2 : Int) - 52 - -1074).toNat = b at *
    generalize m * 2 ^ (52 - m.log2) = q at *
    exact rung_lt b q hb hk

/-- 'float64(x)' of a 32-bit number, told. -/
def wide (x : Nat) : Nat := cn .f64 ((cvBits .f32 .f64 x).getD (nanOf .f64))

theorem cvBits_num {x : Nat} {s : Bool} {m : Nat} {e : Int} (h : FloatKind.f32.decode x = .number s m e) : cvBits .f32 .f64 x = some (FloatKind.f64.encode (.number s m e)) := by
  obtain ⟨hm, h1, h2⟩ := read32 h
  obtain ⟨r, hr, hlt⟩ := nearest64_lt s m e hm h1 h2
  have : (FloatKind.f64.decode (FloatKind.f64.encode (.number s m e))).isInfinity = false := by
    show (FloatKind.f64.decode (FloatKind.f64.format.nearest s m e)).isInfinity = false
    rw [hr]
    exact word_inf_false hlt
  simp [cvBits, h, this]

theorem cn_cvR (x : Nat) (w : World) : cn .f64 (cvR .f32 .f64 x w) = wide x := by
  unfold cvR wide
  cases hd : FloatKind.f32.decode x with
  | number s m e => rw [cvBits_num hd]; rfl
  | infinity s => simp [cvBits, hd]
  | nan s t =>
    have : cvBits .f32 .f64 x = none := by simp [cvBits, hd]
    rw [this]
    simp only [Option.getD_none]
    rw [cn_nan (drawn_conv _ _ _).1, cn_nan (isNan_nanOf _)]

theorem cvBits_nan {x : Nat} (h : isNan .f32 x = true) : cvBits .f32 .f64 x = none := by
  obtain ⟨s, t, hr⟩ := read_nan h
  have : FloatKind.f32.decode x = .nan s t := hr
  simp [cvBits, this]

theorem wide_cn (x : Nat) : wide (cn .f32 x) = wide x := by
  unfold wide
  cases h : isNan .f32 x
  · rw [cn_num h]
  · rw [cvBits_nan h, cvBits_nan (by rw [isNan_cn]; exact h)]
theorem wide_of_cn {x y : Nat} (h : cn .f32 x = cn .f32 y) : wide x = wide y := by rw [← wide_cn x, h, wide_cn]
theorem cn_wide (x : Nat) : cn .f64 (wide x) = wide x := by unfold wide; rw [cn_cn]
end Go.Proofs.Yteabfkgbakoljaa.Fl
