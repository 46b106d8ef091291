/-
  Rounding, in plain numbers: the rung that a number is written to rises with the number, and a number that the format has is written as it is.
-/
import Derived.Test.YteabfkgbakoljaaOrd
namespace Go.Proofs.Yteabfkgbakoljaa.Fl
open Go.RowKit
set_option linter.unusedVariables false

/-- 'n / 2^d' to the nearest whole number, between two the even one. -/
def rnd (n d : Nat) : Nat := n / 2 ^ d + (if 2 ^ d < 2 * (n % 2 ^ d) ∨ (2 ^ d = 2 * (n % 2 ^ d) ∧ n / 2 ^ d % 2 = 1) then 1 else 0)

theorem cut_rnd (s : Bool) (n d : Nat) : Ieee.Toward.even.cut s n d = rnd n d := by
  unfold Ieee.Toward.cut rnd
  rw [Nat.shiftLeft_eq, Nat.one_mul]
  rcases Nat.le_total d (n.log2 + 2) with h | h
  · rw [Nat.min_eq_left h]
    simp only [Nat.add_left_cancel_iff]
    by_cases h1 : 2 ^ d < 2 * (n % 2 ^ d)
    · simp [h1]
    · by_cases h2 : 2 ^ d = 2 * (n % 2 ^ d)
      · rw [← h2]
        by_cases h3 : n / 2 ^ d % 2 = 1 <;> simp [h3]
      · have h2' : (2 ^ d == 2 * (n % 2 ^ d)) = false := by simpa using h2
        simp [h1, h2, h2']
  · rw [Nat.min_eq_right h]
    have hlt : n < 2 ^ (n.log2 + 1) := Nat.lt_log2_self
    have e1 : 2 ^ (n.log2 + 2) = 2 * 2 ^ (n.log2 + 1) := by rw [Nat.pow_succ 2 (n.log2 + 1), Nat.mul_comm]
    have e2 : 2 ^ (n.log2 + 2) ≤ 2 ^ d := Nat.pow_le_pow_right (by omega) h
    have d1 : n / 2 ^ (n.log2 + 2) = 0 := Nat.div_eq_of_lt (by omega)
    have d2 : n / 2 ^ d = 0 := Nat.div_eq_of_lt (by omega)
    have m1 : n % 2 ^ (n.log2 + 2) = n := Nat.mod_eq_of_lt (by omega)
    have m2 : n % 2 ^ d = n := Nat.mod_eq_of_lt (by omega)
    simp only []
    rw [d1, d2, m1, m2]
    have c1 : ¬ 2 ^ (n.log2 + 2) < 2 * n := by omega
    have c3 : ¬ 2 ^ d < 2 * n := by omega
    simp [c1, c3]

/-- Doubled, and one more or less: where the rounded number lies. -/
theorem rnd_le (n d : Nat) : 2 * (rnd n d * 2 ^ d) ≤ 2 * n + 2 ^ d := by
  unfold rnd
  have h := Nat.div_add_mod n (2 ^ d)
  have hm := Nat.mod_lt n (Nat.two_pow_pos d)
  generalize n / 2 ^ d = q at *
  generalize n % 2 ^ d = r at *
  generalize 2 ^ d = g at *
  rw [Nat.mul_comm] at h
  split
  · rename_i hc
    rw [Nat.add_mul]
    omega
  · rw [Nat.add_zero]; omega
theorem rnd_ge (n d : Nat) : 2 * n ≤ 2 * (rnd n d * 2 ^ d) + 2 ^ d := by
  unfold rnd
  have h := Nat.div_add_mod n (2 ^ d)
  have hm := Nat.mod_lt n (Nat.two_pow_pos d)
  generalize n / 2 ^ d = q at *
  generalize n % 2 ^ d = r at *
  generalize 2 ^ d = g at *
  rw [Nat.mul_comm] at h
  split
  · rename_i hc
    rw [Nat.add_mul]
    omega
  · rename_i hc
    rw [Nat.add_zero]; omega

/-- The rounded number rises. -/
theorem rnd_mono {n n' : Nat} (d : Nat) (h : n ≤ n') : rnd n d ≤ rnd n' d := by
  have hg := Nat.two_pow_pos d
  have h1 := Nat.div_add_mod n (2 ^ d)
  have h2 := Nat.div_add_mod n' (2 ^ d)
  have hm1 := Nat.mod_lt n hg
  have hm2 := Nat.mod_lt n' hg
  have hq : n / 2 ^ d ≤ n' / 2 ^ d := Nat.div_le_div_right h
  unfold rnd
  rcases Nat.lt_or_ge (n / 2 ^ d) (n' / 2 ^ d) with hlt | hge
  · split <;> split <;> omega
  · have he : n / 2 ^ d = n' / 2 ^ d := by omega
    rw [he] at h1 ⊢
    have hr : n % 2 ^ d ≤ n' % 2 ^ d := by omega
    generalize n' / 2 ^ d = q at *
    generalize n % 2 ^ d = r at *
    generalize n' % 2 ^ d = r' at *
    generalize 2 ^ d = g at *
    split
    · rename_i hc
      rw [if_pos]
      · omega
      · rcases hc with hc | ⟨hc, hc'⟩
        · left; omega
        · rcases Nat.lt_or_ge g (2 * r') with h5 | h5
          · left; exact h5
          · right; exact ⟨by omega, hc'⟩
    · omega
theorem rnd_shift (n d j : Nat) : rnd (n * 2 ^ j) (d + j) = rnd n d := by
  unfold rnd
  have hj := Nat.two_pow_pos j
  have e1 : n * 2 ^ j / 2 ^ (d + j) = n / 2 ^ d := by rw [Nat.pow_add, Nat.mul_div_mul_right _ _ hj]
  have e2 : n * 2 ^ j % 2 ^ (d + j) = n % 2 ^ d * 2 ^ j := by rw [Nat.pow_add, Nat.mul_mod_mul_right]
  rw [e1, e2, Nat.pow_add]
  have c1 : (2 ^ d * 2 ^ j < 2 * (n % 2 ^ d * 2 ^ j)) ↔ (2 ^ d < 2 * (n % 2 ^ d)) := by rw [← Nat.mul_assoc]; exact Nat.mul_lt_mul_right hj
  have c2 : (2 ^ d * 2 ^ j = 2 * (n % 2 ^ d * 2 ^ j)) ↔ (2 ^ d = 2 * (n % 2 ^ d)) := by rw [← Nat.mul_assoc]; exact Nat.mul_right_cancel_iff hj
  simp only [c1, c2]
theorem rnd_zero (n : Nat) : rnd n 0 = n := by unfold rnd; simp [Nat.mod_one]

/-- The place of the last digit that is kept. -/
def lastOf (f : Ieee.Format) (m : Nat) (e : Int) : Int := max (e + m.log2 - f.fractionBits) f.leastPlace
/-- The rung that 'm 2^e' is written to; 0 for 0. -/
def rungOf (f : Ieee.Format) (m : Nat) (e : Int) : Nat :=
  if m = 0 then 0 else (lastOf f m e - f.leastPlace).toNat * f.binade + rnd (m * 2 ^ (e - lastOf f m e).toNat) (lastOf f m e - e).toNat

theorem nearest_rung (f : Ieee.Format) (s : Bool) (m : Nat) (e : Int) : f.nearest s m e = f.word s (min (rungOf f m e) f.infRung) := by
  unfold Ieee.Format.nearest rungOf
  by_cases h : m = 0
  · rw [if_pos h, if_pos h]; simp
  · rw [if_neg h, if_neg h]
    simp only [cut_rnd, Nat.shiftLeft_eq]
    rfl

/-- 'm 2^e' is at most 'n 2^j'. -/
def NumLe (m : Nat) (e : Int) (n : Nat) (j : Int) : Prop := m * 2 ^ (e - min e j).toNat ≤ n * 2 ^ (j - min e j).toNat
theorem NumLe.at_ {m n : Nat} {e j : Int} (h : NumLe m e n j) {b : Int} (h1 : b ≤ e) (h2 : b ≤ j) : m * 2 ^ (e - b).toNat ≤ n * 2 ^ (j - b).toNat := by
  unfold NumLe at h
  have e1 : (e - b).toNat = (e - min e j).toNat + (min e j - b).toNat := by omega
  have e2 : (j - b).toNat = (j - min e j).toNat + (min e j - b).toNat := by omega
  rw [e1, e2, Nat.pow_add, Nat.pow_add, ← Nat.mul_assoc, ← Nat.mul_assoc]
  exact Nat.mul_le_mul_right _ h
theorem NumLe.of {m n : Nat} {e j : Int} {b : Int} (h1 : b ≤ e) (h2 : b ≤ j) (h : m * 2 ^ (e - b).toNat ≤ n * 2 ^ (j - b).toNat) : NumLe m e n j := by
  unfold NumLe
  have e1 : (e - b).toNat = (e - min e j).toNat + (min e j - b).toNat := by omega
  have e2 : (j - b).toNat = (j - min e j).toNat + (min e j - b).toNat := by omega
  rw [e1, e2, Nat.pow_add, Nat.pow_add, ← Nat.mul_assoc, ← Nat.mul_assoc] at h
  exact Nat.le_of_mul_le_mul_right h (Nat.two_pow_pos _)
theorem NumLe.log {m n : Nat} {e j : Int} (hm : m ≠ 0) (h : NumLe m e n j) : e + m.log2 ≤ j + n.log2 := by
  have hn : n ≠ 0 := by
    rintro rfl
    unfold NumLe at h
    rw [Nat.zero_mul] at h
    have : 0 < m * 2 ^ (e - min e j).toNat := Nat.mul_pos (by omega) (Nat.two_pow_pos _)
    omega
  have h1 : 2 ^ (m.log2 + (e - min e j).toNat) ≤ m * 2 ^ (e - min e j).toNat := by
    rw [Nat.pow_add]; exact Nat.mul_le_mul_right _ (Nat.log2_self_le hm)
  have h2 : n * 2 ^ (j - min e j).toNat < 2 ^ (n.log2 + 1 + (j - min e j).toNat) := by
    rw [Nat.pow_add]; exact Nat.mul_lt_mul_of_pos_right Nat.lt_log2_self (Nat.two_pow_pos _)
  have h3 : 2 ^ (m.log2 + (e - min e j).toNat) < 2 ^ (n.log2 + 1 + (j - min e j).toNat) := Nat.lt_of_le_of_lt h1 (Nat.lt_of_le_of_lt h h2)
  have h4 := (Nat.pow_lt_pow_iff_right (by omega : 1 < 2)).1 h3
  omega

/-- What is kept has at most one digit more than the fraction field, or is that power of two; and no fewer digits, unless the number is small. -/
theorem kept_le (f : Ieee.Format) {m : Nat} {e : Int} (hm : m ≠ 0) : rnd (m * 2 ^ (e - lastOf f m e).toNat) (lastOf f m e - e).toNat ≤ 2 * f.binade := by
  have hl : e + m.log2 - f.fractionBits ≤ lastOf f m e := by unfold lastOf; omega
  have h1 : rnd (m * 2 ^ (e - lastOf f m e).toNat) (lastOf f m e - e).toNat ≤ rnd (2 ^ (f.fractionBits + 1) * 2 ^ (lastOf f m e - e).toNat) (lastOf f m e - e).toNat := by
    refine rnd_mono _ ?_
    rw [← Nat.pow_add]
    have h2 : m * 2 ^ (e - lastOf f m e).toNat ≤ 2 ^ (m.log2 + 1 + (e - lastOf f m e).toNat) := by
      rw [Nat.pow_add]; exact Nat.mul_le_mul_right _ (Nat.le_of_lt Nat.lt_log2_self)
    refine Nat.le_trans h2 (Nat.pow_le_pow_right (by omega) ?_)
    omega
  have h3 := rnd_shift (2 ^ (f.fractionBits + 1)) 0 (lastOf f m e - e).toNat
  rw [Nat.zero_add, rnd_zero] at h3
  rw [h3] at h1
  unfold Ieee.Format.binade
  rw [Nat.pow_succ] at h1
  omega
theorem kept_ge (f : Ieee.Format) {m : Nat} {e : Int} (hm : m ≠ 0) (hl : lastOf f m e = e + m.log2 - f.fractionBits) : f.binade ≤ rnd (m * 2 ^ (e - lastOf f m e).toNat) (lastOf f m e - e).toNat := by
  have h1 : rnd (2 ^ f.fractionBits * 2 ^ (lastOf f m e - e).toNat) (lastOf f m e - e).toNat ≤ rnd (m * 2 ^ (e - lastOf f m e).toNat) (lastOf f m e - e).toNat := by
    refine rnd_mono _ ?_
    rw [← Nat.pow_add]
    have h2 : 2 ^ (m.log2 + (e - lastOf f m e).toNat) ≤ m * 2 ^ (e - lastOf f m e).toNat := by
      rw [Nat.pow_add]; exact Nat.mul_le_mul_right _ (Nat.log2_self_le hm)
    refine Nat.le_trans (Nat.pow_le_pow_right (by omega) ?_) h2
    omega
  have h3 := rnd_shift (2 ^ f.fractionBits) 0 (lastOf f m e - e).toNat
  rw [Nat.zero_add, rnd_zero] at h3
  rw [h3] at h1
  exact h1

/-- THE RUNG RISES WITH THE NUMBER. -/
theorem rung_mono (f : Ieee.Format) {m n : Nat} {e j : Int} (h : NumLe m e n j) : rungOf f m e ≤ rungOf f n j := by
  by_cases hm : m = 0
  · unfold rungOf; rw [if_pos hm]; omega
  have hlog := h.log hm
  have hn : n ≠ 0 := by
    rintro rfl
    unfold NumLe at h
    rw [Nat.zero_mul] at h
    have : 0 < m * 2 ^ (e - min e j).toNat := Nat.mul_pos (by omega) (Nat.two_pow_pos _)
    omega
  have hle : lastOf f m e ≤ lastOf f n j := by unfold lastOf; omega
  have k1 := kept_le f (e := e) hm
  unfold rungOf
  rw [if_neg hm, if_neg hn]
  rcases Int.lt_or_le (lastOf f m e) (lastOf f n j) with hlt | hge
  · have hl : lastOf f n j = j + n.log2 - f.fractionBits := by unfold lastOf at *; omega
    have k2 := kept_ge f (e := j) hn hl
    have hb : (lastOf f m e - f.leastPlace).toNat + 1 ≤ (lastOf f n j - f.leastPlace).toNat := by
      have : f.leastPlace ≤ lastOf f m e := by unfold lastOf; omega
      omega
    have hb2 := Nat.mul_le_mul_right f.binade hb
    rw [Nat.add_mul, Nat.one_mul] at hb2
    omega
  · have he : lastOf f m e = lastOf f n j := by omega
    rw [he]
    refine Nat.add_le_add_left ?_ _
    -- both are brought to one place
    have hb := h.at_ (b := min (min e j) (lastOf f n j)) (by omega) (by omega)
    have r1 := rnd_shift (m * 2 ^ (e - lastOf f n j).toNat) (lastOf f n j - e).toNat (min e (lastOf f n j) - min (min e j) (lastOf f n j)).toNat
    have r2 := rnd_shift (n * 2 ^ (j - lastOf f n j).toNat) (lastOf f n j - j).toNat (min j (lastOf f n j) - min (min e j) (lastOf f n j)).toNat
    rw [← r1, ← r2]
    rw [Nat.mul_assoc, Nat.mul_assoc, ← Nat.pow_add, ← Nat.pow_add]
    rw [show (lastOf f n j - e).toNat + (min e (lastOf f n j) - min (min e j) (lastOf f n j)).toNat = (lastOf f n j - min (min e j) (lastOf f n j)).toNat by omega]
    rw [show (lastOf f n j - j).toNat + (min j (lastOf f n j) - min (min e j) (lastOf f n j)).toNat = (lastOf f n j - min (min e j) (lastOf f n j)).toNat by omega]
    rw [show (e - lastOf f n j).toNat + (min e (lastOf f n j) - min (min e j) (lastOf f n j)).toNat = (e - min (min e j) (lastOf f n j)).toNat by omega]
    rw [show (j - lastOf f n j).toNat + (min j (lastOf f n j) - min (min e j) (lastOf f n j)).toNat = (j - min (min e j) (lastOf f n j)).toNat by omega]
    exact rnd_mono _ hb

/-- What a rung stands for. -/
def magOf (f : Ieee.Format) (r : Nat) : Nat := if r < f.binade then r else f.binade + r % f.binade
def placeOf (f : Ieee.Format) (r : Nat) : Int := if r < f.binade then f.leastPlace else f.leastPlace + (r / f.binade - 1 : Nat)

theorem read_word {k : FloatKind} {s : Bool} {r : Nat} (h : r < k.format.infRung) : k.format.read (k.format.word s r) = .number s (magOf k.format r) (placeOf k.format r) := by
  unfold Ieee.Format.read Ieee.Format.word magOf placeOf
  have hlt := Ieee.Format.infRung_lt k.format
  have hw : 0 < k.format.signWeight := by omega
  have hm : (if s = true then k.format.signWeight + r else r) % k.format.signWeight = r := by
    split
    · rw [Nat.add_mod_left, Nat.mod_eq_of_lt (by omega)]
    · exact Nat.mod_eq_of_lt (by omega)
  have hs : ((if s = true then k.format.signWeight + r else r) / k.format.signWeight % 2 == 1) = s := by
    cases s
    · rw [if_neg (by simp), Nat.div_eq_of_lt (by omega)]; rfl
    · rw [if_pos rfl, Nat.add_div_left _ hw, Nat.div_eq_of_lt (by omega)]; rfl
  simp only [hm, hs]
  split
  · rfl
  · rfl

theorem binade_pos (f : Ieee.Format) : 0 < f.binade := Nat.two_pow_pos _

/-- A number that the format has is written as it is. -/
theorem rung_read (f : Ieee.Format) (r : Nat) : rungOf f (magOf f r) (placeOf f r) = r := by
  have hB := binade_pos f
  unfold magOf placeOf
  by_cases h : r < f.binade
  · rw [if_pos h, if_pos h]
    unfold rungOf
    by_cases h0 : r = 0
    · rw [if_pos h0, h0]
    · rw [if_neg h0]
      have hl : r.log2 < f.fractionBits := (Nat.log2_lt h0).2 h
      have : lastOf f r f.leastPlace = f.leastPlace := by unfold lastOf; omega
      rw [this]
      simp [rnd_zero]
  · rw [if_neg h, if_neg h]
    unfold rungOf
    have hmod := Nat.mod_lt r hB
    rw [if_neg (by omega)]
    have hl1 : f.fractionBits ≤ (f.binade + r % f.binade).log2 := (Nat.le_log2 (by omega)).2 (Nat.le_add_right _ _)
    have hl2 : (f.binade + r % f.binade).log2 < f.fractionBits + 1 := (Nat.log2_lt (by omega)).2 (by rw [Nat.pow_succ]; unfold Ieee.Format.binade at *; omega)
    have hl : (f.binade + r % f.binade).log2 = f.fractionBits := by omega
    have : lastOf f (f.binade + r % f.binade) (f.leastPlace + (r / f.binade - 1 : Nat)) = f.leastPlace + (r / f.binade - 1 : Nat) := by unfold lastOf; rw [hl]; omega
    rw [this]
    simp only [Int.sub_self, Int.toNat_zero, Nat.pow_zero, Nat.mul_one, rnd_zero]
    rw [show (f.leastPlace + ((r / f.binade - 1 : Nat) : Int) - f.leastPlace).toNat = r / f.binade - 1 by omega]
    have hd : 1 ≤ r / f.binade := (Nat.one_le_div_iff hB).2 (by omega)
    have h1 := Nat.div_add_mod r f.binade
    have h2 : (r / f.binade - 1) * f.binade + f.binade = r / f.binade * f.binade := by
      have : r / f.binade = (r / f.binade - 1) + 1 := by omega
      rw [this]
      rw [Nat.add_sub_cancel, Nat.add_mul, Nat.one_mul]
    rw [Nat.mul_comm] at h1
    omega

theorem NumLe.total (m n : Nat) (e j : Int) : NumLe m e n j ∨ NumLe n j m e := by
  unfold NumLe
  rw [Int.min_comm j e]
  exact Nat.le_total _ _
theorem numle_of_rung (f : Ieee.Format) {r r' : Nat} (h : r ≤ r') : NumLe (magOf f r) (placeOf f r) (magOf f r') (placeOf f r') := by
  rcases Nat.eq_or_lt_of_le h with rfl | h
  · exact Nat.le_refl _
  · rcases NumLe.total (magOf f r) (magOf f r') (placeOf f r) (placeOf f r') with h1 | h1
    · exact h1
    · have := rung_mono f h1
      rw [rung_read, rung_read] at this
      omega
/-- What is at most a number that the format has is written to no higher rung. -/
theorem rung_le (f : Ieee.Format) {m : Nat} {e : Int} {r : Nat} (h : NumLe m e (magOf f r) (placeOf f r)) : rungOf f m e ≤ r := by
  have := rung_mono f h
  rwa [rung_read] at this
theorem rung_ge (f : Ieee.Format) {m : Nat} {e : Int} {r : Nat} (h : NumLe (magOf f r) (placeOf f r) m e) : r ≤ rungOf f m e := by
  have := rung_mono f h
  rwa [rung_read] at this
end Go.Proofs.Yteabfkgbakoljaa.Fl
