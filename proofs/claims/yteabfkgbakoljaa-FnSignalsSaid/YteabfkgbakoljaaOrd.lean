/-
  The order of numbers, in plain integers: finite words stand for numbers, and the order of finite words is that of these.
-/
import Derived.Test.YteabfkgbakoljaaFl
namespace Go.Proofs.Yteabfkgbakoljaa.Fl
open Go.RowKit
set_option linter.unusedVariables false

/-- Is a number finite. -/
def fin (k : FloatKind) (x : Nat) : Bool := k.format.order (fb .sub k x x) 0 == some .eq
theorem fin_cn (k : FloatKind) (x : Nat) : fin k (cn k x) = fin k x := by unfold fin; rw [fb_cn]

/-- 'm 2^i' with its sign, counted in units of '2^b'. -/
def sval (s : Bool) (m : Nat) (i b : Int) : Int := Ieee.signed s m (i - b).toNat

theorem signed_mul (s : Bool) (m u v : Nat) : Ieee.signed s m (u + v) = Ieee.signed s m u * 2 ^ v := by
  unfold Ieee.signed
  have h : ((m <<< (u + v) : Nat) : Int) = ((m <<< u : Nat) : Int) * 2 ^ v := by
    rw [Nat.shiftLeft_eq, Nat.shiftLeft_eq, Nat.pow_add, ← Nat.mul_assoc]
    push_cast
    rfl
  split
  · rw [h, Int.neg_mul]
  · exact h
theorem sval_shift (s : Bool) (m : Nat) {i b c : Int} (h1 : b ≤ c) (h2 : c ≤ i) : sval s m i b = sval s m i c * 2 ^ (c - b).toNat := by
  unfold sval
  rw [← signed_mul]
  congr 1
  omega

theorem compare_int (a b : Int) : compare a b = if a < b then .lt else if a = b then .eq else .gt := by
  simp only [compare, compareOfLessAndEq]
theorem compare_mul (a b : Int) {p : Int} (hp : 0 < p) : compare (a * p) (b * p) = compare a b := by
  rw [compare_int, compare_int]
  have h1 : a * p < b * p ↔ a < b := Int.mul_lt_mul_right hp
  have h2 : a * p = b * p ↔ a = b := Int.mul_eq_mul_right_iff (by omega)
  simp only [h1, h2]

theorem order_num {k : FloatKind} {x y : Nat} {s t : Bool} {m n : Nat} {i j : Int} (hx : k.format.read x = .number s m i) (hy : k.format.read y = .number t n j) {b : Int} (h1 : b ≤ i) (h2 : b ≤ j) :
    k.format.order x y = some (compare (sval s m i b) (sval t n j b)) := by
  unfold Ieee.Format.order
  rw [hx, hy]
  show some (compare (sval s m i (min i j)) (sval t n j (min i j))) = _
  rw [sval_shift s m (b := b) (c := min i j) (by omega) (by omega), sval_shift t n (b := b) (c := min i j) (by omega) (by omega), compare_mul]
  exact Int.pow_pos (by decide)

theorem nearest_zero (f : Ieee.Format) (s : Bool) (e : Int) : f.nearest s 0 e = f.word s 0 := by simp [Ieee.Format.nearest]

theorem read_zero_word (k : FloatKind) (s : Bool) : ∃ p, k.format.read (k.format.word s 0) = .number s 0 p := by
  exact ⟨k.format.leastPlace, by cases k <;> cases s <;> decide +kernel⟩

theorem fin_iff (k : FloatKind) (x : Nat) : fin k x = true ↔ ∃ s m i, k.format.read x = .number s m i := by
  unfold fin fb floatBits Ieee.Format.sub
  cases hx : k.format.read x with
  | nan s t =>
    constructor
    · intro h
      simp only [Ieee.Datum.sum, Option.map_none, Option.getD_none] at h
      rw [cn_nan (isNan_nanOf k)] at h
      obtain ⟨s', t', hr⟩ := read_nan (isNan_nanOf k)
      unfold Ieee.Format.order at h
      rw [hr] at h
      simp [Ieee.Datum.order] at h
    · rintro ⟨s', m, i, h⟩; cases h
  | infinity s =>
    constructor
    · intro h
      have : (s = !s) = False := by cases s <;> simp
      simp only [Ieee.Datum.sum, Ieee.Datum.opposite, this, if_false, Option.map_none, Option.getD_none] at h
      rw [cn_nan (isNan_nanOf k)] at h
      obtain ⟨s', t', hr⟩ := read_nan (isNan_nanOf k)
      unfold Ieee.Format.order at h
      rw [hr] at h
      simp [Ieee.Datum.order] at h
    · rintro ⟨s', m, i, h⟩; cases h
  | number s m i =>
    constructor
    · intro _; exact ⟨s, m, i, rfl⟩
    · intro _
      have h0 : Ieee.signed s m (i - min i i).toNat + Ieee.signed (!s) m (i - min i i).toNat = 0 := by
        unfold Ieee.signed
        cases s <;> simp <;> omega
      simp only [Ieee.Datum.sum, Ieee.Datum.opposite, h0, if_true, Option.map_some, Option.getD_some, Int.natAbs_zero, Ieee.Format.write, nearest_zero]
      obtain ⟨p, hp⟩ := read_zero_word k (s && !s)
      have hn : isNan k (k.format.word (s && !s) 0) = false := by unfold isNan; rw [hp]; rfl
      rw [cn_num hn]
      obtain ⟨p0, hp0⟩ := read_zero_word k false
      have e0 : k.format.word false 0 = 0 := rfl
      rw [e0] at hp0
      rw [order_num hp hp0 (b := min p p0) (by omega) (by omega)]
      simp [sval, Ieee.signed]

/-- What is greater than a number is not less than one that is at most this. -/
theorem gt_not_lt {k : FloatKind} {x on off : Nat} (h1 : fin k on = true) (h2 : fin k off = true) (hx : fin k x = true) (hgt : k.format.order x on = some .gt) (hle : k.format.order off on ≠ some .gt) :
    k.format.order x off ≠ some .lt := by
  obtain ⟨s1, m1, i1, r1⟩ := (fin_iff k on).1 h1
  obtain ⟨s2, m2, i2, r2⟩ := (fin_iff k off).1 h2
  obtain ⟨s3, m3, i3, r3⟩ := (fin_iff k x).1 hx
  have b1 : min i1 (min i2 i3) ≤ i1 := by omega
  have b2 : min i1 (min i2 i3) ≤ i2 := by omega
  have b3 : min i1 (min i2 i3) ≤ i3 := by omega
  rw [order_num r3 r1 b3 b1] at hgt
  rw [order_num r2 r1 b2 b1] at hle
  rw [order_num r3 r2 b3 b2]
  generalize sval s1 m1 i1 (min i1 (min i2 i3)) = a at *
  generalize sval s2 m2 i2 (min i1 (min i2 i3)) = b at *
  generalize sval s3 m3 i3 (min i1 (min i2 i3)) = c at *
  rw [compare_int] at *
  intro h
  simp only [Option.some.injEq] at *
  split at h
  · split at hgt
    · cases hgt
    · split at hgt
      · cases hgt
      · refine hle ?_
        rw [if_neg (by omega), if_neg (by omega)]
  · split at h <;> cases h
end Go.Proofs.Yteabfkgbakoljaa.Fl
