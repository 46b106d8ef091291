/-
  Floats told but for the bits of a not-a-number: 'cn k b' is the word b, one fixed word where b is a not-a-number; 'fb op k x y' is what '+', '-', '*', '/' give, so told. No program is in sight here.
-/
import Derived.Laws.FloatArith
import Derived.Deep.Draws
import Derived.Lib.Hide
import Derived.WalkKit
namespace Go.Proofs.YtjmpldcnhjgpkaaGreatDoor.Fl
open Go.RowKit

/-- One fixed not-a-number of each kind. -/
def nanOf : FloatKind → Nat
  | .f32 => 2143289344
  | .f64 => 9221120237041090560

def isNan (k : FloatKind) (b : Nat) : Bool := (k.format.read b).isNaN

/-- The word b, but one fixed word where it is a not-a-number. -/
def cn (k : FloatKind) (b : Nat) : Nat := if isNan k b then nanOf k else b

theorem isNan_nanOf (k : FloatKind) : isNan k (nanOf k) = true := by cases k <;> decide +kernel

theorem cn_nan {k : FloatKind} {b : Nat} (h : isNan k b = true) : cn k b = nanOf k := by simp [cn, h]
theorem cn_num {k : FloatKind} {b : Nat} (h : isNan k b = false) : cn k b = b := by simp [cn, h]
theorem isNan_cn (k : FloatKind) (b : Nat) : isNan k (cn k b) = isNan k b := by
  cases h : isNan k b
  · rw [cn_num h, h]
  · rw [cn_nan h, isNan_nanOf]
theorem cn_cn (k : FloatKind) (b : Nat) : cn k (cn k b) = cn k b := by
  cases h : isNan k b
  · rw [cn_num h, cn_num h]
  · rw [cn_nan h, cn_nan (isNan_nanOf k)]
theorem isNan_of_cn {k : FloatKind} {a b : Nat} (h : cn k a = cn k b) : isNan k a = isNan k b := by rw [← isNan_cn k a, h, isNan_cn]
theorem eq_of_cn {k : FloatKind} {a b : Nat} (h : cn k a = cn k b) (ha : isNan k a = false) : a = b := by
  have hb : isNan k b = false := by rw [← isNan_of_cn h]; exact ha
  rw [cn_num ha, cn_num hb] at h; exact h

theorem read_nan {k : FloatKind} {b : Nat} (h : isNan k b = true) : ∃ s t, k.format.read b = .nan s t := by
  unfold isNan at h
  cases hr : k.format.read b with
  | nan s t => exact ⟨s, t, rfl⟩
  | number s m e => rw [hr] at h; cases h
  | infinity s => rw [hr] at h; cases h

/-- What '+', '-', '*', '/' give, told so. -/
def fb (op : BinOp) (k : FloatKind) (x y : Nat) : Nat := cn k ((floatBits op k x y).getD (nanOf k))

theorem floatBits_nan_left {op : BinOp} {k : FloatKind} {x y : Nat} (h : isNan k x = true) : floatBits op k x y = none := by
  obtain ⟨s, t, hr⟩ := read_nan h
  unfold floatBits
  split <;> simp [Ieee.Format.add, Ieee.Format.sub, Ieee.Format.mul, Ieee.Format.div, hr, Ieee.Datum.sum, Ieee.Datum.product, Ieee.Datum.quotient]

theorem floatBits_nan_right {op : BinOp} {k : FloatKind} {x y : Nat} (h : isNan k y = true) : floatBits op k x y = none := by
  obtain ⟨s, t, hr⟩ := read_nan h
  unfold floatBits
  split <;> simp only [Ieee.Format.add, Ieee.Format.sub, Ieee.Format.mul, Ieee.Format.div, hr, Ieee.Datum.opposite] <;>
    (cases k.format.read x <;> simp [Ieee.Datum.sum, Ieee.Datum.product, Ieee.Datum.quotient])

theorem floatBits_cn (op : BinOp) (k : FloatKind) (x y : Nat) : floatBits op k (cn k x) (cn k y) = floatBits op k x y := by
  cases hx : isNan k x
  · cases hy : isNan k y
    · rw [cn_num hx, cn_num hy]
    · rw [floatBits_nan_right hy, floatBits_nan_right (by rw [isNan_cn]; exact hy)]
  · rw [floatBits_nan_left hx, floatBits_nan_left (by rw [isNan_cn]; exact hx)]

theorem fb_cn (op : BinOp) (k : FloatKind) (x y : Nat) : fb op k (cn k x) (cn k y) = fb op k x y := by unfold fb; rw [floatBits_cn]
theorem fb_cnl (op : BinOp) (k : FloatKind) (x y : Nat) : fb op k (cn k x) y = fb op k x y := by rw [← fb_cn, cn_cn, fb_cn]
theorem fb_cnr (op : BinOp) (k : FloatKind) (x y : Nat) : fb op k x (cn k y) = fb op k x y := by rw [← fb_cn, cn_cn, fb_cn]
theorem cn_fb (op : BinOp) (k : FloatKind) (x y : Nat) : cn k (fb op k x y) = fb op k x y := by unfold fb; rw [cn_cn]

theorem order_cn (k : FloatKind) (x y : Nat) : k.format.order (cn k x) (cn k y) = k.format.order x y := by
  cases hx : isNan k x
  · cases hy : isNan k y
    · rw [cn_num hx, cn_num hy]
    · obtain ⟨s, t, hr⟩ := read_nan hy
      obtain ⟨s', t', hr'⟩ := read_nan (k := k) (b := cn k y) (by rw [isNan_cn]; exact hy)
      unfold Ieee.Format.order
      rw [hr, hr']
      cases k.format.read x <;> cases k.format.read (cn k x) <;> simp [Ieee.Datum.order]
  · obtain ⟨s, t, hr⟩ := read_nan hx
    obtain ⟨s', t', hr'⟩ := read_nan (k := k) (b := cn k x) (by rw [isNan_cn]; exact hx)
    unfold Ieee.Format.order
    rw [hr, hr']
    simp [Ieee.Datum.order]
theorem order_cnl (k : FloatKind) (x y : Nat) : k.format.order (cn k x) y = k.format.order x y := by rw [← order_cn, cn_cn, order_cn]
theorem order_cnr (k : FloatKind) (x y : Nat) : k.format.order x (cn k y) = k.format.order x y := by rw [← order_cn, cn_cn, order_cn]

theorem order_self (k : FloatKind) (x : Nat) : k.format.order x x = if isNan k x then none else some .eq := by
  unfold Ieee.Format.order isNan
  cases k.format.read x <;> simp [Ieee.Datum.order, Ieee.Datum.isNaN]

/-- The not-a-number that the model draws is one, and fits its kind. -/
theorem drawn_nan (k : FloatKind) (x y t : Nat) : isNan k ((Question.nanBits k x y).cut t) = true ∧ (Question.nanBits k x y).cut t < 2 ^ k.format.width := by
  cases k
  · have h1 : t % 2 < 2 := Nat.mod_lt _ (by omega)
    have h2 : t / 2 % (2 ^ 23 - 1) < 2 ^ 23 - 1 := Nat.mod_lt _ (by omega)
    have hw : 2 ^ FloatKind.f32.format.width = 4294967296 := by decide +kernel
    simp only [Question.cut, hw]
    generalize t % 2 = a at *
    generalize t / 2 % (2 ^ 23 - 1) = b at *
    refine ⟨?_, by omega⟩
    unfold isNan Ieee.Format.read
    have e1 : FloatKind.f32.format.signWeight = 2147483648 := by decide +kernel
    have e2 : FloatKind.f32.format.binade = 8388608 := by decide +kernel
    have e3 : FloatKind.f32.format.infRung = 2139095040 := by decide +kernel
    simp only [e1, e2, e3]
    have hm : (a * 2 ^ 31 + 0x7f800000 + 1 + b) % 2147483648 = 2139095041 + b := by omega
    rw [hm, if_neg (by omega), if_neg (by omega), if_neg (by omega)]
    rfl
  · have h1 : t % 2 < 2 := Nat.mod_lt _ (by omega)
    have h2 : t / 2 % (2 ^ 52 - 1) < 2 ^ 52 - 1 := Nat.mod_lt _ (by omega)
    have hw : 2 ^ FloatKind.f64.format.width = 18446744073709551616 := by decide +kernel
    simp only [Question.cut, hw]
    generalize t % 2 = a at *
    generalize t / 2 % (2 ^ 52 - 1) = b at *
    refine ⟨?_, by omega⟩
    unfold isNan Ieee.Format.read
    have e1 : FloatKind.f64.format.signWeight = 9223372036854775808 := by decide +kernel
    have e2 : FloatKind.f64.format.binade = 4503599627370496 := by decide +kernel
    have e3 : FloatKind.f64.format.infRung = 9218868437227405312 := by decide +kernel
    simp only [e1, e2, e3]
    have hm : (a * 2 ^ 63 + 0x7ff0000000000000 + 1 + b) % 9223372036854775808 = 9218868437227405313 + b := by omega
    rw [hm, if_neg (by omega), if_neg (by omega), if_neg (by omega)]
    rfl

theorem drawn_conv (k : FloatKind) (x t : Nat) : isNan k ((Question.nanConv k x).cut t) = true ∧ (Question.nanConv k x).cut t < 2 ^ k.format.width := by
  have h := drawn_nan k x x t
  cases k <;> exact h
theorem drawn_minmax (k : FloatKind) (b : Bool) (x y t : Nat) : isNan k ((Question.nanMinMax k b x y).cut t) = true ∧ (Question.nanMinMax k b x y).cut t < 2 ^ k.format.width := by
  have h := drawn_nan k x y t
  cases k <;> exact h

theorem wf_of (k : FloatKind) {b : Nat} (h : b < 2 ^ k.format.width) : (Lit.float k b).wf = true := wf_of_lt k b h
theorem lt_of_wf {k : FloatKind} {b : Nat} (h : (Lit.float k b).wf = true) : b < 2 ^ k.format.width := by
  cases k
  · have hw : 2 ^ FloatKind.f32.format.width = 4294967296 := by decide +kernel
    rw [hw]; simpa [Lit.wf] using h
  · have hw : 2 ^ FloatKind.f64.format.width = 18446744073709551616 := by decide +kernel
    rw [hw]; simpa [Lit.wf] using h

def Wf (k : FloatKind) (b : Nat) : Prop := b < 2 ^ k.format.width

section
variable {P : Program}

theorem farith (op : BinOp) (hop : op = .add ∨ op = .sub ∨ op = .mul ∨ op = .quo) (k : FloatKind) (x y : Nat) (w : World) :
    ∃ r n, (Op.floatArith op k x y).run P w = .ok (.float k r) (w.drewN n) ∧ cn k r = fb op k x y ∧ Wf k r := by
  cases h : floatBits op k x y with
  | some r =>
    refine ⟨r, 0, ?_, by simp [fb, h], lt_of_wf (floatBits_wf h)⟩
    rcases hop with rfl | rfl | rfl | rfl <;> simp only [floatBits] at h <;> simp [Op.floatArith, h, World.drewN_zero]
  | none =>
    have hd := drawn_nan k x y (w.tape w.drawn (.nanBits k x y))
    refine ⟨(Question.nanBits k x y).cut (w.tape w.drawn (.nanBits k x y)), 1, ?_, by rw [cn_nan hd.1]; simp [fb, h, cn_nan (isNan_nanOf k)], hd.2⟩
    rcases hop with rfl | rfl | rfl | rfl <;> simp only [floatBits] at h <;> simp [Op.floatArith, h, go_sem, World.drew_is_drewN]

theorem farith_bin (op : BinOp) (hop : op = .add ∨ op = .sub ∨ op = .mul ∨ op = .quo) (t : TypeId) (k : FloatKind) (x y : Nat) (w : World) :
    ∃ r n, (binOp op t (.float k x) (.float k y)).run P w = .ok (.float k r) (w.drewN n) ∧ cn k r = fb op k x y ∧ Wf k r := by
  obtain ⟨r, n, hr, h1, h2⟩ := farith (P := P) op hop k x y w
  refine ⟨r, n, ?_, h1, h2⟩
  rw [← hr]
  rcases hop with rfl | rfl | rfl | rfl <;> simp [binOp]
end
end Go.Proofs.YtjmpldcnhjgpkaaGreatDoor.Fl

/-
  The order of numbers, in plain integers: finite words stand for numbers, and the order of finite words is that of these.
-/
namespace Go.Proofs.YtjmpldcnhjgpkaaGreatDoor.Fl
open Go.RowKit
set_option linter.unusedVariables false

/-- Is a number finite. -/
def fin (k : FloatKind) (x : Nat) : Bool := k.format.order (fb .sub k x x) 0 == some .eq
theorem fin_cn (k : FloatKind) (x : Nat) : fin k (cn k x) = fin k x := by unfold fin; rw [fb_cn]

/-- 'm 2^i' with its sign, counted in units of '2^b'. -/
def sval (s : Bool) (m : Nat) (i b : Int) : Int := Ieee.signed s m (i - b).toNat

theorem signed_mul (s : Bool) (m u v : Nat) : Ieee.signed s m (u + v) = Ieee.signed s m u * 2 ^ v := by
  unfold Ieee.signed
  have h : ((m <<< (u + v) : Nat) : Int) = ((m <<< u : Nat) : Int) * 2 ^ v := by
    rw [Nat.shiftLeft_eq, Nat.shiftLeft_eq, Nat.pow_add, ← Nat.mul_assoc]
    push_cast
    rfl
  split
  · rw [h, Int.neg_mul]
  · exact h
theorem sval_shift (s : Bool) (m : Nat) {i b c : Int} (h1 : b ≤ c) (h2 : c ≤ i) : sval s m i b = sval s m i c * 2 ^ (c - b).toNat := by
  unfold sval
  rw [← signed_mul]
  congr 1
  omega

theorem compare_int (a b : Int) : compare a b = if a < b then .lt else if a = b then .eq else .gt := by
  simp only [compare, compareOfLessAndEq]
theorem compare_mul (a b : Int) {p : Int} (hp : 0 < p) : compare (a * p) (b * p) = compare a b := by
  rw [compare_int, compare_int]
  have h1 : a * p < b * p ↔ a < b := Int.mul_lt_mul_right hp
  have h2 : a * p = b * p ↔ a = b := Int.mul_eq_mul_right_iff (by omega)
  simp only [h1, h2]

theorem order_num {k : FloatKind} {x y : Nat} {s t : Bool} {m n : Nat} {i j : Int} (hx : k.format.read x = .number s m i) (hy : k.format.read y = .number t n j) {b : Int} (h1 : b ≤ i) (h2 : b ≤ j) :
    k.format.order x y = some (compare (sval s m i b) (sval t n j b)) := by
  unfold Ieee.Format.order
  rw [hx, hy]
  show some (compare (sval s m i (min i j)) (sval t n j (min i j))) = _
  rw [sval_shift s m (b := b) (c := min i j) (by omega) (by omega), sval_shift t n (b := b) (c := min i j) (by omega) (by omega), compare_mul]
  exact Int.pow_pos (by decide)

theorem nearest_zero (f : Ieee.Format) (s : Bool) (e : Int) : f.nearest s 0 e = f.word s 0 := by simp [Ieee.Format.nearest]

theorem read_zero_word (k : FloatKind) (s : Bool) : ∃ p, k.format.read (k.format.word s 0) = .number s 0 p := by
  exact ⟨k.format.leastPlace, by cases k <;> cases s <;> decide +kernel⟩

theorem fin_iff (k : FloatKind) (x : Nat) : fin k x = true ↔ ∃ s m i, k.format.read x = .number s m i := by
  unfold fin fb floatBits Ieee.Format.sub
  cases hx : k.format.read x with
  | nan s t =>
    constructor
    · intro h
      simp only [Ieee.Datum.sum, Option.map_none, Option.getD_none] at h
      rw [cn_nan (isNan_nanOf k)] at h
      obtain ⟨s', t', hr⟩ := read_nan (isNan_nanOf k)
      unfold Ieee.Format.order at h
      rw [hr] at h
      simp [Ieee.Datum.order] at h
    · rintro ⟨s', m, i, h⟩; cases h
  | infinity s =>
    constructor
    · intro h
      have : (s = !s) = False := by cases s <;> simp
      simp only [Ieee.Datum.sum, Ieee.Datum.opposite, this, if_false, Option.map_none, Option.getD_none] at h
      rw [cn_nan (isNan_nanOf k)] at h
      obtain ⟨s', t', hr⟩ := read_nan (isNan_nanOf k)
      unfold Ieee.Format.order at h
      rw [hr] at h
      simp [Ieee.Datum.order] at h
    · rintro ⟨s', m, i, h⟩; cases h
  | number s m i =>
    constructor
    · intro _; exact ⟨s, m, i, rfl⟩
    · intro _
      have h0 : Ieee.signed s m (i - min i i).toNat + Ieee.signed (!s) m (i - min i i).toNat = 0 := by
        unfold Ieee.signed
        cases s <;> simp <;> omega
      simp only [Ieee.Datum.sum, Ieee.Datum.opposite, h0, if_true, Option.map_some, Option.getD_some, Int.natAbs_zero, Ieee.Format.write, nearest_zero]
      obtain ⟨p, hp⟩ := read_zero_word k (s && !s)
      have hn : isNan k (k.format.word (s && !s) 0) = false := by unfold isNan; rw [hp]; rfl
      rw [cn_num hn]
      obtain ⟨p0, hp0⟩ := read_zero_word k false
      have e0 : k.format.word false 0 = 0 := rfl
      rw [e0] at hp0
      rw [order_num hp hp0 (b := min p p0) (by omega) (by omega)]
      simp [sval, Ieee.signed]

/-- What is greater than a number is not less than one that is at most this. -/
theorem gt_not_lt {k : FloatKind} {x on off : Nat} (h1 : fin k on = true) (h2 : fin k off = true) (hx : fin k x = true) (hgt : k.format.order x on = some .gt) (hle : k.format.order off on ≠ some .gt) :
    k.format.order x off ≠ some .lt := by
  obtain ⟨s1, m1, i1, r1⟩ := (fin_iff k on).1 h1
  obtain ⟨s2, m2, i2, r2⟩ := (fin_iff k off).1 h2
  obtain ⟨s3, m3, i3, r3⟩ := (fin_iff k x).1 hx
  have b1 : min i1 (min i2 i3) ≤ i1 := by omega
  have b2 : min i1 (min i2 i3) ≤ i2 := by omega
  have b3 : min i1 (min i2 i3) ≤ i3 := by omega
  rw [order_num r3 r1 b3 b1] at hgt
  rw [order_num r2 r1 b2 b1] at hle
  rw [order_num r3 r2 b3 b2]
  generalize sval s1 m1 i1 (min i1 (min i2 i3)) = a at *
  generalize sval s2 m2 i2 (min i1 (min i2 i3)) = b at *
  generalize sval s3 m3 i3 (min i1 (min i2 i3)) = c at *
  rw [compare_int] at *
  intro h
  simp only [Option.some.injEq] at *
  split at h
  · split at hgt
    · cases hgt
    · split at hgt
      · cases hgt
      · refine hle ?_
        rw [if_neg (by omega), if_neg (by omega)]
  · split at h <;> cases h
end Go.Proofs.YtjmpldcnhjgpkaaGreatDoor.Fl

/-
  Rounding, in plain numbers: the rung that a number is written to rises with the number, and a number that the format has is written as it is.
-/
namespace Go.Proofs.YtjmpldcnhjgpkaaGreatDoor.Fl
open Go.RowKit
set_option linter.unusedVariables false

/-- 'n / 2^d' to the nearest whole number, between two the even one. -/
def rnd (n d : Nat) : Nat := n / 2 ^ d + (if 2 ^ d < 2 * (n % 2 ^ d) ∨ (2 ^ d = 2 * (n % 2 ^ d) ∧ n / 2 ^ d % 2 = 1) then 1 else 0)

theorem cut_rnd (s : Bool) (n d : Nat) : Ieee.Toward.even.cut s n d = rnd n d := by
  unfold Ieee.Toward.cut rnd
  rw [Nat.shiftLeft_eq, Nat.one_mul]
  rcases Nat.le_total d (n.log2 + 2) with h | h
  · rw [Nat.min_eq_left h]
    simp only [Nat.add_left_cancel_iff]
    by_cases h1 : 2 ^ d < 2 * (n % 2 ^ d)
    · simp [h1]
    · by_cases h2 : 2 ^ d = 2 * (n % 2 ^ d)
      · rw [← h2]
        by_cases h3 : n / 2 ^ d % 2 = 1 <;> simp [h3]
      · have h2' : (2 ^ d == 2 * (n % 2 ^ d)) = false := by simpa using h2
        simp [h1, h2, h2']
  · rw [Nat.min_eq_right h]
    have hlt : n < 2 ^ (n.log2 + 1) := Nat.lt_log2_self
    have e1 : 2 ^ (n.log2 + 2) = 2 * 2 ^ (n.log2 + 1) := by rw [Nat.pow_succ 2 (n.log2 + 1), Nat.mul_comm]
    have e2 : 2 ^ (n.log2 + 2) ≤ 2 ^ d := Nat.pow_le_pow_right (by omega) h
    have d1 : n / 2 ^ (n.log2 + 2) = 0 := Nat.div_eq_of_lt (by omega)
    have d2 : n / 2 ^ d = 0 := Nat.div_eq_of_lt (by omega)
    have m1 : n % 2 ^ (n.log2 + 2) = n := Nat.mod_eq_of_lt (by omega)
    have m2 : n % 2 ^ d = n := Nat.mod_eq_of_lt (by omega)
    simp only []
    rw [d1, d2, m1, m2]
    have c1 : ¬ 2 ^ (n.log2 + 2) < 2 * n := by omega
    have c3 : ¬ 2 ^ d < 2 * n := by omega
    simp [c1, c3]

/-- Doubled, and one more or less: where the rounded number lies. -/
theorem rnd_le (n d : Nat) : 2 * (rnd n d * 2 ^ d) ≤ 2 * n + 2 ^ d := by
  unfold rnd
  have h := Nat.div_add_mod n (2 ^ d)
  have hm := Nat.mod_lt n (Nat.two_pow_pos d)
  generalize n / 2 ^ d = q at *
  generalize n % 2 ^ d = r at *
  generalize 2 ^ d = g at *
  rw [Nat.mul_comm] at h
  split
  · rename_i hc
    rw [Nat.add_mul]
    omega
  · rw [Nat.add_zero]; omega
theorem rnd_ge (n d : Nat) : 2 * n ≤ 2 * (rnd n d * 2 ^ d) + 2 ^ d := by
  unfold rnd
  have h := Nat.div_add_mod n (2 ^ d)
  have hm := Nat.mod_lt n (Nat.two_pow_pos d)
  generalize n / 2 ^ d = q at *
  generalize n % 2 ^ d = r at *
  generalize 2 ^ d = g at *
  rw [Nat.mul_comm] at h
  split
  · rename_i hc
    rw [Nat.add_mul]
    omega
  · rename_i hc
    rw [Nat.add_zero]; omega

/-- The rounded number rises. -/
theorem rnd_mono {n n' : Nat} (d : Nat) (h : n ≤ n') : rnd n d ≤ rnd n' d := by
  have hg := Nat.two_pow_pos d
  have h1 := Nat.div_add_mod n (2 ^ d)
  have h2 := Nat.div_add_mod n' (2 ^ d)
  have hm1 := Nat.mod_lt n hg
  have hm2 := Nat.mod_lt n' hg
  have hq : n / 2 ^ d ≤ n' / 2 ^ d := Nat.div_le_div_right h
  unfold rnd
  rcases Nat.lt_or_ge (n / 2 ^ d) (n' / 2 ^ d) with hlt | hge
  · split <;> split <;> omega
  · have he : n / 2 ^ d = n' / 2 ^ d := by omega
    rw [he] at h1 ⊢
    have hr : n % 2 ^ d ≤ n' % 2 ^ d := by omega
    generalize n' / 2 ^ d = q at *
    generalize n % 2 ^ d = r at *
    generalize n' % 2 ^ d = r' at *
    generalize 2 ^ d = g at *
    split
    · rename_i hc
      rw [if_pos]
      · omega
      · rcases hc with hc | ⟨hc, hc'⟩
        · left; omega
        · rcases Nat.lt_or_ge g (2 * r') with h5 | h5
          · left; exact h5
          · right; exact ⟨by omega, hc'⟩
    · omega
theorem rnd_shift (n d j : Nat) : rnd (n * 2 ^ j) (d + j) = rnd n d := by
  unfold rnd
  have hj := Nat.two_pow_pos j
  have e1 : n * 2 ^ j / 2 ^ (d + j) = n / 2 ^ d := by rw [Nat.pow_add, Nat.mul_div_mul_right _ _ hj]
  have e2 : n * 2 ^ j % 2 ^ (d + j) = n % 2 ^ d * 2 ^ j := by rw [Nat.pow_add, Nat.mul_mod_mul_right]
  rw [e1, e2, Nat.pow_add]
  have c1 : (2 ^ d * 2 ^ j < 2 * (n % 2 ^ d * 2 ^ j)) ↔ (2 ^ d < 2 * (n % 2 ^ d)) := by rw [← Nat.mul_assoc]; exact Nat.mul_lt_mul_right hj
  have c2 : (2 ^ d * 2 ^ j = 2 * (n % 2 ^ d * 2 ^ j)) ↔ (2 ^ d = 2 * (n % 2 ^ d)) := by rw [← Nat.mul_assoc]; exact Nat.mul_right_cancel_iff hj
  simp only [c1, c2]
theorem rnd_zero (n : Nat) : rnd n 0 = n := by unfold rnd; simp [Nat.mod_one]

/-- The place of the last digit that is kept. -/
def lastOf (f : Ieee.Format) (m : Nat) (e : Int) : Int := max (e + m.log2 - f.fractionBits) f.leastPlace
/-- The rung that 'm 2^e' is written to; 0 for 0. -/
def rungOf (f : Ieee.Format) (m : Nat) (e : Int) : Nat :=
  if m = 0 then 0 else (lastOf f m e - f.leastPlace).toNat * f.binade + rnd (m * 2 ^ (e - lastOf f m e).toNat) (lastOf f m e - e).toNat

theorem nearest_rung (f : Ieee.Format) (s : Bool) (m : Nat) (e : Int) : f.nearest s m e = f.word s (min (rungOf f m e) f.infRung) := by
  unfold Ieee.Format.nearest rungOf
  by_cases h : m = 0
  · rw [if_pos h, if_pos h]; simp
  · rw [if_neg h, if_neg h]
    simp only [cut_rnd, Nat.shiftLeft_eq]
    rfl

/-- 'm 2^e' is at most 'n 2^j'. -/
def NumLe (m : Nat) (e : Int) (n : Nat) (j : Int) : Prop := m * 2 ^ (e - min e j).toNat ≤ n * 2 ^ (j - min e j).toNat
theorem NumLe.at_ {m n : Nat} {e j : Int} (h : NumLe m e n j) {b : Int} (h1 : b ≤ e) (h2 : b ≤ j) : m * 2 ^ (e - b).toNat ≤ n * 2 ^ (j - b).toNat := by
  unfold NumLe at h
  have e1 : (e - b).toNat = (e - min e j).toNat + (min e j - b).toNat := by omega
  have e2 : (j - b).toNat = (j - min e j).toNat + (min e j - b).toNat := by omega
  rw [e1, e2, Nat.pow_add, Nat.pow_add, ← Nat.mul_assoc, ← Nat.mul_assoc]
  exact Nat.mul_le_mul_right _ h
theorem NumLe.of {m n : Nat} {e j : Int} {b : Int} (h1 : b ≤ e) (h2 : b ≤ j) (h : m * 2 ^ (e - b).toNat ≤ n * 2 ^ (j - b).toNat) : NumLe m e n j := by
  unfold NumLe
  have e1 : (e - b).toNat = (e - min e j).toNat + (min e j - b).toNat := by omega
  have e2 : (j - b).toNat = (j - min e j).toNat + (min e j - b).toNat := by omega
  rw [e1, e2, Nat.pow_add, Nat.pow_add, ← Nat.mul_assoc, ← Nat.mul_assoc] at h
  exact Nat.le_of_mul_le_mul_right h (Nat.two_pow_pos _)
theorem NumLe.log {m n : Nat} {e j : Int} (hm : m ≠ 0) (h : NumLe m e n j) : e + m.log2 ≤ j + n.log2 := by
  have hn : n ≠ 0 := by
    rintro rfl
    unfold NumLe at h
    rw [Nat.zero_mul] at h
    have : 0 < m * 2 ^ (e - min e j).toNat := Nat.mul_pos (by omega) (Nat.two_pow_pos _)
    omega
  have h1 : 2 ^ (m.log2 + (e - min e j).toNat) ≤ m * 2 ^ (e - min e j).toNat := by
    rw [Nat.pow_add]; exact Nat.mul_le_mul_right _ (Nat.log2_self_le hm)
  have h2 : n * 2 ^ (j - min e j).toNat < 2 ^ (n.log2 + 1 + (j - min e j).toNat) := by
    rw [Nat.pow_add]; exact Nat.mul_lt_mul_of_pos_right Nat.lt_log2_self (Nat.two_pow_pos _)
  have h3 : 2 ^ (m.log2 + (e - min e j).toNat) < 2 ^ (n.log2 + 1 + (j - min e j).toNat) := Nat.lt_of_le_of_lt h1 (Nat.lt_of_le_of_lt h h2)
  have h4 := (Nat.pow_lt_pow_iff_right (by omega : 1 < 2)).1 h3
  omega

/-- What is kept has at most one digit more than the fraction field, or is that power of two; and no fewer digits, unless the number is small. -/
theorem kept_le (f : Ieee.Format) {m : Nat} {e : Int} (hm : m ≠ 0) : rnd (m * 2 ^ (e - lastOf f m e).toNat) (lastOf f m e - e).toNat ≤ 2 * f.binade := by
  have hl : e + m.log2 - f.fractionBits ≤ lastOf f m e := by unfold lastOf; omega
  have h1 : rnd (m * 2 ^ (e - lastOf f m e).toNat) (lastOf f m e - e).toNat ≤ rnd (2 ^ (f.fractionBits + 1) * 2 ^ (lastOf f m e - e).toNat) (lastOf f m e - e).toNat := by
    refine rnd_mono _ ?_
    rw [← Nat.pow_add]
    have h2 : m * 2 ^ (e - lastOf f m e).toNat ≤ 2 ^ (m.log2 + 1 + (e - lastOf f m e).toNat) := by
      rw [Nat.pow_add]; exact Nat.mul_le_mul_right _ (Nat.le_of_lt Nat.lt_log2_self)
    refine Nat.le_trans h2 (Nat.pow_le_pow_right (by omega) ?_)
    omega
  have h3 := rnd_shift (2 ^ (f.fractionBits + 1)) 0 (lastOf f m e - e).toNat
  rw [Nat.zero_add, rnd_zero] at h3
  rw [h3] at h1
  unfold Ieee.Format.binade
  rw [Nat.pow_succ] at h1
  omega
theorem kept_ge (f : Ieee.Format) {m : Nat} {e : Int} (hm : m ≠ 0) (hl : lastOf f m e = e + m.log2 - f.fractionBits) : f.binade ≤ rnd (m * 2 ^ (e - lastOf f m e).toNat) (lastOf f m e - e).toNat := by
  have h1 : rnd (2 ^ f.fractionBits * 2 ^ (lastOf f m e - e).toNat) (lastOf f m e - e).toNat ≤ rnd (m * 2 ^ (e - lastOf f m e).toNat) (lastOf f m e - e).toNat := by
    refine rnd_mono _ ?_
    rw [← Nat.pow_add]
    have h2 : 2 ^ (m.log2 + (e - lastOf f m e).toNat) ≤ m * 2 ^ (e - lastOf f m e).toNat := by
      rw [Nat.pow_add]; exact Nat.mul_le_mul_right _ (Nat.log2_self_le hm)
    refine Nat.le_trans (Nat.pow_le_pow_right (by omega) ?_) h2
    omega
  have h3 := rnd_shift (2 ^ f.fractionBits) 0 (lastOf f m e - e).toNat
  rw [Nat.zero_add, rnd_zero] at h3
  rw [h3] at h1
  exact h1

/-- THE RUNG RISES WITH THE NUMBER. -/
theorem rung_mono (f : Ieee.Format) {m n : Nat} {e j : Int} (h : NumLe m e n j) : rungOf f m e ≤ rungOf f n j := by
  by_cases hm : m = 0
  · unfold rungOf; rw [if_pos hm]; omega
  have hlog := h.log hm
  have hn : n ≠ 0 := by
    rintro rfl
    unfold NumLe at h
    rw [Nat.zero_mul] at h
    have : 0 < m * 2 ^ (e - min e j).toNat := Nat.mul_pos (by omega) (Nat.two_pow_pos _)
    omega
  have hle : lastOf f m e ≤ lastOf f n j := by unfold lastOf; omega
  have k1 := kept_le f (e := e) hm
  unfold rungOf
  rw [if_neg hm, if_neg hn]
  rcases Int.lt_or_le (lastOf f m e) (lastOf f n j) with hlt | hge
  · have hl : lastOf f n j = j + n.log2 - f.fractionBits := by unfold lastOf at *; omega
    have k2 := kept_ge f (e := j) hn hl
    have hb : (lastOf f m e - f.leastPlace).toNat + 1 ≤ (lastOf f n j - f.leastPlace).toNat := by
      have : f.leastPlace ≤ lastOf f m e := by unfold lastOf; omega
      omega
    have hb2 := Nat.mul_le_mul_right f.binade hb
    rw [Nat.add_mul, Nat.one_mul] at hb2
    omega
  · have he : lastOf f m e = lastOf f n j := by omega
    rw [he]
    refine Nat.add_le_add_left ?_ _
    -- both are brought to one place
    have hb := h.at_ (b := min (min e j) (lastOf f n j)) (by omega) (by omega)
    have r1 := rnd_shift (m * 2 ^ (e - lastOf f n j).toNat) (lastOf f n j - e).toNat (min e (lastOf f n j) - min (min e j) (lastOf f n j)).toNat
    have r2 := rnd_shift (n * 2 ^ (j - lastOf f n j).toNat) (lastOf f n j - j).toNat (min j (lastOf f n j) - min (min e j) (lastOf f n j)).toNat
    rw [← r1, ← r2]
    rw [Nat.mul_assoc, Nat.mul_assoc, ← Nat.pow_add, ← Nat.pow_add]
    rw [show (lastOf f n j - e).toNat + (min e (lastOf f n j) - min (min e j) (lastOf f n j)).toNat = (lastOf f n j - min (min e j) (lastOf f n j)).toNat by omega]
    rw [show (lastOf f n j - j).toNat + (min j (lastOf f n j) - min (min e j) (lastOf f n j)).toNat = (lastOf f n j - min (min e j) (lastOf f n j)).toNat by omega]
    rw [show (e - lastOf f n j).toNat + (min e (lastOf f n j) - min (min e j) (lastOf f n j)).toNat = (e - min (min e j) (lastOf f n j)).toNat by omega]
    rw [show (j - lastOf f n j).toNat + (min j (lastOf f n j) - min (min e j) (lastOf f n j)).toNat = (j - min (min e j) (lastOf f n j)).toNat by omega]
    exact rnd_mono _ hb

/-- What a rung stands for. -/
def magOf (f : Ieee.Format) (r : Nat) : Nat := if r < f.binade then r else f.binade + r % f.binade
def placeOf (f : Ieee.Format) (r : Nat) : Int := if r < f.binade then f.leastPlace else f.leastPlace + (r / f.binade - 1 : Nat)

theorem read_word {k : FloatKind} {s : Bool} {r : Nat} (h : r < k.format.infRung) : k.format.read (k.format.word s r) = .number s (magOf k.format r) (placeOf k.format r) := by
  unfold Ieee.Format.read Ieee.Format.word magOf placeOf
  have hlt := Ieee.Format.infRung_lt k.format
  have hw : 0 < k.format.signWeight := by omega
  have hm : (if s = true then k.format.signWeight + r else r) % k.format.signWeight = r := by
    split
    · rw [Nat.add_mod_left, Nat.mod_eq_of_lt (by omega)]
    · exact Nat.mod_eq_of_lt (by omega)
  have hs : ((if s = true then k.format.signWeight + r else r) / k.format.signWeight % 2 == 1) = s := by
    cases s
    · rw [if_neg (by simp), Nat.div_eq_of_lt (by omega)]; rfl
    · rw [if_pos rfl, Nat.add_div_left _ hw, Nat.div_eq_of_lt (by omega)]; rfl
  simp only [hm, hs]
  split
  · rfl
  · rfl

theorem binade_pos (f : Ieee.Format) : 0 < f.binade := Nat.two_pow_pos _

/-- A number that the format has is written as it is. -/
theorem rung_read (f : Ieee.Format) (r : Nat) : rungOf f (magOf f r) (placeOf f r) = r := by
  have hB := binade_pos f
  unfold magOf placeOf
  by_cases h : r < f.binade
  · rw [if_pos h, if_pos h]
    unfold rungOf
    by_cases h0 : r = 0
    · rw [if_pos h0, h0]
    · rw [if_neg h0]
      have hl : r.log2 < f.fractionBits := (Nat.log2_lt h0).2 h
      have : lastOf f r f.leastPlace = f.leastPlace := by unfold lastOf; omega
      rw [this]
      simp [rnd_zero]
  · rw [if_neg h, if_neg h]
    unfold rungOf
    have hmod := Nat.mod_lt r hB
    rw [if_neg (by omega)]
    have hl1 : f.fractionBits ≤ (f.binade + r % f.binade).log2 := (Nat.le_log2 (by omega)).2 (Nat.le_add_right _ _)
    have hl2 : (f.binade + r % f.binade).log2 < f.fractionBits + 1 := (Nat.log2_lt (by omega)).2 (by rw [Nat.pow_succ]; unfold Ieee.Format.binade at *; omega)
    have hl : (f.binade + r % f.binade).log2 = f.fractionBits := by omega
    have : lastOf f (f.binade + r % f.binade) (f.leastPlace + (r / f.binade - 1 : Nat)) = f.leastPlace + (r / f.binade - 1 : Nat) := by unfold lastOf; rw [hl]; omega
    rw [this]
    simp only [Int.sub_self, Int.toNat_zero, Nat.pow_zero, Nat.mul_one, rnd_zero]
    rw [show (f.leastPlace + ((r / f.binade - 1 : Nat) : Int) - f.leastPlace).toNat = r / f.binade - 1 by omega]
    have hd : 1 ≤ r / f.binade := (Nat.one_le_div_iff hB).2 (by omega)
    have h1 := Nat.div_add_mod r f.binade
    have h2 : (r / f.binade - 1) * f.binade + f.binade = r / f.binade * f.binade := by
      have : r / f.binade = (r / f.binade - 1) + 1 := by omega
      rw [this]
      rw [Nat.add_sub_cancel, Nat.add_mul, Nat.one_mul]
    rw [Nat.mul_comm] at h1
    omega

theorem NumLe.total (m n : Nat) (e j : Int) : NumLe m e n j ∨ NumLe n j m e := by
  unfold NumLe
  rw [Int.min_comm j e]
  exact Nat.le_total _ _
theorem numle_of_rung (f : Ieee.Format) {r r' : Nat} (h : r ≤ r') : NumLe (magOf f r) (placeOf f r) (magOf f r') (placeOf f r') := by
  rcases Nat.eq_or_lt_of_le h with rfl | h
  · exact Nat.le_refl _
  · rcases NumLe.total (magOf f r) (magOf f r') (placeOf f r) (placeOf f r') with h1 | h1
    · exact h1
    · have := rung_mono f h1
      rw [rung_read, rung_read] at this
      omega
/-- What is at most a number that the format has is written to no higher rung. -/
theorem rung_le (f : Ieee.Format) {m : Nat} {e : Int} {r : Nat} (h : NumLe m e (magOf f r) (placeOf f r)) : rungOf f m e ≤ r := by
  have := rung_mono f h
  rwa [rung_read] at this
theorem rung_ge (f : Ieee.Format) {m : Nat} {e : Int} {r : Nat} (h : NumLe (magOf f r) (placeOf f r) m e) : r ≤ rungOf f m e := by
  have := rung_mono f h
  rwa [rung_read] at this
end Go.Proofs.YtjmpldcnhjgpkaaGreatDoor.Fl

/-
  The operations on floats as rules of the walk: each gives one word that is named, and draws so many answers; what the word is, but for the bits of a not-a-number, is told in plain equations.
-/
namespace Go.Proofs.YtjmpldcnhjgpkaaGreatDoor.Fl
open Go.RowKit

section
variable {P : Program}

/-- The word that '+', '-', '*', '/' leave in this world, and how many answers they draw. -/
def flR (op : BinOp) (k : FloatKind) (x y : Nat) (w : World) : Nat := (floatBits op k x y).getD ((Question.nanBits k x y).cut (w.tape w.drawn (.nanBits k x y)))
def flN (op : BinOp) (k : FloatKind) (x y : Nat) : Nat := if (floatBits op k x y).isSome then 0 else 1

theorem cn_flR (op : BinOp) (k : FloatKind) (x y : Nat) (w : World) : cn k (flR op k x y w) = fb op k x y := by
  unfold flR fb
  cases floatBits op k x y with
  | some r => rfl
  | none => simp only [Option.getD_none]; rw [cn_nan (drawn_nan k x y _).1, cn_nan (isNan_nanOf k)]

theorem wf_flR (op : BinOp) (k : FloatKind) (x y : Nat) (w : World) : Wf k (flR op k x y w) := by
  unfold flR
  cases h : floatBits op k x y with
  | some r => exact lt_of_wf (floatBits_wf h)
  | none => exact (drawn_nan k x y _).2

theorem run_floatArith_any (op : BinOp) (hop : op = .add ∨ op = .sub ∨ op = .mul ∨ op = .quo) (k : FloatKind) (x y : Nat) (w : World) :
    (Op.floatArith op k x y).run P w = .ok (.float k (flR op k x y w)) (w.drewN (flN op k x y)) := by
  cases h : floatBits op k x y with
  | some r =>
    rw [show flR op k x y w = r by simp [flR, h], show flN op k x y = 0 by simp [flN, h]]
    rcases hop with rfl | rfl | rfl | rfl <;> simp only [floatBits] at h <;> simp [Op.floatArith, h, World.drewN_zero]
  | none =>
    rw [show flR op k x y w = (Question.nanBits k x y).cut (w.tape w.drawn (.nanBits k x y)) by simp [flR, h], show flN op k x y = 1 by simp [flN, h]]
    rcases hop with rfl | rfl | rfl | rfl <;> simp only [floatBits] at h <;> simp [Op.floatArith, h, go_sem, World.drew_is_drewN]

@[go_sem] theorem run_fadd (t : TypeId) (k : FloatKind) (x y : Nat) (w : World) : (binOp .add t (.float k x) (.float k y)).run P w = .ok (.float k (flR .add k x y w)) (w.drewN (flN .add k x y)) := by
  rw [← run_floatArith_any (P := P) .add (by simp) k x y w]; simp [binOp]
@[go_sem] theorem run_fsub (t : TypeId) (k : FloatKind) (x y : Nat) (w : World) : (binOp .sub t (.float k x) (.float k y)).run P w = .ok (.float k (flR .sub k x y w)) (w.drewN (flN .sub k x y)) := by
  rw [← run_floatArith_any (P := P) .sub (by simp) k x y w]; simp [binOp]
@[go_sem] theorem run_fmul (t : TypeId) (k : FloatKind) (x y : Nat) (w : World) : (binOp .mul t (.float k x) (.float k y)).run P w = .ok (.float k (flR .mul k x y w)) (w.drewN (flN .mul k x y)) := by
  rw [← run_floatArith_any (P := P) .mul (by simp) k x y w]; simp [binOp]
@[go_sem] theorem run_fquo (t : TypeId) (k : FloatKind) (x y : Nat) (w : World) : (binOp .quo t (.float k x) (.float k y)).run P w = .ok (.float k (flR .quo k x y w)) (w.drewN (flN .quo k x y)) := by
  rw [← run_floatArith_any (P := P) .quo (by simp) k x y w]; simp [binOp]

/-- '-x'. -/
@[go_sem] theorem unary_fneg (k : FloatKind) (b : Nat) : Op.unary .neg (.float k b) = pure (.float k (Op.negFloat k b)) := rfl

attribute [go_sem] binOp_float_cmp_eql binOp_float_cmp_neq binOp_float_cmp_lss binOp_float_cmp_leq binOp_float_cmp_gtr binOp_float_cmp_geq run_convert_int_float

/-- A comparison sees no more of a word than is told. -/
@[go_sem] theorem order_flR_left (op : BinOp) (k : FloatKind) (x y z : Nat) (w : World) : k.format.order (flR op k x y w) z = k.format.order (fb op k x y) z := by rw [← order_cnl, cn_flR]
@[go_sem] theorem order_flR_right (op : BinOp) (k : FloatKind) (x y z : Nat) (w : World) : k.format.order z (flR op k x y w) = k.format.order z (fb op k x y) := by rw [← order_cnr, cn_flR]

/-- 'float64(x)', 'float32(x)'. -/
def cvBits (s d : FloatKind) (b : Nat) : Option Nat :=
  if s = d then some b else
  match s.decode b with
  | .nan _ _ => none
  | .infinity g => some (d.encode (.infinity g))
  | .number g m e => if (d.decode (d.encode (.number g m e))).isInfinity then none else some (d.encode (.number g m e))
def cvR (s d : FloatKind) (b : Nat) (w : World) : Nat :=
  (cvBits s d b).getD (match s.decode b with
    | .nan _ _ => (Question.nanConv d b).cut (w.tape w.drawn (.nanConv d b))
    | _ => (Question.floatToFloat b).cut (w.tape w.drawn (.floatToFloat b)))
def cvN (s d : FloatKind) (b : Nat) : Nat := if (cvBits s d b).isSome then 0 else 1

theorem run_floatToFloat_any (s d : FloatKind) (b : Nat) (w : World) : (Conv.floatToFloat s b d).run P w = .ok (.float d (cvR s d b w)) (w.drewN (cvN s d b)) := by
  unfold Conv.floatToFloat
  by_cases hsd : s = d
  · subst hsd; simp [cvR, cvN, cvBits, World.drewN_zero]
  · rw [if_neg hsd]
    cases hd : s.decode b with
    | nan g t => simp [cvR, cvN, cvBits, hsd, hd, go_sem, World.drew_is_drewN]
    | infinity g => simp [cvR, cvN, cvBits, hsd, hd, World.drewN_zero]
    | number g m e =>
      by_cases ho : (d.decode (d.encode (.number g m e))).isInfinity = true
      · simp [cvR, cvN, cvBits, hsd, hd, ho, go_sem, World.drew_is_drewN]
      · simp [cvR, cvN, cvBits, hsd, hd, ho, World.drewN_zero]

@[go_sem] theorem run_convert_ff (src dst : TypeId) (s k : FloatKind) (b : Nat) (w : World) (hs : (P.underlying src).isSome = true) (hd : P.underlying dst = some (.float k)) :
    (convert src dst (.float s b)).run P w = .ok (.float k (cvR s k b w)) (w.drewN (cvN s k b)) := by
  obtain ⟨u, hs'⟩ := Option.isSome_iff_exists.1 hs
  rw [← run_floatToFloat_any (P := P)]
  cases u <;> simp [convert, run_underlying hs', run_underlying hd]
end
end Go.Proofs.YtjmpldcnhjgpkaaGreatDoor.Fl
