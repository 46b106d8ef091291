/-
  Floats told but for the bits of a not-a-number: 'cn k b' is the word b, one fixed word where b is a not-a-number; 'fb op k x y' is what '+', '-', '*', '/' give, so told. No program is in sight here.
-/
import Derived.Laws.FloatArith
import Derived.Deep.Draws
import Derived.Lib.Hide
import Derived.WalkKit
namespace Go.Proofs.Yteabfkgbakoljaa.Fl
open Go.RowKit

/-- One fixed not-a-number of each kind. -/
def nanOf : FloatKind → Nat
  | .f32 => 2143289344
  | .f64 => 9221120237041090560

def isNan (k : FloatKind) (b : Nat) : Bool := (k.format.read b).isNaN

/-- The word b, but one fixed word where it is a not-a-number. -/
def cn (k : FloatKind) (b : Nat) : Nat := if isNan k b then nanOf k else b

theorem isNan_nanOf (k : FloatKind) : isNan k (nanOf k) = true := by cases k <;> decide +kernel

theorem cn_nan {k : FloatKind} {b : Nat} (h : isNan k b = true) : cn k b = nanOf k := by simp [cn, h]
theorem cn_num {k : FloatKind} {b : Nat} (h : isNan k b = false) : cn k b = b := by simp [cn, h]
theorem isNan_cn (k : FloatKind) (b : Nat) : isNan k (cn k b) = isNan k b := by
  cases h : isNan k b
  · rw [cn_num h, h]
  · rw [cn_nan h, isNan_nanOf]
theorem cn_cn (k : FloatKind) (b : Nat) : cn k (cn k b) = cn k b := by
  cases h : isNan k b
  · rw [cn_num h, cn_num h]
  · rw [cn_nan h, cn_nan (isNan_nanOf k)]
theorem isNan_of_cn {k : FloatKind} {a b : Nat} (h : cn k a = cn k b) : isNan k a = isNan k b := by rw [← isNan_cn k a, h, isNan_cn]
theorem eq_of_cn {k : FloatKind} {a b : Nat} (h : cn k a = cn k b) (ha : isNan k a = false) : a = b := by
  have hb : isNan k b = false := by rw [← isNan_of_cn h]; exact ha
  rw [cn_num ha, cn_num hb] at h; exact h

theorem read_nan {k : FloatKind} {b : Nat} (h : isNan k b = true) : ∃ s t, k.format.read b = .nan s t := by
  unfold isNan at h
  cases hr : k.format.read b with
  | nan s t => exact ⟨s, t, rfl⟩
  | number s m e => rw [hr] at h; cases h
  | infinity s => rw [hr] at h; cases h

/-- What '+', '-', '*', '/' give, told so. -/
def fb (op : BinOp) (k : FloatKind) (x y : Nat) : Nat := cn k ((floatBits op k x y).getD (nanOf k))

theorem floatBits_nan_left {op : BinOp} {k : FloatKind} {x y : Nat} (h : isNan k x = true) : floatBits op k x y = none := by
  obtain ⟨s, t, hr⟩ := read_nan h
  unfold floatBits
  split <;> simp [Ieee.Format.add, Ieee.Format.sub, Ieee.Format.mul, Ieee.Format.div, hr, Ieee.Datum.sum, Ieee.Datum.product, Ieee.Datum.quotient]

theorem floatBits_nan_right {op : BinOp} {k : FloatKind} {x y : Nat} (h : isNan k y = true) : floatBits op k x y = none := by
  obtain ⟨s, t, hr⟩ := read_nan h
  unfold floatBits
  split <;> simp only [Ieee.Format.add, Ieee.Format.sub, Ieee.Format.mul, Ieee.Format.div, hr, Ieee.Datum.opposite] <;>
    (cases k.format.read x <;> simp [Ieee.Datum.sum, Ieee.Datum.product, Ieee.Datum.quotient])

theorem floatBits_cn (op : BinOp) (k : FloatKind) (x y : Nat) : floatBits op k (cn k x) (cn k y) = floatBits op k x y := by
  cases hx : isNan k x
  · cases hy : isNan k y
    · rw [cn_num hx, cn_num hy]
    · rw [floatBits_nan_right hy, floatBits_nan_right (by rw [isNan_cn]; exact hy)]
  · rw [floatBits_nan_left hx, floatBits_nan_left (by rw [isNan_cn]; exact hx)]

theorem fb_cn (op : BinOp) (k : FloatKind) (x y : Nat) : fb op k (cn k x) (cn k y) = fb op k x y := by unfold fb; rw [floatBits_cn]
theorem fb_cnl (op : BinOp) (k : FloatKind) (x y : Nat) : fb op k (cn k x) y = fb op k x y := by rw [← fb_cn, cn_cn, fb_cn]
theorem fb_cnr (op : BinOp) (k : FloatKind) (x y : Nat) : fb op k x (cn k y) = fb op k x y := by rw [← fb_cn, cn_cn, fb_cn]
theorem cn_fb (op : BinOp) (k : FloatKind) (x y : Nat) : cn k (fb op k x y) = fb op k x y := by unfold fb; rw [cn_cn]

theorem order_cn (k : FloatKind) (x y : Nat) : k.format.order (cn k x) (cn k y) = k.format.order x y := by
  cases hx : isNan k x
  · cases hy : isNan k y
    · rw [cn_num hx, cn_num hy]
    · obtain ⟨s, t, hr⟩ := read_nan hy
      obtain ⟨s', t', hr'⟩ := read_nan (k := k) (b := cn k y) (by rw [isNan_cn]; exact hy)
      unfold Ieee.Format.order
      rw [hr, hr']
      cases k.format.read x <;> cases k.format.read (cn k x) <;> simp [Ieee.Datum.order]
  · obtain ⟨s, t, hr⟩ := read_nan hx
    obtain ⟨s', t', hr'⟩ := read_nan (k := k) (b := cn k x) (by rw [isNan_cn]; exact hx)
    unfold Ieee.Format.order
    rw [hr, hr']
    simp [Ieee.Datum.order]
theorem order_cnl (k : FloatKind) (x y : Nat) : k.format.order (cn k x) y = k.format.order x y := by rw [← order_cn, cn_cn, order_cn]
theorem order_cnr (k : FloatKind) (x y : Nat) : k.format.order x (cn k y) = k.format.order x y := by rw [← order_cn, cn_cn, order_cn]

theorem order_self (k : FloatKind) (x : Nat) : k.format.order x x = if isNan k x then none else some .eq := by
  unfold Ieee.Format.order isNan
  cases k.format.read x <;> simp [Ieee.Datum.order, Ieee.Datum.isNaN]

/-- The not-a-number that the model draws is one, and fits its kind. -/
theorem drawn_nan (k : FloatKind) (x y t : Nat) : isNan k ((Question.nanBits k x y).cut t) = true ∧ (Question.nanBits k x y).cut t < 2 ^ k.format.width := by
  cases k
  · have h1 : t % 2 < 2 := Nat.mod_lt _ (by omega)
    have h2 : t / 2 % (2 ^ 23 - 1) < 2 ^ 23 - 1 := Nat.mod_lt _ (by omega)
    have hw : 2 ^ FloatKind.f32.format.width = 4294967296 := by decide +kernel
    simp only [Question.cut, hw]
    generalize t % 2 = a at *
    generalize t / 2 % (2 ^ 23 - 1) = b at *
    refine ⟨?_, by omega⟩
    unfold isNan Ieee.Format.read
    have e1 : FloatKind.f32.format.signWeight = 2147483648 := by decide +kernel
    have e2 : FloatKind.f32.format.binade = 8388608 := by decide +kernel
    have e3 : FloatKind.f32.format.infRung = 2139095040 := by decide +kernel
    simp only [e1, e2, e3]
    have hm : (a * 2 ^ 31 + 0x7f800000 + 1 + b) % 2147483648 = 2139095041 + b := by omega
    rw [hm, if_neg (by omega), if_neg (by omega), if_neg (by omega)]
    rfl
  · have h1 : t % 2 < 2 := Nat.mod_lt _ (by omega)
    have h2 : t / 2 % (2 ^ 52 - 1) < 2 ^ 52 - 1 := Nat.mod_lt _ (by omega)
    have hw : 2 ^ FloatKind.f64.format.width = 18446744073709551616 := by decide +kernel
    simp only [Question.cut, hw]
    generalize t % 2 = a at *
    generalize t / 2 % (2 ^ 52 - 1) = b at *
    refine ⟨?_, by omega⟩
    unfold isNan Ieee.Format.read
    have e1 : FloatKind.f64.format.signWeight = 9223372036854775808 := by decide +kernel
    have e2 : FloatKind.f64.format.binade = 4503599627370496 := by decide +kernel
    have e3 : FloatKind.f64.format.infRung = 9218868437227405312 := by decide +kernel
    simp only [e1, e2, e3]
    have hm : (a * 2 ^ 63 + 0x7ff0000000000000 + 1 + b) % 9223372036854775808 = 9218868437227405313 + b := by omega
    rw [hm, if_neg (by omega), if_neg (by omega), if_neg (by omega)]
    rfl

theorem drawn_conv (k : FloatKind) (x t : Nat) : isNan k ((Question.nanConv k x).cut t) = true ∧ (Question.nanConv k x).cut t < 2 ^ k.format.width := by
  have h := drawn_nan k x x t
  cases k <;> exact h
theorem drawn_minmax (k : FloatKind) (b : Bool) (x y t : Nat) : isNan k ((Question.nanMinMax k b x y).cut t) = true ∧ (Question.nanMinMax k b x y).cut t < 2 ^ k.format.width := by
  have h := drawn_nan k x y t
  cases k <;> exact h

theorem wf_of (k : FloatKind) {b : Nat} (h : b < 2 ^ k.format.width) : (Lit.float k b).wf = true := wf_of_lt k b h
theorem lt_of_wf {k : FloatKind} {b : Nat} (h : (Lit.float k b).wf = true) : b < 2 ^ k.format.width := by
  cases k
  · have hw : 2 ^ FloatKind.f32.format.width = 4294967296 := by decide +kernel
    rw [hw]; simpa [Lit.wf] using h
  · have hw : 2 ^ FloatKind.f64.format.width = 18446744073709551616 := by decide +kernel
    rw [hw]; simpa [Lit.wf] using h

def Wf (k : FloatKind) (b : Nat) : Prop := b < 2 ^ k.format.width

section
variable {P : Program}

theorem farith (op : BinOp) (hop : op = .add ∨ op = .sub ∨ op = .mul ∨ op = .quo) (k : FloatKind) (x y : Nat) (w : World) :
    ∃ r n, (Op.floatArith op k x y).run P w = .ok (.float k r) (w.drewN n) ∧ cn k r = fb op k x y ∧ Wf k r := by
  cases h : floatBits op k x y with
  | some r =>
    refine ⟨r, 0, ?_, by simp [fb, h], lt_of_wf (floatBits_wf h)⟩
    rcases hop with rfl | rfl | rfl | rfl <;> simp only [floatBits] at h <;> simp [Op.floatArith, h, World.drewN_zero]
  | none =>
    have hd := drawn_nan k x y (w.tape w.drawn (.nanBits k x y))
    refine ⟨(Question.nanBits k x y).cut (w.tape w.drawn (.nanBits k x y)), 1, ?_, by rw [cn_nan hd.1]; simp [fb, h, cn_nan (isNan_nanOf k)], hd.2⟩
    rcases hop with rfl | rfl | rfl | rfl <;> simp only [floatBits] at h <;> simp [Op.floatArith, h, go_sem, World.drew_is_drewN]

theorem farith_bin (op : BinOp) (hop : op = .add ∨ op = .sub ∨ op = .mul ∨ op = .quo) (t : TypeId) (k : FloatKind) (x y : Nat) (w : World) :
    ∃ r n, (binOp op t (.float k x) (.float k y)).run P w = .ok (.float k r) (w.drewN n) ∧ cn k r = fb op k x y ∧ Wf k r := by
  obtain ⟨r, n, hr, h1, h2⟩ := farith (P := P) op hop k x y w
  refine ⟨r, n, ?_, h1, h2⟩
  rw [← hr]
  rcases hop with rfl | rfl | rfl | rfl <;> simp [binOp]
end
end Go.Proofs.Yteabfkgbakoljaa.Fl
