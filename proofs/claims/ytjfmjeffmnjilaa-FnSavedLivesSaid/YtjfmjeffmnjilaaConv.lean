/-
  Floats told but for the bits of a not-a-number: 'cn k b' is the word b, one fixed word where b is a not-a-number; 'fb op k x y' is what '+', '-', '*', '/' give, so told. No program is in sight here.
-/
import Derived.Laws.FloatArith
import Derived.Deep.Draws
import Derived.Lib.Hide
import Derived.WalkKit
namespace Go.Proofs.Ytjfmjeffmnjilaa.Fl
open Go.RowKit

/-- One fixed not-a-number of each kind. -/
def nanOf : FloatKind → Nat
  | .f32 => 2143289344
  | .f64 => 9221120237041090560

def isNan (k : FloatKind) (b : Nat) : Bool := (k.format.read b).isNaN

/-- The word b, but one fixed word where it is a not-a-number. -/
def cn (k : FloatKind) (b : Nat) : Nat := if isNan k b then nanOf k else b

theorem isNan_nanOf (k : FloatKind) : isNan k (nanOf k) = true := by cases k <;> decide +kernel

theorem cn_nan {k : FloatKind} {b : Nat} (h : isNan k b = true) : cn k b = nanOf k := by simp [cn, h]
theorem cn_num {k : FloatKind} {b : Nat} (h : isNan k b = false) : cn k b = b := by simp [cn, h]
theorem isNan_cn (k : FloatKind) (b : Nat) : isNan k (cn k b) = isNan k b := by
  cases h : isNan k b
  · rw [cn_num h, h]
  · rw [cn_nan h, isNan_nanOf]
theorem cn_cn (k : FloatKind) (b : Nat) : cn k (cn k b) = cn k b := by
  cases h : isNan k b
  · rw [cn_num h, cn_num h]
  · rw [cn_nan h, cn_nan (isNan_nanOf k)]
theorem isNan_of_cn {k : FloatKind} {a b : Nat} (h : cn k a = cn k b) : isNan k a = isNan k b := by rw [← isNan_cn k a, h, isNan_cn]
theorem eq_of_cn {k : FloatKind} {a b : Nat} (h : cn k a = cn k b) (ha : isNan k a = false) : a = b := by
  have hb : isNan k b = false := by rw [← isNan_of_cn h]; exact ha
  rw [cn_num ha, cn_num hb] at h; exact h

theorem read_nan {k : FloatKind} {b : Nat} (h : isNan k b = true) : ∃ s t, k.format.read b = .nan s t := by
  unfold isNan at h
  cases hr : k.format.read b with
  | nan s t => exact ⟨s, t, rfl⟩
  | number s m e => rw [hr] at h; cases h
  | infinity s => rw [hr] at h; cases h

/-- What '+', '-', '*', '/' give, told so. -/
def fb (op : BinOp) (k : FloatKind) (x y : Nat) : Nat := cn k ((floatBits op k x y).getD (nanOf k))

theorem floatBits_nan_left {op : BinOp} {k : FloatKind} {x y : Nat} (h : isNan k x = true) : floatBits op k x y = none := by
  obtain ⟨s, t, hr⟩ := read_nan h
  unfold floatBits
  split <;> simp [Ieee.Format.add, Ieee.Format.sub, Ieee.Format.mul, Ieee.Format.div, hr, Ieee.Datum.sum, Ieee.Datum.product, Ieee.Datum.quotient]

theorem floatBits_nan_right {op : BinOp} {k : FloatKind} {x y : Nat} (h : isNan k y = true) : floatBits op k x y = none := by
  obtain ⟨s, t, hr⟩ := read_nan h
  unfold floatBits
  split <;> simp only [Ieee.Format.add, Ieee.Format.sub, Ieee.Format.mul, Ieee.Format.div, hr, Ieee.Datum.opposite] <;>
    (cases k.format.read x <;> simp [Ieee.Datum.sum, Ieee.Datum.product, Ieee.Datum.quotient])

theorem floatBits_cn (op : BinOp) (k : FloatKind) (x y : Nat) : floatBits op k (cn k x) (cn k y) = floatBits op k x y := by
  cases hx : isNan k x
  · cases hy : isNan k y
    · rw [cn_num hx, cn_num hy]
    · rw [floatBits_nan_right hy, floatBits_nan_right (by rw [isNan_cn]; exact hy)]
  · rw [floatBits_nan_left hx, floatBits_nan_left (by rw [isNan_cn]; exact hx)]

theorem fb_cn (op : BinOp) (k : FloatKind) (x y : Nat) : fb op k (cn k x) (cn k y) = fb op k x y := by unfold fb; rw [floatBits_cn]
theorem fb_cnl (op : BinOp) (k : FloatKind) (x y : Nat) : fb op k (cn k x) y = fb op k x y := by rw [← fb_cn, cn_cn, fb_cn]
theorem fb_cnr (op : BinOp) (k : FloatKind) (x y : Nat) : fb op k x (cn k y) = fb op k x y := by rw [← fb_cn, cn_cn, fb_cn]
theorem cn_fb (op : BinOp) (k : FloatKind) (x y : Nat) : cn k (fb op k x y) = fb op k x y := by unfold fb; rw [cn_cn]

theorem order_cn (k : FloatKind) (x y : Nat) : k.format.order (cn k x) (cn k y) = k.format.order x y := by
  cases hx : isNan k x
  · cases hy : isNan k y
    · rw [cn_num hx, cn_num hy]
    · obtain ⟨s, t, hr⟩ := read_nan hy
      obtain ⟨s', t', hr'⟩ := read_nan (k := k) (b := cn k y) (by rw [isNan_cn]; exact hy)
      unfold Ieee.Format.order
      rw [hr, hr']
      cases k.format.read x <;> cases k.format.read (cn k x) <;> simp [Ieee.Datum.order]
  · obtain ⟨s, t, hr⟩ := read_nan hx
    obtain ⟨s', t', hr'⟩ := read_nan (k := k) (b := cn k x) (by rw [isNan_cn]; exact hx)
    unfold Ieee.Format.order
    rw [hr, hr']
    simp [Ieee.Datum.order]
theorem order_cnl (k : FloatKind) (x y : Nat) : k.format.order (cn k x) y = k.format.order x y := by rw [← order_cn, cn_cn, order_cn]
theorem order_cnr (k : FloatKind) (x y : Nat) : k.format.order x (cn k y) = k.format.order x y := by rw [← order_cn, cn_cn, order_cn]

theorem order_self (k : FloatKind) (x : Nat) : k.format.order x x = if isNan k x then none else some .eq := by
  unfold Ieee.Format.order isNan
  cases k.format.read x <;> simp [Ieee.Datum.order, Ieee.Datum.isNaN]

/-- The not-a-number that the model draws is one, and fits its kind. -/
theorem drawn_nan (k : FloatKind) (x y t : Nat) : isNan k ((Question.nanBits k x y).cut t) = true ∧ (Question.nanBits k x y).cut t < 2 ^ k.format.width := by
  cases k
  · have h1 : t % 2 < 2 := Nat.mod_lt _ (by omega)
    have h2 : t / 2 % (2 ^ 23 - 1) < 2 ^ 23 - 1 := Nat.mod_lt _ (by omega)
    have hw : 2 ^ FloatKind.f32.format.width = 4294967296 := by decide +kernel
    simp only [Question.cut, hw]
    generalize t % 2 = a at *
    generalize t / 2 % (2 ^ 23 - 1) = b at *
    refine ⟨?_, by omega⟩
    unfold isNan Ieee.Format.read
    have e1 : FloatKind.f32.format.signWeight = 2147483648 := by decide +kernel
    have e2 : FloatKind.f32.format.binade = 8388608 := by decide +kernel
    have e3 : FloatKind.f32.format.infRung = 2139095040 := by decide +kernel
    simp only [e1, e2, e3]
    have hm : (a * 2 ^ 31 + 0x7f800000 + 1 + b) % 2147483648 = 2139095041 + b := by omega
    rw [hm, if_neg (by omega), if_neg (by omega), if_neg (by omega)]
    rfl
  · have h1 : t % 2 < 2 := Nat.mod_lt _ (by omega)
    have h2 : t / 2 % (2 ^ 52 - 1) < 2 ^ 52 - 1 := Nat.mod_lt _ (by omega)
    have hw : 2 ^ FloatKind.f64.format.width = 18446744073709551616 := by decide +kernel
    simp only [Question.cut, hw]
    generalize t % 2 = a at *
    generalize t / 2 % (2 ^ 52 - 1) = b at *
    refine ⟨?_, by omega⟩
    unfold isNan Ieee.Format.read
    have e1 : FloatKind.f64.format.signWeight = 9223372036854775808 := by decide +kernel
    have e2 : FloatKind.f64.format.binade = 4503599627370496 := by decide +kernel
    have e3 : FloatKind.f64.format.infRung = 9218868437227405312 := by decide +kernel
    simp only [e1, e2, e3]
    have hm : (a * 2 ^ 63 + 0x7ff0000000000000 + 1 + b) % 9223372036854775808 = 9218868437227405313 + b := by omega
    rw [hm, if_neg (by omega), if_neg (by omega), if_neg (by omega)]
    rfl

theorem drawn_conv (k : FloatKind) (x t : Nat) : isNan k ((Question.nanConv k x).cut t) = true ∧ (Question.nanConv k x).cut t < 2 ^ k.format.width := by
  have h := drawn_nan k x x t
  cases k <;> exact h
theorem drawn_minmax (k : FloatKind) (b : Bool) (x y t : Nat) : isNan k ((Question.nanMinMax k b x y).cut t) = true ∧ (Question.nanMinMax k b x y).cut t < 2 ^ k.format.width := by
  have h := drawn_nan k x y t
  cases k <;> exact h

theorem wf_of (k : FloatKind) {b : Nat} (h : b < 2 ^ k.format.width) : (Lit.float k b).wf = true := wf_of_lt k b h
theorem lt_of_wf {k : FloatKind} {b : Nat} (h : (Lit.float k b).wf = true) : b < 2 ^ k.format.width := by
  cases k
  · have hw : 2 ^ FloatKind.f32.format.width = 4294967296 := by decide +kernel
    rw [hw]; simpa [Lit.wf] using h
  · have hw : 2 ^ FloatKind.f64.format.width = 18446744073709551616 := by decide +kernel
    rw [hw]; simpa [Lit.wf] using h

def Wf (k : FloatKind) (b : Nat) : Prop := b < 2 ^ k.format.width

section
variable {P : Program}

theorem farith (op : BinOp) (hop : op = .add ∨ op = .sub ∨ op = .mul ∨ op = .quo) (k : FloatKind) (x y : Nat) (w : World) :
    ∃ r n, (Op.floatArith op k x y).run P w = .ok (.float k r) (w.drewN n) ∧ cn k r = fb op k x y ∧ Wf k r := by
  cases h : floatBits op k x y with
  | some r =>
    refine ⟨r, 0, ?_, by simp [fb, h], lt_of_wf (floatBits_wf h)⟩
    rcases hop with rfl | rfl | rfl | rfl <;> simp only [floatBits] at h <;> simp [Op.floatArith, h, World.drewN_zero]
  | none =>
    have hd := drawn_nan k x y (w.tape w.drawn (.nanBits k x y))
    refine ⟨(Question.nanBits k x y).cut (w.tape w.drawn (.nanBits k x y)), 1, ?_, by rw [cn_nan hd.1]; simp [fb, h, cn_nan (isNan_nanOf k)], hd.2⟩
    rcases hop with rfl | rfl | rfl | rfl <;> simp only [floatBits] at h <;> simp [Op.floatArith, h, go_sem, World.drew_is_drewN]

theorem farith_bin (op : BinOp) (hop : op = .add ∨ op = .sub ∨ op = .mul ∨ op = .quo) (t : TypeId) (k : FloatKind) (x y : Nat) (w : World) :
    ∃ r n, (binOp op t (.float k x) (.float k y)).run P w = .ok (.float k r) (w.drewN n) ∧ cn k r = fb op k x y ∧ Wf k r := by
  obtain ⟨r, n, hr, h1, h2⟩ := farith (P := P) op hop k x y w
  refine ⟨r, n, ?_, h1, h2⟩
  rw [← hr]
  rcases hop with rfl | rfl | rfl | rfl <;> simp [binOp]
end
end Go.Proofs.Ytjfmjeffmnjilaa.Fl

/-
  The operations on floats as rules of the walk: each gives one word that is named, and draws so many answers; what the word is, but for the bits of a not-a-number, is told in plain equations.
-/
namespace Go.Proofs.Ytjfmjeffmnjilaa.Fl
open Go.RowKit

section
variable {P : Program}

/-- The word that '+', '-', '*', '/' leave in this world, and how many answers they draw. -/
def flR (op : BinOp) (k : FloatKind) (x y : Nat) (w : World) : Nat := (floatBits op k x y).getD ((Question.nanBits k x y).cut (w.tape w.drawn (.nanBits k x y)))
def flN (op : BinOp) (k : FloatKind) (x y : Nat) : Nat := if (floatBits op k x y).isSome then 0 else 1

theorem cn_flR (op : BinOp) (k : FloatKind) (x y : Nat) (w : World) : cn k (flR op k x y w) = fb op k x y := by
  unfold flR fb
  cases floatBits op k x y with
  | some r => rfl
  | none => simp only [Option.getD_none]; rw [cn_nan (drawn_nan k x y _).1, cn_nan (isNan_nanOf k)]

theorem wf_flR (op : BinOp) (k : FloatKind) (x y : Nat) (w : World) : Wf k (flR op k x y w) := by
  unfold flR
  cases h : floatBits op k x y with
  | some r => exact lt_of_wf (floatBits_wf h)
  | none => exact (drawn_nan k x y _).2

theorem run_floatArith_any (op : BinOp) (hop : op = .add ∨ op = .sub ∨ op = .mul ∨ op = .quo) (k : FloatKind) (x y : Nat) (w : World) :
    (Op.floatArith op k x y).run P w = .ok (.float k (flR op k x y w)) (w.drewN (flN op k x y)) := by
  cases h : floatBits op k x y with
  | some r =>
    rw [show flR op k x y w = r by simp [flR, h], show flN op k x y = 0 by simp [flN, h]]
    rcases hop with rfl | rfl | rfl | rfl <;> simp only [floatBits] at h <;> simp [Op.floatArith, h, World.drewN_zero]
  | none =>
    rw [show flR op k x y w = (Question.nanBits k x y).cut (w.tape w.drawn (.nanBits k x y)) by simp [flR, h], show flN op k x y = 1 by simp [flN, h]]
    rcases hop with rfl | rfl | rfl | rfl <;> simp only [floatBits] at h <;> simp [Op.floatArith, h, go_sem, World.drew_is_drewN]

@[go_sem] theorem run_fadd (t : TypeId) (k : FloatKind) (x y : Nat) (w : World) : (binOp .add t (.float k x) (.float k y)).run P w = .ok (.float k (flR .add k x y w)) (w.drewN (flN .add k x y)) := by
  rw [← run_floatArith_any (P := P) .add (by simp) k x y w]; simp [binOp]
@[go_sem] theorem run_fsub (t : TypeId) (k : FloatKind) (x y : Nat) (w : World) : (binOp .sub t (.float k x) (.float k y)).run P w = .ok (.float k (flR .sub k x y w)) (w.drewN (flN .sub k x y)) := by
  rw [← run_floatArith_any (P := P) .sub (by simp) k x y w]; simp [binOp]
@[go_sem] theorem run_fmul (t : TypeId) (k : FloatKind) (x y : Nat) (w : World) : (binOp .mul t (.float k x) (.float k y)).run P w = .ok (.float k (flR .mul k x y w)) (w.drewN (flN .mul k x y)) := by
  rw [← run_floatArith_any (P := P) .mul (by simp) k x y w]; simp [binOp]
@[go_sem] theorem run_fquo (t : TypeId) (k : FloatKind) (x y : Nat) (w : World) : (binOp .quo t (.float k x) (.float k y)).run P w = .ok (.float k (flR .quo k x y w)) (w.drewN (flN .quo k x y)) := by
  rw [← run_floatArith_any (P := P) .quo (by simp) k x y w]; simp [binOp]

/-- '-x'. -/
@[go_sem] theorem unary_fneg (k : FloatKind) (b : Nat) : Op.unary .neg (.float k b) = pure (.float k (Op.negFloat k b)) := rfl

attribute [go_sem] binOp_float_cmp_eql binOp_float_cmp_neq binOp_float_cmp_lss binOp_float_cmp_leq binOp_float_cmp_gtr binOp_float_cmp_geq run_convert_int_float

/-- A comparison sees no more of a word than is told. -/
@[go_sem] theorem order_flR_left (op : BinOp) (k : FloatKind) (x y z : Nat) (w : World) : k.format.order (flR op k x y w) z = k.format.order (fb op k x y) z := by rw [← order_cnl, cn_flR]
@[go_sem] theorem order_flR_right (op : BinOp) (k : FloatKind) (x y z : Nat) (w : World) : k.format.order z (flR op k x y w) = k.format.order z (fb op k x y) := by rw [← order_cnr, cn_flR]

/-- 'float64(x)', 'float32(x)'. -/
def cvBits (s d : FloatKind) (b : Nat) : Option Nat :=
  if s = d then some b else
  match s.decode b with
  | .nan _ _ => none
  | .infinity g => some (d.encode (.infinity g))
  | .number g m e => if (d.decode (d.encode (.number g m e))).isInfinity then none else some (d.encode (.number g m e))
def cvR (s d : FloatKind) (b : Nat) (w : World) : Nat :=
  (cvBits s d b).getD (match s.decode b with
    | .nan _ _ => (Question.nanConv d b).cut (w.tape w.drawn (.nanConv d b))
    | _ => (Question.floatToFloat b).cut (w.tape w.drawn (.floatToFloat b)))
def cvN (s d : FloatKind) (b : Nat) : Nat := if (cvBits s d b).isSome then 0 else 1

theorem run_floatToFloat_any (s d : FloatKind) (b : Nat) (w : World) : (Conv.floatToFloat s b d).run P w = .ok (.float d (cvR s d b w)) (w.drewN (cvN s d b)) := by
  unfold Conv.floatToFloat
  by_cases hsd : s = d
  · subst hsd; simp [cvR, cvN, cvBits, World.drewN_zero]
  · rw [if_neg hsd]
    cases hd : s.decode b with
    | nan g t => simp [cvR, cvN, cvBits, hsd, hd, go_sem, World.drew_is_drewN]
    | infinity g => simp [cvR, cvN, cvBits, hsd, hd, World.drewN_zero]
    | number g m e =>
      by_cases ho : (d.decode (d.encode (.number g m e))).isInfinity = true
      · simp [cvR, cvN, cvBits, hsd, hd, ho, go_sem, World.drew_is_drewN]
      · simp [cvR, cvN, cvBits, hsd, hd, ho, World.drewN_zero]

@[go_sem] theorem run_convert_ff (src dst : TypeId) (s k : FloatKind) (b : Nat) (w : World) (hs : (P.underlying src).isSome = true) (hd : P.underlying dst = some (.float k)) :
    (convert src dst (.float s b)).run P w = .ok (.float k (cvR s k b w)) (w.drewN (cvN s k b)) := by
  obtain ⟨u, hs'⟩ := Option.isSome_iff_exists.1 hs
  rw [← run_floatToFloat_any (P := P)]
  cases u <;> simp [convert, run_underlying hs', run_underlying hd]
end
end Go.Proofs.Ytjfmjeffmnjilaa.Fl

/-
  'float64(x)' of a 32-bit number: it is exact, never an infinity of its own; what is told of it hangs on what is told of x alone.
-/
namespace Go.Proofs.Ytjfmjeffmnjilaa.Fl
open Go.RowKit

theorem log2_lt_of {m b : Nat} (h : m < 2 ^ (b + 1)) : m.log2 ≤ b := by
  rcases Nat.eq_zero_or_pos m with h0 | h0
  · subst h0; simp
  · exact Nat.le_of_lt_succ ((Nat.log2_lt (by omega)).2 h)

theorem pow_log2_le {m : Nat} (h : m ≠ 0) : 2 ^ m.log2 ≤ m := Nat.log2_self_le h
theorem lt_pow_log2 (m : Nat) : m < 2 ^ (m.log2 + 1) := Nat.lt_log2_self

/-- What a 32-bit word stands for, if it is a number. -/
theorem read32 {x : Nat} {s : Bool} {m : Nat} {e : Int} (h : FloatKind.f32.decode x = .number s m e) : m < 16777216 ∧ -149 ≤ e ∧ e ≤ 104 := by
  unfold FloatKind.decode Ieee.Format.read at h
  have e1 : FloatKind.f32.format.signWeight = 2147483648 := by decide +kernel
  have e2 : FloatKind.f32.format.binade = 8388608 := by decide +kernel
  have e3 : FloatKind.f32.format.infRung = 2139095040 := by decide +kernel
  have e4 : FloatKind.f32.format.leastPlace = -149 := by decide +kernel
  simp only [e1, e2, e3, e4] at h
  generalize x % 2147483648 = r at h
  split at h
  · injection h with h1 h2 h3; omega
  · split at h
    · injection h with h1 h2 h3
      have : r % 8388608 < 8388608 := Nat.mod_lt _ (by omega)
      omega
    · split at h <;> cases h

theorem word_inf_false {k : FloatKind} {s : Bool} {r : Nat} (h : r < k.format.infRung) : (k.decode (k.format.word s r)).isInfinity = false := by
  unfold FloatKind.decode Ieee.Format.read Ieee.Format.word
  have hlt := Ieee.Format.infRung_lt k.format
  have hw : 0 < k.format.signWeight := by omega
  have hm : (if s = true then k.format.signWeight + r else r) % k.format.signWeight = r := by
    split
    · rw [Nat.add_mod_left, Nat.mod_eq_of_lt (by omega)]
    · exact Nat.mod_eq_of_lt (by omega)
  simp only [hm]
  split
  · rfl
  · first | rfl | (rw [if_pos h]; rfl)

theorem cut_zero (way : Ieee.Toward) (s : Bool) (n : Nat) : way.cut s n 0 = n := by
  unfold Ieee.Toward.cut
  cases way <;> simp [Nat.mod_one]

theorem rung_lt (b q : Nat) (hb : b ≤ 1149) (hk : q < 2 ^ 53) : min (b * 4503599627370496 + q) 9218868437227405312 < 9218868437227405312 := by
  have h : b * 4503599627370496 ≤ 1149 * 4503599627370496 := Nat.mul_le_mul_right _ hb
  refine Nat.lt_of_le_of_lt (Nat.min_le_left _ _) ?_
  have h2 : (2 : Nat) ^ 53 = 9007199254740992 := by decide
  rw [h2] at hk
  omega

/-- A number of at most 53 digits, not too great and not too small, is written as it is. -/
theorem nearest64_lt (s : Bool) (m : Nat) (e : Int) (hm : m < 16777216) (h1 : -149 ≤ e) (h2 : e ≤ 104) : ∃ r, FloatKind.f64.format.nearest s m e = FloatKind.f64.format.word s r ∧ r < FloatKind.f64.format.infRung := by
  have e2 : FloatKind.f64.format.binade = 4503599627370496 := by decide +kernel
  have e3 : FloatKind.f64.format.infRung = 9218868437227405312 := by decide +kernel
  have e4 : FloatKind.f64.format.leastPlace = -1074 := by decide +kernel
  have e5 : FloatKind.f64.format.fractionBits = 52 := by decide +kernel
  unfold Ieee.Format.nearest
  rw [e2, e3, e4, e5]
  by_cases h0 : m = 0
  · rw [if_pos h0]; exact ⟨0, rfl, by omega⟩
  · rw [if_neg h0]
    refine ⟨_, rfl, ?_⟩
    have hl : m.log2 ≤ 23 := log2_lt_of (b := 23) (by omega)
    have hlast : max (e + (m.log2 : Int) - (52 : Nat)) (-1074) = e + (m.log2 : Int) - 52 := by omega
    simp only [hlast]
    have hd : (e + (m.log2 : Int) - 52 - e).toNat = 0 := by omega
    rw [hd, cut_zero]
    have hs : (e - (e + (m.log2 : Int) - 52)).toNat = 52 - m.log2 := by omega
    rw [hs, Nat.shiftLeft_eq]
    have hk : m * 2 ^ (52 - m.log2) < 2 ^ 53 := by
      have := lt_pow_log2 m
      have h3 : m * 2 ^ (52 - m.log2) < 2 ^ (m.log2 + 1) * 2 ^ (52 - m.log2) := Nat.mul_lt_mul_of_pos_right this (Nat.two_pow_pos _)
      rw [← Nat.pow_add, show m.log2 + 1 + (52 - m.log2) = 53 by omega] at h3
      exact h3
    have hb : (e + (m.log2 : Int) - 52 - -1074).toNat ≤ 1149 := by omega
    generalize (e + (m.log2 : Int) - 52 - -1074).toNat = b at *
    generalize m * 2 ^ (52 - m.log2) = q at *
    exact rung_lt b q hb hk

/-- 'float64(x)' of a 32-bit number, told. -/
def wide (x : Nat) : Nat := cn .f64 ((cvBits .f32 .f64 x).getD (nanOf .f64))

theorem cvBits_num {x : Nat} {s : Bool} {m : Nat} {e : Int} (h : FloatKind.f32.decode x = .number s m e) : cvBits .f32 .f64 x = some (FloatKind.f64.encode (.number s m e)) := by
  obtain ⟨hm, h1, h2⟩ := read32 h
  obtain ⟨r, hr, hlt⟩ := nearest64_lt s m e hm h1 h2
  have : (FloatKind.f64.decode (FloatKind.f64.encode (.number s m e))).isInfinity = false := by
    show (FloatKind.f64.decode (FloatKind.f64.format.nearest s m e)).isInfinity = false
    rw [hr]
    exact word_inf_false hlt
  simp [cvBits, h, this]

theorem cn_cvR (x : Nat) (w : World) : cn .f64 (cvR .f32 .f64 x w) = wide x := by
  unfold cvR wide
  cases hd : FloatKind.f32.decode x with
  | number s m e => rw [cvBits_num hd]; rfl
  | infinity s => simp [cvBits, hd]
  | nan s t =>
    have : cvBits .f32 .f64 x = none := by simp [cvBits, hd]
    rw [this]
    simp only [Option.getD_none]
    rw [cn_nan (drawn_conv _ _ _).1, cn_nan (isNan_nanOf _)]

theorem cvBits_nan {x : Nat} (h : isNan .f32 x = true) : cvBits .f32 .f64 x = none := by
  obtain ⟨s, t, hr⟩ := read_nan h
  have : FloatKind.f32.decode x = .nan s t := hr
  simp [cvBits, this]

theorem wide_cn (x : Nat) : wide (cn .f32 x) = wide x := by
  unfold wide
  cases h : isNan .f32 x
  · rw [cn_num h]
  · rw [cvBits_nan h, cvBits_nan (by rw [isNan_cn]; exact h)]
theorem wide_of_cn {x y : Nat} (h : cn .f32 x = cn .f32 y) : wide x = wide y := by rw [← wide_cn x, h, wide_cn]
theorem cn_wide (x : Nat) : cn .f64 (wide x) = wide x := by unfold wide; rw [cn_cn]
end Go.Proofs.Ytjfmjeffmnjilaa.Fl
