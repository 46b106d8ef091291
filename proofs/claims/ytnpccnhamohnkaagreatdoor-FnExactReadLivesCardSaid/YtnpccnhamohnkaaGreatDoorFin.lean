/-
  Floats told but for the bits of a not-a-number: 'cn k b' is the word b, one fixed word where b is a not-a-number; 'fb op k x y' is what '+', '-', '*', '/' give, so told. No program is in sight here.
-/
import Derived.Laws.FloatArith
import Derived.Deep.Draws
import Derived.Lib.Hide
import Derived.WalkKit
import Derived.Test.YtnpccnhamohnkaaGreatDoorChecked
import Derived.Test.YtnpccnhamohnkaaGreatDoorMem
import Derived.WalkLawsBesides
import Derived.WalkSpells
import Derived.BigQuiet
import Derived.Deep.RegionWith
import Derived.Deep.QuietTactic
namespace Go.Proofs.YtnpccnhamohnkaaGreatDoor.Fl
open Go.RowKit

/-- One fixed not-a-number of each kind. -/
def nanOf : FloatKind → Nat
  | .f32 => 2143289344
  | .f64 => 9221120237041090560

def isNan (k : FloatKind) (b : Nat) : Bool := (k.format.read b).isNaN

/-- The word b, but one fixed word where it is a not-a-number. -/
def cn (k : FloatKind) (b : Nat) : Nat := if isNan k b then nanOf k else b

theorem isNan_nanOf (k : FloatKind) : isNan k (nanOf k) = true := by cases k <;> decide +kernel

theorem cn_nan {k : FloatKind} {b : Nat} (h : isNan k b = true) : cn k b = nanOf k := by simp [cn, h]
theorem cn_num {k : FloatKind} {b : Nat} (h : isNan k b = false) : cn k b = b := by simp [cn, h]
theorem isNan_cn (k : FloatKind) (b : Nat) : isNan k (cn k b) = isNan k b := by
  cases h : isNan k b
  · rw [cn_num h, h]
  · rw [cn_nan h, isNan_nanOf]
theorem cn_cn (k : FloatKind) (b : Nat) : cn k (cn k b) = cn k b := by
  cases h : isNan k b
  · rw [cn_num h, cn_num h]
  · rw [cn_nan h, cn_nan (isNan_nanOf k)]
theorem isNan_of_cn {k : FloatKind} {a b : Nat} (h : cn k a = cn k b) : isNan k a = isNan k b := by rw [← isNan_cn k a, h, isNan_cn]
theorem eq_of_cn {k : FloatKind} {a b : Nat} (h : cn k a = cn k b) (ha : isNan k a = false) : a = b := by
  have hb : isNan k b = false := by rw [← isNan_of_cn h]; exact ha
  rw [cn_num ha, cn_num hb] at h; exact h

theorem read_nan {k : FloatKind} {b : Nat} (h : isNan k b = true) : ∃ s t, k.format.read b = .nan s t := by
  unfold isNan at h
  cases hr : k.format.read b with
  | nan s t => exact ⟨s, t, rfl⟩
  | number s m e => rw [hr] at h; cases h
  | infinity s => rw [hr] at h; cases h

/-- What '+', '-', '*', '/' give, told so. -/
def fb (op : BinOp) (k : FloatKind) (x y : Nat) : Nat := cn k ((floatBits op k x y).getD (nanOf k))

theorem floatBits_nan_left {op : BinOp} {k : FloatKind} {x y : Nat} (h : isNan k x = true) : floatBits op k x y = none := by
  obtain ⟨s, t, hr⟩ := read_nan h
  unfold floatBits
  split <;> simp [Ieee.Format.add, Ieee.Format.sub, Ieee.Format.mul, Ieee.Format.div, hr, Ieee.Datum.sum, Ieee.Datum.product, Ieee.Datum.quotient]

theorem floatBits_nan_right {op : BinOp} {k : FloatKind} {x y : Nat} (h : isNan k y = true) : floatBits op k x y = none := by
  obtain ⟨s, t, hr⟩ := read_nan h
  unfold floatBits
  split <;> simp only [Ieee.Format.add, Ieee.Format.sub, Ieee.Format.mul, Ieee.Format.div, hr, Ieee.Datum.opposite] <;>
    (cases k.format.read x <;> simp [Ieee.Datum.sum, Ieee.Datum.product, Ieee.Datum.quotient])

theorem floatBits_cn (op : BinOp) (k : FloatKind) (x y : Nat) : floatBits op k (cn k x) (cn k y) = floatBits op k x y := by
  cases hx : isNan k x
  · cases hy : isNan k y
    · rw [cn_num hx, cn_num hy]
    · rw [floatBits_nan_right hy, floatBits_nan_right (by rw [isNan_cn]; exact hy)]
  · rw [floatBits_nan_left hx, floatBits_nan_left (by rw [isNan_cn]; exact hx)]

theorem fb_cn (op : BinOp) (k : FloatKind) (x y : Nat) : fb op k (cn k x) (cn k y) = fb op k x y := by unfold fb; rw [floatBits_cn]
theorem fb_cnl (op : BinOp) (k : FloatKind) (x y : Nat) : fb op k (cn k x) y = fb op k x y := by rw [← fb_cn, cn_cn, fb_cn]
theorem fb_cnr (op : BinOp) (k : FloatKind) (x y : Nat) : fb op k x (cn k y) = fb op k x y := by rw [← fb_cn, cn_cn, fb_cn]
theorem cn_fb (op : BinOp) (k : FloatKind) (x y : Nat) : cn k (fb op k x y) = fb op k x y := by unfold fb; rw [cn_cn]

theorem order_cn (k : FloatKind) (x y : Nat) : k.format.order (cn k x) (cn k y) = k.format.order x y := by
  cases hx : isNan k x
  · cases hy : isNan k y
    · rw [cn_num hx, cn_num hy]
    · obtain ⟨s, t, hr⟩ := read_nan hy
      obtain ⟨s', t', hr'⟩ := read_nan (k := k) (b := cn k y) (by rw [isNan_cn]; exact hy)
      unfold Ieee.Format.order
      rw [hr, hr']
      cases k.format.read x <;> cases k.format.read (cn k x) <;> simp [Ieee.Datum.order]
  · obtain ⟨s, t, hr⟩ := read_nan hx
    obtain ⟨s', t', hr'⟩ := read_nan (k := k) (b := cn k x) (by rw [isNan_cn]; exact hx)
    unfold Ieee.Format.order
    rw [hr, hr']
    simp [Ieee.Datum.order]
theorem order_cnl (k : FloatKind) (x y : Nat) : k.format.order (cn k x) y = k.format.order x y := by rw [← order_cn, cn_cn, order_cn]
theorem order_cnr (k : FloatKind) (x y : Nat) : k.format.order x (cn k y) = k.format.order x y := by rw [← order_cn, cn_cn, order_cn]

theorem order_self (k : FloatKind) (x : Nat) : k.format.order x x = if isNan k x then none else some .eq := by
  unfold Ieee.Format.order isNan
  cases k.format.read x <;> simp [Ieee.Datum.order, Ieee.Datum.isNaN]

/-- The not-a-number that the model draws is one, and fits its kind. -/
theorem drawn_nan (k : FloatKind) (x y t : Nat) : isNan k ((Question.nanBits k x y).cut t) = true ∧ (Question.nanBits k x y).cut t < 2 ^ k.format.width := by
  cases k
  · have h1 : t % 2 < 2 := Nat.mod_lt _ (by omega)
    have h2 : t / 2 % (2 ^ 23 - 1) < 2 ^ 23 - 1 := Nat.mod_lt _ (by omega)
    have hw : 2 ^ FloatKind.f32.format.width = 4294967296 := by decide +kernel
    simp only [Question.cut, hw]
    generalize t % 2 = a at *
    generalize t / 2 % (2 ^ 23 - 1) = b at *
    refine ⟨?_, by omega⟩
    unfold isNan Ieee.Format.read
    have e1 : FloatKind.f32.format.signWeight = 2147483648 := by decide +kernel
    have e2 : FloatKind.f32.format.binade = 8388608 := by decide +kernel
    have e3 : FloatKind.f32.format.infRung = 2139095040 := by decide +kernel
    simp only [e1, e2, e3]
    have hm : (a * 2 ^ 31 + 0x7f800000 + 1 + b) % 2147483648 = 2139095041 + b := by omega
    rw [hm, if_neg (by omega), if_neg (by omega), if_neg (by omega)]
    rfl
  · have h1 : t % 2 < 2 := Nat.mod_lt _ (by omega)
    have h2 : t / 2 % (2 ^ 52 - 1) < 2 ^ 52 - 1 := Nat.mod_lt _ (by omega)
    have hw : 2 ^ FloatKind.f64.format.width = 18446744073709551616 := by decide +kernel
    simp only [Question.cut, hw]
    generalize t % 2 = a at *
    generalize t / 2 % (2 ^ 52 - 1) = b at *
    refine ⟨?_, by omega⟩
    unfold isNan Ieee.Format.read
    have e1 : FloatKind.f64.format.signWeight = 9223372036854775808 := by decide +kernel
    have e2 : FloatKind.f64.format.binade = 4503599627370496 := by decide +kernel
    have e3 : FloatKind.f64.format.infRung = 9218868437227405312 := by decide +kernel
    simp only [e1, e2, e3]
    have hm : (a * 2 ^ 63 + 0x7ff0000000000000 + 1 + b) % 9223372036854775808 = 9218868437227405313 + b := by omega
    rw [hm, if_neg (by omega), if_neg (by omega), if_neg (by omega)]
    rfl

theorem drawn_conv (k : FloatKind) (x t : Nat) : isNan k ((Question.nanConv k x).cut t) = true ∧ (Question.nanConv k x).cut t < 2 ^ k.format.width := by
  have h := drawn_nan k x x t
  cases k <;> exact h
theorem drawn_minmax (k : FloatKind) (b : Bool) (x y t : Nat) : isNan k ((Question.nanMinMax k b x y).cut t) = true ∧ (Question.nanMinMax k b x y).cut t < 2 ^ k.format.width := by
  have h := drawn_nan k x y t
  cases k <;> exact h

theorem wf_of (k : FloatKind) {b : Nat} (h : b < 2 ^ k.format.width) : (Lit.float k b).wf = true := wf_of_lt k b h
theorem lt_of_wf {k : FloatKind} {b : Nat} (h : (Lit.float k b).wf = true) : b < 2 ^ k.format.width := by
  cases k
  · have hw : 2 ^ FloatKind.f32.format.width = 4294967296 := by decide +kernel
    rw [hw]; simpa [Lit.wf] using h
  · have hw : 2 ^ FloatKind.f64.format.width = 18446744073709551616 := by decide +kernel
    rw [hw]; simpa [Lit.wf] using h

def Wf (k : FloatKind) (b : Nat) : Prop := b < 2 ^ k.format.width

section
variable {P : Program}

theorem farith (op : BinOp) (hop : op = .add ∨ op = .sub ∨ op = .mul ∨ op = .quo) (k : FloatKind) (x y : Nat) (w : World) :
    ∃ r n, (Op.floatArith op k x y).run P w = .ok (.float k r) (w.drewN n) ∧ cn k r = fb op k x y ∧ Wf k r := by
  cases h : floatBits op k x y with
  | some r =>
    refine ⟨r, 0, ?_, by simp [fb, h], lt_of_wf (floatBits_wf h)⟩
    rcases hop with rfl | rfl | rfl | rfl <;> simp only [floatBits] at h <;> simp [Op.floatArith, h, World.drewN_zero]
  | none =>
    have hd := drawn_nan k x y (w.tape w.drawn (.nanBits k x y))
    refine ⟨(Question.nanBits k x y).cut (w.tape w.drawn (.nanBits k x y)), 1, ?_, by rw [cn_nan hd.1]; simp [fb, h, cn_nan (isNan_nanOf k)], hd.2⟩
    rcases hop with rfl | rfl | rfl | rfl <;> simp only [floatBits] at h <;> simp [Op.floatArith, h, go_sem, World.drew_is_drewN]

theorem farith_bin (op : BinOp) (hop : op = .add ∨ op = .sub ∨ op = .mul ∨ op = .quo) (t : TypeId) (k : FloatKind) (x y : Nat) (w : World) :
    ∃ r n, (binOp op t (.float k x) (.float k y)).run P w = .ok (.float k r) (w.drewN n) ∧ cn k r = fb op k x y ∧ Wf k r := by
  obtain ⟨r, n, hr, h1, h2⟩ := farith (P := P) op hop k x y w
  refine ⟨r, n, ?_, h1, h2⟩
  rw [← hr]
  rcases hop with rfl | rfl | rfl | rfl <;> simp [binOp]
end
end Go.Proofs.YtnpccnhamohnkaaGreatDoor.Fl

/-
  The operations on floats as rules of the walk: each gives one word that is named, and draws so many answers; what the word is, but for the bits of a not-a-number, is told in plain equations.
-/
namespace Go.Proofs.YtnpccnhamohnkaaGreatDoor.Fl
open Go.RowKit

section
variable {P : Program}

/-- The word that '+', '-', '*', '/' leave in this world, and how many answers they draw. -/
def flR (op : BinOp) (k : FloatKind) (x y : Nat) (w : World) : Nat := (floatBits op k x y).getD ((Question.nanBits k x y).cut (w.tape w.drawn (.nanBits k x y)))
def flN (op : BinOp) (k : FloatKind) (x y : Nat) : Nat := if (floatBits op k x y).isSome then 0 else 1

theorem cn_flR (op : BinOp) (k : FloatKind) (x y : Nat) (w : World) : cn k (flR op k x y w) = fb op k x y := by
  unfold flR fb
  cases floatBits op k x y with
  | some r => rfl
  | none => simp only [Option.getD_none]; rw [cn_nan (drawn_nan k x y _).1, cn_nan (isNan_nanOf k)]

theorem wf_flR (op : BinOp) (k : FloatKind) (x y : Nat) (w : World) : Wf k (flR op k x y w) := by
  unfold flR
  cases h : floatBits op k x y with
  | some r => exact lt_of_wf (floatBits_wf h)
  | none => exact (drawn_nan k x y _).2

theorem run_floatArith_any (op : BinOp) (hop : op = .add ∨ op = .sub ∨ op = .mul ∨ op = .quo) (k : FloatKind) (x y : Nat) (w : World) :
    (Op.floatArith op k x y).run P w = .ok (.float k (flR op k x y w)) (w.drewN (flN op k x y)) := by
  cases h : floatBits op k x y with
  | some r =>
    rw [show flR op k x y w = r by simp [flR, h], show flN op k x y = 0 by simp [flN, h]]
    rcases hop with rfl | rfl | rfl | rfl <;> simp only [floatBits] at h <;> simp [Op.floatArith, h, World.drewN_zero]
  | none =>
    rw [show flR op k x y w = (Question.nanBits k x y).cut (w.tape w.drawn (.nanBits k x y)) by simp [flR, h], show flN op k x y = 1 by simp [flN, h]]
    rcases hop with rfl | rfl | rfl | rfl <;> simp only [floatBits] at h <;> simp [Op.floatArith, h, go_sem, World.drew_is_drewN]

@[go_sem] theorem run_fadd (t : TypeId) (k : FloatKind) (x y : Nat) (w : World) : (binOp .add t (.float k x) (.float k y)).run P w = .ok (.float k (flR .add k x y w)) (w.drewN (flN .add k x y)) := by
  rw [← run_floatArith_any (P := P) .add (by simp) k x y w]; simp [binOp]
@[go_sem] theorem run_fsub (t : TypeId) (k : FloatKind) (x y : Nat) (w : World) : (binOp .sub t (.float k x) (.float k y)).run P w = .ok (.float k (flR .sub k x y w)) (w.drewN (flN .sub k x y)) := by
  rw [← run_floatArith_any (P := P) .sub (by simp) k x y w]; simp [binOp]
@[go_sem] theorem run_fmul (t : TypeId) (k : FloatKind) (x y : Nat) (w : World) : (binOp .mul t (.float k x) (.float k y)).run P w = .ok (.float k (flR .mul k x y w)) (w.drewN (flN .mul k x y)) := by
  rw [← run_floatArith_any (P := P) .mul (by simp) k x y w]; simp [binOp]
@[go_sem] theorem run_fquo (t : TypeId) (k : FloatKind) (x y : Nat) (w : World) : (binOp .quo t (.float k x) (.float k y)).run P w = .ok (.float k (flR .quo k x y w)) (w.drewN (flN .quo k x y)) := by
  rw [← run_floatArith_any (P := P) .quo (by simp) k x y w]; simp [binOp]

/-- '-x'. -/
@[go_sem] theorem unary_fneg (k : FloatKind) (b : Nat) : Op.unary .neg (.float k b) = pure (.float k (Op.negFloat k b)) := rfl

attribute [go_sem] binOp_float_cmp_eql binOp_float_cmp_neq binOp_float_cmp_lss binOp_float_cmp_leq binOp_float_cmp_gtr binOp_float_cmp_geq run_convert_int_float

/-- A comparison sees no more of a word than is told. -/
@[go_sem] theorem order_flR_left (op : BinOp) (k : FloatKind) (x y z : Nat) (w : World) : k.format.order (flR op k x y w) z = k.format.order (fb op k x y) z := by rw [← order_cnl, cn_flR]
@[go_sem] theorem order_flR_right (op : BinOp) (k : FloatKind) (x y z : Nat) (w : World) : k.format.order z (flR op k x y w) = k.format.order z (fb op k x y) := by rw [← order_cnr, cn_flR]

/-- 'float64(x)', 'float32(x)'. -/
def cvBits (s d : FloatKind) (b : Nat) : Option Nat :=
  if s = d then some b else
  match s.decode b with
  | .nan _ _ => none
  | .infinity g => some (d.encode (.infinity g))
  | .number g m e => if (d.decode (d.encode (.number g m e))).isInfinity then none else some (d.encode (.number g m e))
def cvR (s d : FloatKind) (b : Nat) (w : World) : Nat :=
  (cvBits s d b).getD (match s.decode b with
    | .nan _ _ => (Question.nanConv d b).cut (w.tape w.drawn (.nanConv d b))
    | _ => (Question.floatToFloat b).cut (w.tape w.drawn (.floatToFloat b)))
def cvN (s d : FloatKind) (b : Nat) : Nat := if (cvBits s d b).isSome then 0 else 1

theorem run_floatToFloat_any (s d : FloatKind) (b : Nat) (w : World) : (Conv.floatToFloat s b d).run P w = .ok (.float d (cvR s d b w)) (w.drewN (cvN s d b)) := by
  unfold Conv.floatToFloat
  by_cases hsd : s = d
  · subst hsd; simp [cvR, cvN, cvBits, World.drewN_zero]
  · rw [if_neg hsd]
    cases hd : s.decode b with
    | nan g t => simp [cvR, cvN, cvBits, hsd, hd, go_sem, World.drew_is_drewN]
    | infinity g => simp [cvR, cvN, cvBits, hsd, hd, World.drewN_zero]
    | number g m e =>
      by_cases ho : (d.decode (d.encode (.number g m e))).isInfinity = true
      · simp [cvR, cvN, cvBits, hsd, hd, ho, go_sem, World.drew_is_drewN]
      · simp [cvR, cvN, cvBits, hsd, hd, ho, World.drewN_zero]

@[go_sem] theorem run_convert_ff (src dst : TypeId) (s k : FloatKind) (b : Nat) (w : World) (hs : (P.underlying src).isSome = true) (hd : P.underlying dst = some (.float k)) :
    (convert src dst (.float s b)).run P w = .ok (.float k (cvR s k b w)) (w.drewN (cvN s k b)) := by
  obtain ⟨u, hs'⟩ := Option.isSome_iff_exists.1 hs
  rw [← run_floatToFloat_any (P := P)]
  cases u <;> simp [convert, run_underlying hs', run_underlying hd]
end
end Go.Proofs.YtnpccnhamohnkaaGreatDoor.Fl

/-
  'float64(x)' of a 32-bit number: it is exact, never an infinity of its own; what is told of it hangs on what is told of x alone.
-/
namespace Go.Proofs.YtnpccnhamohnkaaGreatDoor.Fl
open Go.RowKit

theorem log2_lt_of {m b : Nat} (h : m < 2 ^ (b + 1)) : m.log2 ≤ b := by
  rcases Nat.eq_zero_or_pos m with h0 | h0
  · subst h0; simp
  · exact Nat.le_of_lt_succ ((Nat.log2_lt (by omega)).2 h)

theorem pow_log2_le {m : Nat} (h : m ≠ 0) : 2 ^ m.log2 ≤ m := Nat.log2_self_le h
theorem lt_pow_log2 (m : Nat) : m < 2 ^ (m.log2 + 1) := Nat.lt_log2_self

/-- What a 32-bit word stands for, if it is a number. -/
theorem read32 {x : Nat} {s : Bool} {m : Nat} {e : Int} (h : FloatKind.f32.decode x = .number s m e) : m < 16777216 ∧ -149 ≤ e ∧ e ≤ 104 := by
  unfold FloatKind.decode Ieee.Format.read at h
  have e1 : FloatKind.f32.format.signWeight = 2147483648 := by decide +kernel
  have e2 : FloatKind.f32.format.binade = 8388608 := by decide +kernel
  have e3 : FloatKind.f32.format.infRung = 2139095040 := by decide +kernel
  have e4 : FloatKind.f32.format.leastPlace = -149 := by decide +kernel
  simp only [e1, e2, e3, e4] at h
  generalize x % 2147483648 = r at h
  split at h
  · injection h with h1 h2 h3; omega
  · split at h
    · injection h with h1 h2 h3
      have : r % 8388608 < 8388608 := Nat.mod_lt _ (by omega)
      omega
    · split at h <;> cases h

theorem word_inf_false {k : FloatKind} {s : Bool} {r : Nat} (h : r < k.format.infRung) : (k.decode (k.format.word s r)).isInfinity = false := by
  unfold FloatKind.decode Ieee.Format.read Ieee.Format.word
  have hlt := Ieee.Format.infRung_lt k.format
  have hw : 0 < k.format.signWeight := by omega
  have hm : (if s = true then k.format.signWeight + r else r) % k.format.signWeight = r := by
    split
    · rw [Nat.add_mod_left, Nat.mod_eq_of_lt (by omega)]
    · exact Nat.mod_eq_of_lt (by omega)
  simp only [hm]
  split
  · rfl
  · first | rfl | (rw [if_pos h]; rfl)

theorem cut_zero (way : Ieee.Toward) (s : Bool) (n : Nat) : way.cut s n 0 = n := by
  unfold Ieee.Toward.cut
  cases way <;> simp [Nat.mod_one]

theorem rung_lt (b q : Nat) (hb : b ≤ 1149) (hk : q < 2 ^ 53) : min (b * 4503599627370496 + q) 9218868437227405312 < 9218868437227405312 := by
  have h : b * 4503599627370496 ≤ 1149 * 4503599627370496 := Nat.mul_le_mul_right _ hb
  refine Nat.lt_of_le_of_lt (Nat.min_le_left _ _) ?_
  have h2 : (2 : Nat) ^ 53 = 9007199254740992 := by decide
  rw [h2] at hk
  omega

/-- A number of at most 53 digits, not too great and not too small, is written as it is. -/
theorem nearest64_lt (s : Bool) (m : Nat) (e : Int) (hm : m < 16777216) (h1 : -149 ≤ e) (h2 : e ≤ 104) : ∃ r, FloatKind.f64.format.nearest s m e = FloatKind.f64.format.word s r ∧ r < FloatKind.f64.format.infRung := by
  have e2 : FloatKind.f64.format.binade = 4503599627370496 := by decide +kernel
  have e3 : FloatKind.f64.format.infRung = 9218868437227405312 := by decide +kernel
  have e4 : FloatKind.f64.format.leastPlace = -1074 := by decide +kernel
  have e5 : FloatKind.f64.format.fractionBits = 52 := by decide +kernel
  unfold Ieee.Format.nearest
  rw [e2, e3, e4, e5]
  by_cases h0 : m = 0
  · rw [if_pos h0]; exact ⟨0, rfl, by omega⟩
  · rw [if_neg h0]
    refine ⟨_, rfl, ?_⟩
    have hl : m.log2 ≤ 23 := log2_lt_of (b := 23) (by omega)
    have hlast : max (e + (m.log2 : Int) - (52 : Nat)) (-1074) = e + (m.log2 : Int) - 52 := by omega
    simp only [hlast]
    have hd : (e + (m.log2 : Int) - 52 - e).toNat = 0 := by omega
    rw [hd, cut_zero]
    have hs : (e - (e + (m.log2 : Int) - 52)).toNat = 52 - m.log2 := by omega
    rw [hs, Nat.shiftLeft_eq]
    have hk : m * 2 ^ (52 - m.log2) < 2 ^ 53 := by
      have := lt_pow_log2 m
      have h3 : m * 2 ^ (52 - m.log2) < 2 ^ (m.log2 + 1) * 2 ^ (52 - m.log2) := Nat.mul_lt_mul_of_pos_right this (Nat.two_pow_pos _)
      rw [← Nat.pow_add, show m.log2 + 1 + (52 - m.log2) = 53 by omega] at h3
      exact h3
    have hb : (e + (m.log2 : Int) - 52 - -1074).toNat ≤ 1149 := by omega
    generalize (e + (m.log2 : Int) - 52 - -1074).toNat = b at *
    generalize m * 2 ^ (52 - m.log2) = q at *
    exact rung_lt b q hb hk

/-- 'float64(x)' of a 32-bit number, told. -/
def wide (x : Nat) : Nat := cn .f64 ((cvBits .f32 .f64 x).getD (nanOf .f64))

theorem cvBits_num {x : Nat} {s : Bool} {m : Nat} {e : Int} (h : FloatKind.f32.decode x = .number s m e) : cvBits .f32 .f64 x = some (FloatKind.f64.encode (.number s m e)) := by
  obtain ⟨hm, h1, h2⟩ := read32 h
  obtain ⟨r, hr, hlt⟩ := nearest64_lt s m e hm h1 h2
  have : (FloatKind.f64.decode (FloatKind.f64.encode (.number s m e))).isInfinity = false := by
    show (FloatKind.f64.decode (FloatKind.f64.format.nearest s m e)).isInfinity = false
    rw [hr]
    exact word_inf_false hlt
  simp [cvBits, h, this]

theorem cn_cvR (x : Nat) (w : World) : cn .f64 (cvR .f32 .f64 x w) = wide x := by
  unfold cvR wide
  cases hd : FloatKind.f32.decode x with
  | number s m e => rw [cvBits_num hd]; rfl
  | infinity s => simp [cvBits, hd]
  | nan s t =>
    have : cvBits .f32 .f64 x = none := by simp [cvBits, hd]
    rw [this]
    simp only [Option.getD_none]
    rw [cn_nan (drawn_conv _ _ _).1, cn_nan (isNan_nanOf _)]

theorem cvBits_nan {x : Nat} (h : isNan .f32 x = true) : cvBits .f32 .f64 x = none := by
  obtain ⟨s, t, hr⟩ := read_nan h
  have : FloatKind.f32.decode x = .nan s t := hr
  simp [cvBits, this]

theorem wide_cn (x : Nat) : wide (cn .f32 x) = wide x := by
  unfold wide
  cases h : isNan .f32 x
  · rw [cn_num h]
  · rw [cvBits_nan h, cvBits_nan (by rw [isNan_cn]; exact h)]
theorem wide_of_cn {x y : Nat} (h : cn .f32 x = cn .f32 y) : wide x = wide y := by rw [← wide_cn x, h, wide_cn]
theorem cn_wide (x : Nat) : cn .f64 (wide x) = wide x := by unfold wide; rw [cn_cn]
end Go.Proofs.YtnpccnhamohnkaaGreatDoor.Fl

/-
  Contracts of the helpers of the laws: copies, comparisons, marks.
-/
namespace Go.Proofs.YtnpccnhamohnkaaGreatDoor
open Go.RowKit Fl Mem
set_option linter.unusedVariables false

/-- The cells of a list of numbers. -/
abbrev fl (k : FloatKind) (xs : List Nat) : List Value := xs.map (Value.float k)
theorem ret_bool {a b : Bool} (h : a = b) : Ending.returned (.bool a) = .returned (.bool b) := by rw [h]
theorem ret_int {k : IntKind} {a b : Int} (h : a = b) : Ending.returned (.int k a) = .returned (.int k b) := by rw [h]

set_option maxHeartbeats 400000 in
/-- 'sameFloat' of two numbers that are the same. -/
theorem sameFloat_eq (a b : Nat) (w : World) (h : cn .f64 a = cn .f64 b) :
    Calls Tryz.prog 106 #[.float .f64 a, .float .f64 b] w fun e w' => e = .returned (.bool true) ∧ ∃ n, w' = w.drewN n := by
  cases ha : isNan .f64 a
  · obtain rfl := eq_of_cn h ha
    have h1 : (FloatKind.f64.format.order a a != some Ordering.eq) = false := by rw [order_self, ha]; rfl
    have h2 : (FloatKind.f64.format.order a a == some Ordering.eq) = true := by rw [order_self, ha]; rfl
    clear h
    cases h3 : (FloatKind.f64.format.order a 0 == some Ordering.eq) with
    | true =>
      go_enter Tryz.func106, Tryz.ntmps106
      go_wp2
      go_ret
      exact ⟨by simp, _, rfl⟩
    | false =>
      go_enter Tryz.func106, Tryz.ntmps106
      go_wp2
      go_ret
      exact ⟨rfl, 0, rfl⟩
  · have hb : isNan .f64 b = true := by rw [← isNan_of_cn h]; exact ha
    have h1 : (FloatKind.f64.format.order a a != some Ordering.eq) = true := by rw [order_self, ha]; rfl
    have h2 : (FloatKind.f64.format.order b b != some Ordering.eq) = true := by rw [order_self, hb]; rfl
    clear h
    go_enter Tryz.func106, Tryz.ntmps106
    go_wp2
    go_ret
    exact ⟨rfl, 0, rfl⟩

set_option maxHeartbeats 400000 in
theorem eqFloat32S_eq (A A' : Option Addr) (n n' c c' : Nat) (xs ys : List Nat) (B B' : Nat) (w : World) (h : Reads w B 1 A n (fl .f32 xs)) (h' : Reads w B' 1 A' n' (fl .f32 ys)) (hn : n ≤ maxLen)
    (he : xs.map (cn .f32) = ys.map (cn .f32)) :
    Calls Tryz.prog 50 #[.slice A n c, .slice A' n' c'] w fun e w' => e = .returned (.bool true) ∧ ∃ n, w' = w.drewN n := by
  have hl : n' = n := by
    have h1 := h.1
    have h2 := h'.1
    have h3 := congrArg List.length he
    simp [fl] at h1 h2 h3
    omega
  subst hl
  have He := hide he
  clear he
  unfold maxLen at hn
  go_enter Tryz.func50, Tryz.ntmps50
  go_wp2
  go_loopw [5] (fun i wr => ∃ k m : Nat, k ≤ n' ∧ i = .int .i64 k ∧ wr = w.drewN m) (fun i _ => n' - (intOf i).toNat)
  case atStart => exact ⟨0, 0, Nat.zero_le _, rfl, rfl⟩
  case round =>
    obtain ⟨k, m, hk, rfl, rfl⟩ := hrel
    by_cases hlt : k < n'
    · obtain ⟨ad, x, rfl, _, hx, hc⟩ := h.map_at hlt
      obtain ⟨ad', y, rfl, _, hy, hc'⟩ := h'.map_at hlt
      have Hxy : Hid (wide x = wide y) := by
        have h0 := congrArg (fun l => l[k]?) (unhide He)
        simp only [List.getElem?_map, hx, hy, Option.map_some, Option.some.injEq] at h0
        exact wide_of_cn h0
      have Hx := hide hx
      have Hy := hide hy
      clear hx hy
      go_wp2
      go_region_with (go_at_call 106; refine (sameFloat_eq _ _ _ ?_).mono ?_; (rw [cn_cvR, cn_cvR]; exact Hxy); rintro e w' ⟨rfl, m', rfl⟩)
      all_goals
        go_wp2
        go_roundw
        case rel => exact ⟨k + 1, _, by omega, by go_num, rfl⟩
        case measure => simp [intOf]; omega
    · go_wp2
      go_ret
      exact ⟨rfl, m, rfl⟩
end Go.Proofs.YtnpccnhamohnkaaGreatDoor

/-
  The order of numbers, in plain integers: finite words stand for numbers, and the order of finite words is that of these.
-/
namespace Go.Proofs.YtnpccnhamohnkaaGreatDoor.Fl
open Go.RowKit
set_option linter.unusedVariables false

/-- Is a number finite. -/
def fin (k : FloatKind) (x : Nat) : Bool := k.format.order (fb .sub k x x) 0 == some .eq
theorem fin_cn (k : FloatKind) (x : Nat) : fin k (cn k x) = fin k x := by unfold fin; rw [fb_cn]

/-- 'm 2^i' with its sign, counted in units of '2^b'. -/
def sval (s : Bool) (m : Nat) (i b : Int) : Int := Ieee.signed s m (i - b).toNat

theorem signed_mul (s : Bool) (m u v : Nat) : Ieee.signed s m (u + v) = Ieee.signed s m u * 2 ^ v := by
  unfold Ieee.signed
  have h : ((m <<< (u + v) : Nat) : Int) = ((m <<< u : Nat) : Int) * 2 ^ v := by
    rw [Nat.shiftLeft_eq, Nat.shiftLeft_eq, Nat.pow_add, ← Nat.mul_assoc]
    push_cast
    rfl
  split
  · rw [h, Int.neg_mul]
  · exact h
theorem sval_shift (s : Bool) (m : Nat) {i b c : Int} (h1 : b ≤ c) (h2 : c ≤ i) : sval s m i b = sval s m i c * 2 ^ (c - b).toNat := by
  unfold sval
  rw [← signed_mul]
  congr 1
  omega

theorem compare_int (a b : Int) : compare a b = if a < b then .lt else if a = b then .eq else .gt := by
  simp only [compare, compareOfLessAndEq]
theorem compare_mul (a b : Int) {p : Int} (hp : 0 < p) : compare (a * p) (b * p) = compare a b := by
  rw [compare_int, compare_int]
  have h1 : a * p < b * p ↔ a < b := Int.mul_lt_mul_right hp
  have h2 : a * p = b * p ↔ a = b := Int.mul_eq_mul_right_iff (by omega)
  simp only [h1, h2]

theorem order_num {k : FloatKind} {x y : Nat} {s t : Bool} {m n : Nat} {i j : Int} (hx : k.format.read x = .number s m i) (hy : k.format.read y = .number t n j) {b : Int} (h1 : b ≤ i) (h2 : b ≤ j) :
    k.format.order x y = some (compare (sval s m i b) (sval t n j b)) := by
  unfold Ieee.Format.order
  rw [hx, hy]
  show some (compare (sval s m i (min i j)) (sval t n j (min i j))) = _
  rw [sval_shift s m (b := b) (c := min i j) (by omega) (by omega), sval_shift t n (b := b) (c := min i j) (by omega) (by omega), compare_mul]
  exact Int.pow_pos (by decide)

theorem nearest_zero (f : Ieee.Format) (s : Bool) (e : Int) : f.nearest s 0 e = f.word s 0 := by simp [Ieee.Format.nearest]

theorem read_zero_word (k : FloatKind) (s : Bool) : ∃ p, k.format.read (k.format.word s 0) = .number s 0 p := by
  exact ⟨k.format.leastPlace, by cases k <;> cases s <;> decide +kernel⟩

theorem fin_iff (k : FloatKind) (x : Nat) : fin k x = true ↔ ∃ s m i, k.format.read x = .number s m i := by
  unfold fin fb floatBits Ieee.Format.sub
  cases hx : k.format.read x with
  | nan s t =>
    constructor
    · intro h
      simp only [Ieee.Datum.sum, Option.map_none, Option.getD_none] at h
      rw [cn_nan (isNan_nanOf k)] at h
      obtain ⟨s', t', hr⟩ := read_nan (isNan_nanOf k)
      unfold Ieee.Format.order at h
      rw [hr] at h
      simp [Ieee.Datum.order] at h
    · rintro ⟨s', m, i, h⟩; cases h
  | infinity s =>
    constructor
    · intro h
      have : (s = !s) = False := by cases s <;> simp
      simp only [Ieee.Datum.sum, Ieee.Datum.opposite, this, if_false, Option.map_none, Option.getD_none] at h
      rw [cn_nan (isNan_nanOf k)] at h
      obtain ⟨s', t', hr⟩ := read_nan (isNan_nanOf k)
      unfold Ieee.Format.order at h
      rw [hr] at h
      simp [Ieee.Datum.order] at h
    · rintro ⟨s', m, i, h⟩; cases h
  | number s m i =>
    constructor
    · intro _; exact ⟨s, m, i, rfl⟩
    · intro _
      have h0 : Ieee.signed s m (i - min i i).toNat + Ieee.signed (!s) m (i - min i i).toNat = 0 := by
        unfold Ieee.signed
        cases s <;> simp <;> omega
      simp only [Ieee.Datum.sum, Ieee.Datum.opposite, h0, if_true, Option.map_some, Option.getD_some, Int.natAbs_zero, Ieee.Format.write, nearest_zero]
      obtain ⟨p, hp⟩ := read_zero_word k (s && !s)
      have hn : isNan k (k.format.word (s && !s) 0) = false := by unfold isNan; rw [hp]; rfl
      rw [cn_num hn]
      obtain ⟨p0, hp0⟩ := read_zero_word k false
      have e0 : k.format.word false 0 = 0 := rfl
      rw [e0] at hp0
      rw [order_num hp hp0 (b := min p p0) (by omega) (by omega)]
      simp [sval, Ieee.signed]

/-- What is greater than a number is not less than one that is at most this. -/
theorem gt_not_lt {k : FloatKind} {x on off : Nat} (h1 : fin k on = true) (h2 : fin k off = true) (hx : fin k x = true) (hgt : k.format.order x on = some .gt) (hle : k.format.order off on ≠ some .gt) :
    k.format.order x off ≠ some .lt := by
  obtain ⟨s1, m1, i1, r1⟩ := (fin_iff k on).1 h1
  obtain ⟨s2, m2, i2, r2⟩ := (fin_iff k off).1 h2
  obtain ⟨s3, m3, i3, r3⟩ := (fin_iff k x).1 hx
  have b1 : min i1 (min i2 i3) ≤ i1 := by omega
  have b2 : min i1 (min i2 i3) ≤ i2 := by omega
  have b3 : min i1 (min i2 i3) ≤ i3 := by omega
  rw [order_num r3 r1 b3 b1] at hgt
  rw [order_num r2 r1 b2 b1] at hle
  rw [order_num r3 r2 b3 b2]
  generalize sval s1 m1 i1 (min i1 (min i2 i3)) = a at *
  generalize sval s2 m2 i2 (min i1 (min i2 i3)) = b at *
  generalize sval s3 m3 i3 (min i1 (min i2 i3)) = c at *
  rw [compare_int] at *
  intro h
  simp only [Option.some.injEq] at *
  split at h
  · split at hgt
    · cases hgt
    · split at hgt
      · cases hgt
      · refine hle ?_
        rw [if_neg (by omega), if_neg (by omega)]
  · split at h <;> cases h
end Go.Proofs.YtnpccnhamohnkaaGreatDoor.Fl

/-
  Contracts on numbers that are finite, one by one and all.
-/
namespace Go.Proofs.YtnpccnhamohnkaaGreatDoor
open Go.RowKit Fl Mem
set_option linter.unusedVariables false

theorem i_IsFinite (x : Nat) (w : World) : Calls Tryz.prog 136 #[.float .f32 x] w fun e w' => e = .returned (.bool (fin .f32 x)) ∧ ∃ n, w' = w.drewN n := by
  go_enter Tryz.func136, Tryz.ntmps136
  go_wp2
  go_ret
  exact ⟨rfl, _, rfl⟩
theorem s_l01Finite (x : Nat) (w : World) : Calls Tryz.prog 206 #[.float .f32 x] w fun e w' => e = .returned (.bool (fin .f32 x)) ∧ ∃ n, w' = w.drewN n := by
  go_enter Tryz.func206, Tryz.ntmps206
  go_wp2
  go_ret
  exact ⟨rfl, _, rfl⟩

theorem areFinite_1 (x : Nat) (w : World) : Calls Tryz.prog 200 #[.float .f32 x] w fun e w' => e = .returned (.bool (!fin .f32 x)) ∧ ∃ n, w' = w.drewN n := by
  go_enter Tryz.func200, Tryz.ntmps200
  go_wp2_with (go_at_call 136; refine (i_IsFinite _ _).mono ?_; rintro e w' ⟨rfl, m', rfl⟩)
  go_ret
  exact ⟨rfl, _, rfl⟩

/-- What 'slices.IndexFunc' gives. -/
def ixf {α : Type} (p : α → Bool) (xs : List α) : Int := match xs.findIdx? p with | some i => i | none => -1
theorem ixf_at {α : Type} {p : α → Bool} {xs : List α} {k : Nat} {x : α} (hx : xs[k]? = some x) (h0 : (xs.take k).all (fun y => !p y) = true) (hp : p x = true) : ixf p xs = k := by
  unfold ixf
  have : xs.findIdx? p = some k := by
    obtain ⟨hk, rfl⟩ := List.getElem?_eq_some_iff.1 hx
    rw [List.findIdx?_eq_some_iff_getElem]
    refine ⟨hk, hp, fun j hj => ?_⟩
    have := List.all_eq_true.1 h0 xs[j] (by rw [List.mem_take_iff_getElem]; exact ⟨j, by omega, rfl⟩)
    simpa using this
  rw [this]
theorem ixf_none {α : Type} {p : α → Bool} {xs : List α} (h0 : xs.all (fun y => !p y) = true) : ixf p xs = -1 := by
  unfold ixf
  have : xs.findIdx? p = none := by
    rw [List.findIdx?_eq_none_iff]
    intro x hx
    have := List.all_eq_true.1 h0 x hx
    simpa using this
  rw [this]
theorem ixf_ge {α : Type} (p : α → Bool) (xs : List α) : decide (0 ≤ ixf p xs) = xs.any p := by
  unfold ixf
  cases h : xs.findIdx? p with
  | none =>
    rw [List.findIdx?_eq_none_iff] at h
    have : xs.any p = false := by
      rw [List.any_eq_false]
      intro x hx
      simp [h x hx]
    rw [this]; rfl
  | some i =>
    have h2 : xs.any p = true := by
      rw [List.findIdx?_eq_some_iff_getElem] at h
      obtain ⟨hi, hp, _⟩ := h
      exact List.any_eq_true.2 ⟨_, List.getElem_mem hi, hp⟩
    rw [h2]
    simp
theorem ixf_lt {α : Type} (p : α → Bool) (xs : List α) : -1 ≤ ixf p xs ∧ ixf p xs < xs.length ∨ ixf p xs = -1 := by
  unfold ixf
  cases h : xs.findIdx? p with
  | none => right; rfl
  | some i =>
    left
    rw [List.findIdx?_eq_some_iff_getElem] at h
    obtain ⟨hi, _⟩ := h
    simp only
    omega

set_option maxHeartbeats 400000 in
theorem indexFunc_areFinite (A : Option Addr) (n c : Nat) (xs : List Nat) (B : Nat) (w : World) (h : Reads w B 1 A n (fl .f32 xs)) (hn : n ≤ maxLen) :
    Calls Tryz.prog 209 #[.slice A n c, .func (.func 200) #[] #[]] w fun e w' => e = .returned (.int .i64 (ixf (fun x => !fin .f32 x) xs)) ∧ ∃ n, w' = w.drewN n := by
  unfold maxLen at hn
  have Hlen := hide h.map_len
  go_enter Tryz.func209, Tryz.ntmps209
  go_wp2
  go_loopw [5, 8] (fun _ i wr => ∃ k m : Nat, k ≤ n ∧ i = .int .i64 k ∧ wr = w.drewN m ∧ Hid ((xs.take k).all (fun y => !!fin .f32 y) = true)) (fun _ i _ => n - (intOf i).toNat)
  case atStart => exact ⟨0, 0, Nat.zero_le _, rfl, rfl, rfl⟩
  case round =>
    obtain ⟨k, m, hk, rfl, rfl, ha⟩ := hrel
    by_cases hlt : k < n
    · obtain ⟨ad, x, rfl, _, hx, hc⟩ := h.map_at hlt
      have Hx := hide hx
      clear hx
      go_wp2_with (go_at_call 200; refine (areFinite_1 _ _).mono ?_; rintro e w' ⟨rfl, m', rfl⟩)
      · rename_i h0
        go_ret
        exact ⟨ret_int (ixf_at Hx.out ha.out h0).symm, _, rfl⟩
      · rename_i h0
        go_roundw
        case rel => exact ⟨k + 1, _, by omega, by go_num, rfl, hide (by rw [take_eq Hx.out, List.all_append, ha.out]; simp at h0; simp [h0])⟩
        case measure => simp [intOf]; omega
    · go_wp2
      go_ret
      refine ⟨ret_int (ixf_none ?_).symm, _, rfl⟩
      rw [← ha.out, List.take_of_length_le (by rw [Hlen.out]; omega)]

theorem containsFunc_areFinite (A : Option Addr) (n c : Nat) (xs : List Nat) (B : Nat) (w : World) (h : Reads w B 1 A n (fl .f32 xs)) (hn : n ≤ maxLen) :
    Calls Tryz.prog 167 #[.slice A n c, .func (.func 200) #[] #[]] w fun e w' => e = .returned (.bool (xs.any (fun x => !fin .f32 x))) ∧ ∃ n, w' = w.drewN n := by
  go_enter Tryz.func167, Tryz.ntmps167
  go_wp2_with (go_at_call 209; refine (indexFunc_areFinite _ _ _ xs _ _ h hn).mono ?_; rintro e w' ⟨rfl, m', rfl⟩)
  go_ret
  refine ⟨ret_bool ?_, _, rfl⟩
  rw [← ixf_ge]

theorem i_areFinite (A : Option Addr) (n c : Nat) (xs : List Nat) (B : Nat) (w : World) (h : Reads w B 1 A n (fl .f32 xs)) (hn : n ≤ maxLen) :
    Calls Tryz.prog 143 #[.slice A n c] w fun e w' => e = .returned (.bool (xs.all (fin .f32))) ∧ ∃ n, w' = w.drewN n := by
  go_enter Tryz.func143, Tryz.ntmps143
  go_wp2_with (go_at_call 167; refine (containsFunc_areFinite _ _ _ xs _ _ h hn).mono ?_; rintro e w' ⟨rfl, m', rfl⟩)
  go_ret
  refine ⟨ret_bool ?_, _, rfl⟩
  rw [List.all_eq_not_any_not]

/-- Is a list a signal. -/
def isSig (xs : List Nat) : Bool := decide (1 ≤ xs.length) && decide (xs.length ≤ 96) && xs.all (fin .f32)

theorem isSig_len {xs : List Nat} (h : isSig xs = true) : 1 ≤ xs.length ∧ xs.length ≤ 96 := by
  unfold isSig at h
  simp at h
  exact h.1
/-- Is an integer in a range. -/
def inB (a lo hi : Int) : Bool := decide (lo ≤ a) && decide (a ≤ hi)
theorem inB_iff {a lo hi : Int} : inB a lo hi = true ↔ lo ≤ a ∧ a ≤ hi := by unfold inB; simp
theorem i_within (a lo hi : Int) (w : World) : Calls Tryz.prog 84 #[.int .i64 a, .int .i64 lo, .int .i64 hi] w fun e w' => e = .returned (.bool (inB a lo hi)) ∧ w = w' := by
  by_cases h : lo ≤ a
  · go_enter Tryz.func84, Tryz.ntmps84
    go_wp2
    go_ret
    exact ⟨ret_bool (by unfold inB; rw [decide_eq_true h]; rfl), rfl⟩
  · go_enter Tryz.func84, Tryz.ntmps84
    go_wp2
    go_ret
    exact ⟨ret_bool (by unfold inB; rw [decide_eq_false (by omega)]; rfl), rfl⟩
theorem s_l00In (a lo hi : Int) (w : World) : Calls Tryz.prog 164 #[.int .i64 a, .int .i64 lo, .int .i64 hi] w fun e w' => e = .returned (.bool (inB a lo hi)) ∧ w = w' := by
  by_cases h : lo ≤ a
  · go_enter Tryz.func164, Tryz.ntmps164
    go_wp2
    go_ret
    exact ⟨ret_bool (by unfold inB; rw [decide_eq_true h]; rfl), rfl⟩
  · go_enter Tryz.func164, Tryz.ntmps164
    go_wp2
    go_ret
    exact ⟨ret_bool (by unfold inB; rw [decide_eq_false (by omega)]; rfl), rfl⟩
end Go.Proofs.YtnpccnhamohnkaaGreatDoor
