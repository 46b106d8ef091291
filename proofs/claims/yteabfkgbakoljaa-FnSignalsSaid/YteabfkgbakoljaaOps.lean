/-
  The operations on floats as rules of the walk: each gives one word that is named, and draws so many answers; what the word is, but for the bits of a not-a-number, is told in plain equations.
-/
import Derived.Test.YteabfkgbakoljaaFl
namespace Go.Proofs.Yteabfkgbakoljaa.Fl
open Go.RowKit

section
variable {P : Program}

/-- The word that '+', '-', '*', '/' leave in this world, and how many answers they draw. -/
def flR (op : BinOp) (k : FloatKind) (x y : Nat) (w : World) : Nat := (floatBits op k x y).getD ((Question.nanBits k x y).cut (w.tape w.drawn (.nanBits k x y)))
def flN (op : BinOp) (k : FloatKind) (x y : Nat) : Nat := if (floatBits op k x y).isSome then 0 else 1

theorem cn_flR (op : BinOp) (k : FloatKind) (x y : Nat) (w : World) : cn k (flR op k x y w) = fb op k x y := by
  unfold flR fb
  cases floatBits op k x y with
  | some r => rfl
  | none => simp only [Option.getD_none]; rw [cn_nan (drawn_nan k x y _).1, cn_nan (isNan_nanOf k)]

theorem wf_flR (op : BinOp) (k : FloatKind) (x y : Nat) (w : World) : Wf k (flR op k x y w) := by
  unfold flR
  cases h : floatBits op k x y with
  | some r => exact lt_of_wf (floatBits_wf h)
  | none => exact (drawn_nan k x y _).2

theorem run_floatArith_any (op : BinOp) (hop : op = .add ∨ op = .sub ∨ op = .mul ∨ op = .quo) (k : FloatKind) (x y : Nat) (w : World) :
    (Op.floatArith op k x y).run P w = .ok (.float k (flR op k x y w)) (w.drewN (flN op k x y)) := by
  cases h : floatBits op k x y with
  | some r =>
    rw [show flR op k x y w = r by simp [flR, h], show flN op k x y = 0 by simp [flN, h]]
    rcases hop with rfl | rfl | rfl | rfl <;> simp only [floatBits] at h <;> simp [Op.floatArith, h, World.drewN_zero]
  | none =>
    rw [show flR op k x y w = (Question.nanBits k x y).cut (w.tape w.drawn (.nanBits k x y)) by simp [flR, h], show flN op k x y = 1 by simp [flN, h]]
    rcases hop with rfl | rfl | rfl | rfl <;> simp only [floatBits] at h <;> simp [Op.floatArith, h, go_sem, World.drew_is_drewN]

@[go_sem] theorem run_fadd (t : TypeId) (k : FloatKind) (x y : Nat) (w : World) : (binOp .add t (.float k x) (.float k y)).run P w = .ok (.float k (flR .add k x y w)) (w.drewN (flN .add k x y)) := by
  rw [← run_floatArith_any (P := P) .add (by simp) k x y w]; simp [binOp]
@[go_sem] theorem run_fsub (t : TypeId) (k : FloatKind) (x y : Nat) (w : World) : (binOp .sub t (.float k x) (.float k y)).run P w = .ok (.float k (flR .sub k x y w)) (w.drewN (flN .sub k x y)) := by
  rw [← run_floatArith_any (P := P) .sub (by simp) k x y w]; simp [binOp]
@[go_sem] theorem run_fmul (t : TypeId) (k : FloatKind) (x y : Nat) (w : World) : (binOp .mul t (.float k x) (.float k y)).run P w = .ok (.float k (flR .mul k x y w)) (w.drewN (flN .mul k x y)) := by
  rw [← run_floatArith_any (P := P) .mul (by simp) k x y w]; simp [binOp]
@[go_sem] theorem run_fquo (t : TypeId) (k : FloatKind) (x y : Nat) (w : World) : (binOp .quo t (.float k x) (.float k y)).run P w = .ok (.float k (flR .quo k x y w)) (w.drewN (flN .quo k x y)) := by
  rw [← run_floatArith_any (P := P) .quo (by simp) k x y w]; simp [binOp]

/-- '-x'. -/
@[go_sem] theorem unary_fneg (k : FloatKind) (b : Nat) : Op.unary .neg (.float k b) = pure (.float k (Op.negFloat k b)) := rfl

attribute [go_sem] binOp_float_cmp_eql binOp_float_cmp_neq binOp_float_cmp_lss binOp_float_cmp_leq binOp_float_cmp_gtr binOp_float_cmp_geq run_convert_int_float

/-- A comparison sees no more of a word than is told. -/
@[go_sem] theorem order_flR_left (op : BinOp) (k : FloatKind) (x y z : Nat) (w : World) : k.format.order (flR op k x y w) z = k.format.order (fb op k x y) z := by rw [← order_cnl, cn_flR]
@[go_sem] theorem order_flR_right (op : BinOp) (k : FloatKind) (x y z : Nat) (w : World) : k.format.order z (flR op k x y w) = k.format.order z (fb op k x y) := by rw [← order_cnr, cn_flR]

/-- 'float64(x)', 'float32(x)'. -/
def cvBits (s d : FloatKind) (b : Nat) : Option Nat :=
  if s = d then some b else
  match s.decode b with
  | .nan _ _ => none
  | .infinity g => some (d.encode (.infinity g))
  | .number g m e => if (d.decode (d.encode (.number g m e))).isInfinity then none else some (d.encode (.number g m e))
def cvR (s d : FloatKind) (b : Nat) (w : World) : Nat :=
  (cvBits s d b).getD (match s.decode b with
    | .nan _ _ => (Question.nanConv d b).cut (w.tape w.drawn (.nanConv d b))
    | _ => (Question.floatToFloat b).cut (w.tape w.drawn (.floatToFloat b)))
def cvN (s d : FloatKind) (b : Nat) : Nat := if (cvBits s d b).isSome then 0 else 1

theorem run_floatToFloat_any (s d : FloatKind) (b : Nat) (w : World) : (Conv.floatToFloat s b d).run P w = .ok (.float d (cvR s d b w)) (w.drewN (cvN s d b)) := by
  unfold Conv.floatToFloat
  by_cases hsd : s = d
  · subst hsd; simp [cvR, cvN, cvBits, World.drewN_zero]
  · rw [if_neg hsd]
    cases hd : s.decode b with
    | nan g t => simp [cvR, cvN, cvBits, hsd, hd, go_sem, World.drew_is_drewN]
    | infinity g => simp [cvR, cvN, cvBits, hsd, hd, World.drewN_zero]
    | number g m e =>
      by_cases ho : (d.decode (d.encode (.number g m e))).isInfinity = true
      · simp [cvR, cvN, cvBits, hsd, hd, ho, go_sem, World.drew_is_drewN]
      · simp [cvR, cvN, cvBits, hsd, hd, ho, World.drewN_zero]

@[go_sem] theorem run_convert_ff (src dst : TypeId) (s k : FloatKind) (b : Nat) (w : World) (hs : (P.underlying src).isSome = true) (hd : P.underlying dst = some (.float k)) :
    (convert src dst (.float s b)).run P w = .ok (.float k (cvR s k b w)) (w.drewN (cvN s k b)) := by
  obtain ⟨u, hs'⟩ := Option.isSome_iff_exists.1 hs
  rw [← run_floatToFloat_any (P := P)]
  cases u <;> simp [convert, run_underlying hs', run_underlying hd]
end
end Go.Proofs.Yteabfkgbakoljaa.Fl
