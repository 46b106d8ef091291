/-
  Contracts on lists of numbers that are told, and on numbers that are greater than 0.
-/
import Derived.Test.YtjfmjeffmnjilaaFin
import Derived.Test.YtjfmjeffmnjilaaHelq
namespace Go.Proofs.Ytjfmjeffmnjilaa
open Go.RowKit Fl Mem
set_option linter.unusedVariables false
set_option maxRecDepth 100000

/-- Is a number finite and greater than 0. -/
def pos (x : Nat) : Bool := fin .f32 x && (FloatKind.f32.format.order x 0 == some .gt)
theorem pos_cn (x : Nat) : pos (cn .f32 x) = pos x := by unfold pos; rw [fin_cn, order_cnl]
/-- Is a list one of numbers that are told. -/
def isToldL (xs : List Nat) : Bool := decide (1 ≤ xs.length) && decide (xs.length ≤ 256) && xs.all (fin .f32)
theorem told_len {xs : List Nat} (h : isToldL xs = true) : 1 ≤ xs.length ∧ xs.length ≤ 256 := by
  unfold isToldL at h
  simp at h
  exact h.1
theorem fl_eq {op : BinOp} {k : FloatKind} {x y a b : Nat} {w : World} (hx : cn k x = a) (hy : cn k y = b) : cn k (flR op k x y w) = fb op k a b := by rw [cn_flR, ← fb_cn, hx, hy]
theorem fl_eqr {op : BinOp} {k : FloatKind} {x y b : Nat} {w : World} (hy : cn k y = b) : cn k (flR op k x y w) = fb op k x b := by rw [cn_flR, ← fb_cnr, hy]
theorem fl_eql {op : BinOp} {k : FloatKind} {x y a : Nat} {w : World} (hx : cn k x = a) : cn k (flR op k x y w) = fb op k a y := by rw [cn_flR, ← fb_cnl, hx]

/-- The same of two numbers, or of one, that have just been laid. -/
theorem i_areFinite2 (w : World) (e : TypeId) (a b g : Nat) (hg : g = w.heap.size) {RA RB : Nat} (hA : cn .f32 a = RA) (hB : cn .f32 b = RB) :
    Calls Try.prog 83 #[.slice (some ⟨g, 0, none⟩) 2 2] (w.alloc (.cells #[.float .f32 a, .float .f32 b] e)) fun r w' => r = .returned (.bool (fin .f32 RA && fin .f32 RB)) ∧ Hid (cn .f32 a = RA) ∧ Hid (cn .f32 b = RB) ∧ ∃ n, w' = (w.alloc (.cells #[.float .f32 a, .float .f32 b] e)).drewN n := by
  subst hg
  refine (i_areFinite _ _ _ [a, b] _ _ (reads_new (Value.float .f32) w e [a, b]) (by simp [maxLen])).mono ?_
  rintro r w' ⟨rfl, h⟩
  exact ⟨by simp [← hA, ← hB, fin_cn], hA, hB, h⟩
end Go.Proofs.Ytjfmjeffmnjilaa
