/-
  Charts, in plain numbers: what is told of plans and runs of a few sizes, looked through one by one.
-/
import Derived.Test.YtolbibpmngmpdaaRunW
import Derived.Test.YtolbibpmngmpdaaOof
import Derived.Test.YtolbibpmngmpdaaAgP
import Derived.Test.YtolbibpmngmpdaaSqP
namespace Go.Proofs.Ytolbibpmngmpdaa
open Go.RowKit Fl Mem
set_option linter.unusedVariables false
set_option maxRecDepth 100000

/-- The gap of two numbers, in 64 bits. -/
def gapV (a b : Nat) : Nat := mm true .f64 (fb .sub .f64 (wide a) (wide b)) (fb .sub .f64 (wide b) (wide a))
def gtD (a b : Nat) : Bool := FloatKind.f64.format.order a b == some .gt
def acChk (sz ac j : Nat) : Bool :=
  fin .f32 (acV sz ac (shW j)) && (!(FloatKind.f64.format.order (wide (acV sz ac (shW j))) 13785626545772145148 == some .lt) && (!(FloatKind.f32.format.order (acV sz ac (shW j)) 1073741824 == some .gt) && !(FloatKind.f32.format.order (acV sz ac (shW j)) 0 == some .lt)))
def acMono (sz ac j : Nat) : Bool := !gtD (wide (acV sz ac (shW (j + 1)))) (fb .add .f64 (wide (acV sz ac (shW j))) 4562254508917369340)
def acNone (sz ac : Nat) : Bool := fin .f32 (acV sz ac 0) && !gtD (gapV (acV sz ac 0) 1065353216) 4562254508917369340
theorem ac_tab : ∀ sz : Nat, sz < 13 → ∀ ac : Nat, ac < 4 → ∀ j : Nat, j < 17 → acChk sz ac j = true := by decide +kernel
theorem ac_mono : ∀ sz : Nat, sz < 13 → ∀ ac : Nat, ac < 4 → ∀ j : Nat, j < 16 → acMono sz ac j = true := by decide +kernel
theorem ac_none : ∀ sz : Nat, sz < 13 → ∀ ac : Nat, ac < 4 → acNone sz ac = true := by decide +kernel
def shChk (j : Nat) : Bool := shB (shW j) && (sixT j == shW j)
theorem sh_chk : ∀ j : Nat, j < 17 → shChk j = true := by decide +kernel
def shChk2 (j : Nat) : Bool := (fb .sub .f32 (shW (j + 1)) 1031798784 == shW j) && !(FloatKind.f32.format.order (shW (j + 1)) 0 == some .eq)
theorem sh_chk2 : ∀ j : Nat, j < 16 → shChk2 j = true := by decide +kernel
theorem wt_fin : ∀ j : Nat, j < 15 → ∀ n : Nat, n < 6 → fin .f32 (wtV (shW (j + 1)) n) = true := by decide +kernel
def wtChk (j n : Nat) : Bool := !gtD (gapV (fb .mul .f32 (wtV (shW (j + 1)) (n + 1)) (shW (j + 1))) (fb .add .f32 (wtV (shW (j + 1)) n) 1065353216)) (fb .mul .f64 4562254508917369340 (fb .add .f64 4607182418800017408 (wide (wtV (shW (j + 1)) n)))) && !(FloatKind.f32.format.order (wtV (shW (j + 1)) n) (floatOfInt .f32 n) == some .lt)
theorem wt_tab : ∀ j : Nat, j < 15 → ∀ n : Nat, n < 4 → wtChk j (n + 1) = true := by decide +kernel
/-- The chances of runs, step by step. -/
def rcChk (sh n k d d' : Nat) : Bool := fin .f32 d' && (!(FloatKind.f32.format.order d' d == some .lt) && (!gtD (wide d') 4607186922399644778 && ((!decide (k < n) || (FloatKind.f32.format.order d' 0 == some .eq)) && (!decide (k = n) || !gtD (gapV d' (pwr sh 1065353216 n)) 4562254508917369340))))
def rcLoop (sh n : Nat) : Nat → Nat → List Nat → Nat → Bool
  | 0, _, _, _ => true
  | f + 1, k, c, d => rcChk sh n (k + 1) d (fb .add .f32 d (fb .mul .f32 (c.getD (n - 1) 0) sh)) && rcLoop sh n f (k + 1) (rcNext sh c) (fb .add .f32 d (fb .mul .f32 (c.getD (n - 1) 0) sh))
theorem rc_loop {sh n : Nat} : ∀ (f k : Nat), rcLoop sh n f k (rcSt sh n k).1 (rcSt sh n k).2 = true → ∀ i, i < f → rcChk sh n (k + i + 1) (rcSt sh n (k + i)).2 (rcSt sh n (k + i + 1)).2 = true
  | 0, _, _, i, hi => by omega
  | f + 1, k, h, i, hi => by
    unfold rcLoop at h
    rw [Bool.and_eq_true] at h
    cases i with
    | zero => exact h.1
    | succ i =>
      have := rc_loop f (k + 1) h.2 i (by omega)
      rw [show k + (i + 1) = k + 1 + i by omega]
      exact this
theorem rc_tab : ∀ j : Nat, j < 15 → ∀ n : Nat, n < 4 → rcLoop (shW (j + 1)) (n + 1) 20 0 (rcSt (shW (j + 1)) (n + 1) 0).1 (rcSt (shW (j + 1)) (n + 1) 0).2 = true := by decide +kernel
/-- Numbers of a list, centers and widths. -/
def qH (k : Nat) : Nat := fb .quo .f32 (floatOfInt .f32 ((k : Int) - 8)) 1073741824
def cW (j : Nat) : Nat := fb .quo .f32 (floatOfInt .f32 ((j : Int) - 4)) 1082130432
def wW (m : Nat) : Nat := fb .quo .f32 (floatOfInt .f32 (m : Int)) 1073741824
def qcChk (k j : Nat) : Bool := fin .f32 (qH k) && (fin .f32 (cW j) && (fin .f32 (fb .sub .f32 (qH k) (cW j)) && (((FloatKind.f32.format.order (qH k) (cW j) == some .lt || FloatKind.f32.format.order (qH k) (cW j) == some .eq) == !(FloatKind.f32.format.order (qH k) (cW j) == some .gt)) && ((FloatKind.f32.format.order (qH k) (cW j) == some .gt || FloatKind.f32.format.order (qH k) (cW j) == some .eq) == !(FloatKind.f32.format.order (qH k) (cW j) == some .lt)))))
theorem qc_tab : ∀ k : Nat, k < 17 → ∀ j : Nat, j < 9 → qcChk k j = true := by decide +kernel
def qwChk (k j m : Nat) : Bool := leastFN (wW m) && ((farB (cW j) (wW m) (qH k) == gtD (gapV (qH k) (cW j)) (wide (wW m))) && ((FloatKind.f64.format.order (gapV (qH k) (cW j)) (wide (wW m)) == some .lt || FloatKind.f64.format.order (gapV (qH k) (cW j)) (wide (wW m)) == some .eq) == !farB (cW j) (wW m) (qH k)))
theorem qw_tab : ∀ k : Nat, k < 17 → ∀ j : Nat, j < 9 → ∀ m : Nat, m < 8 → qwChk k j m = true := by decide +kernel
end Go.Proofs.Ytolbibpmngmpdaa
