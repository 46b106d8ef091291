/-
  Contracts of the alarm's states: the program's and the reference's.
-/
import Derived.Test.YtolbibpmngmpdaaAlarm
namespace Go.Proofs.Ytolbibpmngmpdaa
open Go.RowKit Fl Mem
set_option linter.unusedVariables false
set_option maxRecDepth 100000

theorem info_bool : (Try.prog.info? 4).map (fun i => (i.zero, i.size, i.bytes)) = some (some (.bool false), 1, 1) := by kernel_rfl
abbrev bl (xs : List Bool) : List Value := xs.map Value.bool

def ltB (x b : Nat) : Bool := FloatKind.f32.format.order x b == some .lt
/-- The state of the alarm behind a number. -/
def stepB (on off : Nat) (is : Bool) (x : Nat) : Bool := if gtB x on = true then true else if ltB x off = true then false else is
def isAt (xs : List Nat) (on off k : Nat) : Bool := (xs.take k).foldl (stepB on off) false
def statesTo (xs : List Nat) (on off k : Nat) : List Bool := (List.range k).map fun i => isAt xs on off (i + 1)
theorem isAt_succ {xs : List Nat} {on off k x : Nat} (h : xs[k]? = some x) : isAt xs on off (k + 1) = stepB on off (isAt xs on off k) x := by
  unfold isAt; rw [take_eq h, List.foldl_append]; rfl
theorem statesTo_succ (xs : List Nat) (on off k : Nat) : statesTo xs on off (k + 1) = statesTo xs on off k ++ [isAt xs on off (k + 1)] := by
  unfold statesTo; rw [List.range_succ, List.map_append]; rfl
theorem statesTo_len (xs : List Nat) (on off k : Nat) : (statesTo xs on off k).length = k := by simp [statesTo]
def statesOk (xs : List Nat) (on off : Nat) : Bool := isSig xs && fin .f32 on && fin .f32 off && !gtB off on
def statesR (xs : List Nat) (on off : Nat) : List Bool := if statesOk xs on off = true then statesTo xs on off xs.length else []
theorem statesR_no {xs : List Nat} {on off : Nat} (h : statesOk xs on off = false) : statesR xs on off = [] := by unfold statesR; rw [h]; rfl



theorem statesR_le (xs : List Nat) (on off : Nat) : (statesR xs on off).length ≤ 1000 := by
  unfold statesR
  split
  · rename_i h
    rw [statesTo_len]
    have h1 : isSig xs = true := by unfold statesOk at h; simp only [Bool.and_eq_true] at h; exact h.1.1.1
    have := (isSig_len h1).2
    omega
  · simp
end Go.Proofs.Ytolbibpmngmpdaa
