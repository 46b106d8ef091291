/-
  Contracts of 'the same' for lists of numbers, for lives, laws, chains and plans.
-/
import Derived.Test.YtnpccnhamohnkaaDoorSame
import Derived.Test.YtnpccnhamohnkaaDoorLife
import Derived.RegionTactic
import Derived.BigRegion
import Derived.Deep.RegionWith
namespace Go.Proofs.YtnpccnhamohnkaaDoor
open Go.RowKit Fl Mem
set_option linter.unusedVariables false
set_option maxRecDepth 100000

/-- Are two lists the same numbers. -/
def sameL (xs ys : List Nat) : Bool := decide (xs.map (cn .f32) = ys.map (cn .f32))
theorem sameL_len {xs ys : List Nat} (h : xs.length ≠ ys.length) : sameL xs ys = false := decide_eq_false (fun e => h (by have := congrArg List.length e; simpa using this))
theorem sameL_no {xs ys : List Nat} {k x y : Nat} (hx : xs[k]? = some x) (hy : ys[k]? = some y) (h : sameN x y = false) : sameL xs ys = false := by
  refine decide_eq_false (fun e => ?_)
  have h1 := congrArg (fun l => l[k]?) e
  simp only [List.getElem?_map, hx, hy, Option.map_some, Option.some.injEq] at h1
  unfold sameN at h
  rw [h1] at h
  simp at h
theorem sameL_take {xs ys : List Nat} {k x y : Nat} (hx : xs[k]? = some x) (hy : ys[k]? = some y) (h : sameN x y = true) (hp : (xs.take k).map (cn .f32) = (ys.take k).map (cn .f32)) : (xs.take (k + 1)).map (cn .f32) = (ys.take (k + 1)).map (cn .f32) := by
  rw [take_eq hx, take_eq hy, List.map_append, List.map_append, hp]
  unfold sameN at h
  rw [decide_eq_true_iff] at h
  simp [h]
theorem sameL_all {xs ys : List Nat} {n : Nat} (hx : xs.length = n) (hy : ys.length = n) (hp : (xs.take n).map (cn .f32) = (ys.take n).map (cn .f32)) : sameL xs ys = true := by
  rw [List.take_of_length_le (by omega), List.take_of_length_le (by omega)] at hp
  exact decide_eq_true hp

end Go.Proofs.YtnpccnhamohnkaaDoor
