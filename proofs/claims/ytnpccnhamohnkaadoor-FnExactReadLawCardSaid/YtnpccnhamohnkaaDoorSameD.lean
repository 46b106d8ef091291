/-
  Contracts of 'the same' for lives, laws, chains, plans and desks: the program's.
-/
import Derived.Test.YtnpccnhamohnkaaDoorSame2
import Derived.Test.YtnpccnhamohnkaaDoorCopy
namespace Go.Proofs.YtnpccnhamohnkaaDoor
open Go.RowKit Fl Mem
set_option linter.unusedVariables false
set_option maxRecDepth 100000

/-- Are two lists of lives the same. -/
def toldL (xs : List (Nat × Bool)) : List (Nat × Bool) := xs.map fun p => (cn .f32 p.1, p.2)
def sameLv (xs ys : List (Nat × Bool)) : Bool := decide (toldL xs = toldL ys)
def sameLife (p q : Nat × Bool) : Bool := sameN p.1 q.1 && (p.2 == q.2)
theorem sameLife_iff {p q : Nat × Bool} : sameLife p q = true ↔ (cn .f32 p.1, p.2) = (cn .f32 q.1, q.2) := by
  unfold sameLife sameN
  rw [Bool.and_eq_true, decide_eq_true_iff, beq_iff_eq, Prod.mk.injEq]
theorem sameLv_len {xs ys : List (Nat × Bool)} (h : xs.length ≠ ys.length) : sameLv xs ys = false := decide_eq_false (fun e => h (by have := congrArg List.length e; simpa [toldL] using this))
theorem sameLv_no {xs ys : List (Nat × Bool)} {k : Nat} {x y : Nat × Bool} (hx : xs[k]? = some x) (hy : ys[k]? = some y) (h : sameLife x y = false) : sameLv xs ys = false := by
  refine decide_eq_false (fun e => ?_)
  have h1 := congrArg (fun l => l[k]?) e
  simp only [toldL, List.getElem?_map, hx, hy, Option.map_some, Option.some.injEq] at h1
  rw [← sameLife_iff] at h1
  rw [h1] at h
  cases h
theorem sameLv_take {xs ys : List (Nat × Bool)} {k : Nat} {x y : Nat × Bool} (hx : xs[k]? = some x) (hy : ys[k]? = some y) (h : sameLife x y = true) (hp : toldL (xs.take k) = toldL (ys.take k)) : toldL (xs.take (k + 1)) = toldL (ys.take (k + 1)) := by
  unfold toldL at hp ⊢
  rw [take_eq hx, take_eq hy, List.map_append, List.map_append, hp]
  rw [sameLife_iff] at h
  simp [h]
theorem sameLv_all {xs ys : List (Nat × Bool)} {n : Nat} (hx : xs.length = n) (hy : ys.length = n) (hp : toldL (xs.take n) = toldL (ys.take n)) : sameLv xs ys = true := by
  rw [List.take_of_length_le (by omega), List.take_of_length_le (by omega)] at hp
  exact decide_eq_true hp

theorem lives_len {w : World} {B n : Nat} {A : Option Addr} {xs : List (Nat × Bool)} (h : Reads w B 2 A n (ll xs)) : xs.length = n := by have := h.1; rw [ll_len] at this; omega
def sameLawB (k k' : Int) (x y x' y' : Nat) : Bool := (k == k') && (sameN x x' && sameN y y')
def sameCh (s s' : Int) (xs ys : List Nat) : Bool := (s == s') && sameL xs ys
def samePl (a b a' b' : Int) : Bool := (a == a') && (b == b')

def sameDk (xs ys : List (Nat × Bool)) (kd kd' : Int) (sh sc sh' sc' : Nat) (st st' : Int) (rs rs' : List Nat) (sz ac sz' ac' : Int) : Bool :=
  sameLv xs ys && (sameLawB kd kd' sh sc sh' sc' && (sameCh st st' rs rs' && samePl sz ac sz' ac'))
end Go.Proofs.YtnpccnhamohnkaaDoor
