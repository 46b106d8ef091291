/-
  What the walks of the laws take at their calls, in forms that fit: values are found off the goal, facts are given.
-/
import Derived.Test.YtolbibpmngmpdaaMark
namespace Go.Proofs.Ytolbibpmngmpdaa
open Go.RowKit Fl Mem
set_option linter.unusedVariables false
set_option maxRecDepth 100000

theorem below_of {w w' : World} {m : Nat} (h : w' = w.drewN m) : Below w.heap.size w w' := by rw [h]; exact below_drewN (Below.refl _ _) m
theorem reads_grow {w w' : World} {size n : Nat} {A : Option Addr} {xs : List Value} (h : Reads w w.heap.size size A n xs) (hb : Below w.heap.size w w') : Reads w' w'.heap.size size A n xs := (h.below hb).more hb.size
theorem own_apart' {w w2 : World} {b1 b2 : Nat} {e1 e2 : TypeId} {s1 s2 n1 n2 : Nat} {v1 v2 : Value} {xs1 xs2 : List Value} (h1 : w.ownsRow b1 e1 s1 v1 n1 xs1) (h2 : w2.ownsRow b2 e2 s2 v2 n2 xs2)
    (hs : w.heap.size ≤ b2) : v2.ownBlock = none ∨ v2.ownBlock ≠ v1.ownBlock := by
  rcases own_apart h1 h2 hs with h | h
  · cases hv : v2.ownBlock with
    | none => exact .inl rfl
    | some k => exact .inr (by rw [h]; simp)
  · exact .inr (fun e => h e.symm)

theorem len_of {zs R : List Nat} (h : Hid (zs.map (cn .f32) = R)) (hR : R.length ≤ 1000) : zs.length ≤ 1000 := by
  have h1 := congrArg List.length h.out
  simp at h1
  omega

end Go.Proofs.Ytolbibpmngmpdaa
