/-
  What the walks of the laws take at their calls, in forms that fit: values are found off the goal, facts are given.
-/
import Derived.Test.YtjfmjeffmnjilaaMark
namespace Go.Proofs.Ytjfmjeffmnjilaa
open Go.RowKit Fl Mem
set_option linter.unusedVariables false
set_option maxRecDepth 100000

theorem below_of {w w' : World} {m : Nat} (h : w' = w.drewN m) : Below w.heap.size w w' := by rw [h]; exact below_drewN (Below.refl _ _) m
theorem reads_grow {w w' : World} {size n : Nat} {A : Option Addr} {xs : List Value} (h : Reads w w.heap.size size A n xs) (hb : Below w.heap.size w w') : Reads w' w'.heap.size size A n xs := (h.below hb).more hb.size
theorem own_apart' {w w2 : World} {b1 b2 : Nat} {e1 e2 : TypeId} {s1 s2 n1 n2 : Nat} {v1 v2 : Value} {xs1 xs2 : List Value} (h1 : w.ownsRow b1 e1 s1 v1 n1 xs1) (h2 : w2.ownsRow b2 e2 s2 v2 n2 xs2)
    (hs : w.heap.size ≤ b2) : v2.ownBlock = none ∨ v2.ownBlock ≠ v1.ownBlock := by
  rcases own_apart h1 h2 hs with h | h
  · cases hv : v2.ownBlock with
    | none => exact .inl rfl
    | some k => exact .inr (by rw [h]; simp)
  · exact .inr (fun e => h e.symm)

theorem len_of {zs R : List Nat} (h : Hid (zs.map (cn .f32) = R)) (hR : R.length ≤ 1000) : zs.length ≤ 1000 := by
  have h1 := congrArg List.length h.out
  simp at h1
  omega

theorem copyF {A : Option Addr} {n c : Nat} {xs : List Nat} {w : World} (h : Reads w w.heap.size 1 A n (fl .f32 xs)) (hn : n ≤ 1048576) :
    Calls Try.prog 47 #[.slice A n c] w fun e w' => ∃ g, e = .returned (.slice (some ⟨g, 0, none⟩) n n) ∧ w'.ownsRow w.heap.size 63 1 (.slice (some ⟨g, 0, none⟩) n n) n (fl .f32 xs) ∧ Below w.heap.size w w' :=
  toFloat32S A n c xs _ w h (Nat.le_refl _) (by omega)
theorem eqF {A A' : Option Addr} {n n' c c' B B' : Nat} {xs ys : List Nat} {w : World} (h : Reads w B 1 A n (fl .f32 xs)) (h' : Reads w B' 1 A' n' (fl .f32 ys)) (hn : n ≤ 1099511627776) (he : xs.map (cn .f32) = ys.map (cn .f32)) :
    Calls Try.prog 52 #[.slice A n c, .slice A' n' c'] w fun e w' => e = .returned (.bool true) ∧ Below w.heap.size w w' :=
  (eqFloat32S_eq _ _ _ _ _ _ xs ys _ _ w h h' (by unfold maxLen; omega) he).mono fun _ _ ⟨h1, _, h2⟩ => ⟨h1, below_of h2⟩
theorem sameF {a b : Nat} {w : World} (h : cn .f64 a = cn .f64 b) : Calls Try.prog 85 #[.float .f64 a, .float .f64 b] w fun e w' => e = .returned (.bool true) ∧ Below w.heap.size w w' :=
  (sameFloat_eq a b w h).mono fun _ _ ⟨h1, _, h2⟩ => ⟨h1, below_of h2⟩

theorem markF {v : Value} {n : Nat} {k : Int} {cs : List Value} {base : Nat} {w : World} (ho : w.ownsRow base 63 1 v n cs) (h0 : 0 ≤ k) (hn : n + k ≤ 1099511627776) :
    Calls Try.prog 65 #[v, .int .i64 k] w fun e w' => e = .returned (.int .i64 (k + n)) ∧ w'.ownsRow base 63 1 v n (marksOf mkF k.toNat n) ∧ w.grownBy w' v.ownBlock := by
  obtain ⟨q, rfl⟩ := Int.eq_ofNat_of_zero_le h0
  exact (markFloat32S v n q cs base w ho (by omega)).mono fun _ _ ⟨h1, h2⟩ => ⟨by rw [h1]; rfl, h2⟩
theorem heldF {A : Option Addr} {n c : Nat} {k : Int} {B : Nat} {w : World} (h : Reads w B 1 A n (marksOf mkF k.toNat n)) (h0 : 0 ≤ k) (hn : n + k ≤ 1099511627776) :
    Calls Try.prog 67 #[.slice A n c, .int .i64 k] w fun e w' => e = .returned (.int .i64 (k + n)) ∧ Below w.heap.size w w' := by
  obtain ⟨q, rfl⟩ := Int.eq_ofNat_of_zero_le h0
  exact (heldFloat32S A n c q B w h (by omega)).mono fun _ _ ⟨h1, _, h2⟩ => ⟨by rw [h1]; rfl, below_of h2⟩
theorem markI {v : Value} {n : Nat} {k : Int} {cs : List Value} {base : Nat} {w : World} (ho : w.ownsRow base 2 1 v n cs) (h0 : 0 ≤ k) (hn : n + k ≤ 1099511627776) :
    Calls Try.prog 69 #[v, .int .i64 k] w fun e w' => e = .returned (.int .i64 (k + n)) ∧ w'.ownsRow base 2 1 v n (marksOf mkI k.toNat n) ∧ w.grownBy w' v.ownBlock := by
  obtain ⟨q, rfl⟩ := Int.eq_ofNat_of_zero_le h0
  exact (markInt64S v n q cs base w ho (by omega)).mono fun _ _ ⟨h1, h2⟩ => ⟨by rw [h1]; rfl, h2⟩
theorem heldI {A : Option Addr} {n c : Nat} {k : Int} {B : Nat} {w : World} (h : Reads w B 1 A n (marksOf mkI k.toNat n)) (h0 : 0 ≤ k) (hn : n + k ≤ 1099511627776) :
    Calls Try.prog 70 #[.slice A n c, .int .i64 k] w fun e w' => e = .returned (.int .i64 (k + n)) ∧ Below w.heap.size w w' := by
  obtain ⟨q, rfl⟩ := Int.eq_ofNat_of_zero_le h0
  exact (heldInt64S A n c q B w h (by omega)).mono fun _ _ ⟨h1, _, h2⟩ => ⟨by rw [h1]; rfl, below_of h2⟩
theorem eqI {A A' : Option Addr} {n n' c c' B B' : Nat} {xs ys : List Int} {w : World} (h : Reads w B 1 A n (xs.map (Value.int .i64))) (h' : Reads w B' 1 A' n' (ys.map (Value.int .i64))) (hn : n ≤ 1099511627776) (he : xs = ys) :
    Calls Try.prog 84 #[.slice A n c, .slice A' n' c'] w fun e w' => e = .returned (.bool true) ∧ Below w.heap.size w w' := by
  subst he
  exact (eqInt64S_eq _ _ _ _ _ _ xs _ _ w h h' (by unfold maxLen; omega)).mono fun _ _ ⟨h1, _, h2⟩ => ⟨h1, below_of h2⟩
end Go.Proofs.Ytjfmjeffmnjilaa
