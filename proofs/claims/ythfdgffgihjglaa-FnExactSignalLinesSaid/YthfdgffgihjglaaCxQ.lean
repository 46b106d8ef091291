/-
  Lists of complex numbers that are told the same are the same to the law.
-/
import Derived.Test.YthfdgffgihjglaaCxE
import Derived.Test.YthfdgffgihjglaaSlT
namespace Go.Proofs.Ythfdgffgihjglaa
open Go.RowKit Mem Fl
set_option linter.unusedVariables false
set_option maxRecDepth 100000

set_option maxHeartbeats 400000 in
theorem eqComplex64S_eq (A A' : Option Addr) (n n' c c' : Nat) (xs ys : List (Nat × Nat)) (B B' : Nat) (w : World) (h : Reads w B 1 A n (cl xs)) (h' : Reads w B' 1 A' n' (cl ys)) (hn : n ≤ maxLen)
    (he : xs.map cnp = ys.map cnp) :
    Calls Try.prog 35 #[.slice A n c, .slice A' n' c'] w fun e w' => e = .returned (.bool true) ∧ ∃ n, w' = w.drewN n := by
  have hl : n' = n := by
    have h1 := h.1
    have h2 := h'.1
    have h3 := congrArg List.length he
    simp [cl] at h1 h2 h3
    omega
  subst hl
  have He := hide he
  clear he
  unfold maxLen at hn
  go_enter Try.func35, Try.ntmps35
  go_wp2
  go_loopw [5] (fun i wr => ∃ k m : Nat, k ≤ n' ∧ i = .int .i64 k ∧ wr = w.drewN m) (fun i _ => n' - (intOf i).toNat)
  case atStart => exact ⟨0, 0, Nat.zero_le _, rfl, rfl⟩
  case round =>
    obtain ⟨k, m, hk, rfl, rfl⟩ := hrel
    by_cases hlt : k < n'
    · obtain ⟨ad, x, rfl, _, hx, hc⟩ := h.map_at hlt
      obtain ⟨ad', y, rfl, _, hy, hc'⟩ := h'.map_at hlt
      obtain ⟨x1, x2⟩ := x
      obtain ⟨y1, y2⟩ := y
      simp only at hc hc'
      have Hxy : Hid (cn .f32 x1 = cn .f32 y1 ∧ cn .f32 x2 = cn .f32 y2) := by
        have h0 := congrArg (fun l => l[k]?) (unhide He)
        simp only [List.getElem?_map, hx, hy, Option.map_some, Option.some.injEq, cnp, Prod.mk.injEq] at h0
        exact h0
      have Hx := hide hx
      have Hy := hide hy
      clear hx hy
      go_wp2
      go_region_with (go_at_call 32; refine (sameComplex_eq (cn_cvR_of Hxy.out.1 _ _) (cn_cvR_of Hxy.out.2 _ _)).mono ?_; rintro e w' ⟨rfl, m', rfl⟩)
      all_goals
        go_wp2
        go_roundw
        case rel => exact ⟨k + 1, _, by omega, by go_num, rfl⟩
        case measure => simp [intOf]; omega
    · go_wp2
      go_ret
      exact ⟨rfl, m, rfl⟩
theorem eqC {A A' : Option Addr} {n n' c c' B B' : Nat} {xs ys : List (Nat × Nat)} {w : World} (h : Reads w B 1 A n (cl xs)) (h' : Reads w B' 1 A' n' (cl ys)) (hn : n ≤ 1099511627776) (he : xs.map cnp = ys.map cnp) :
    Calls Try.prog 35 #[.slice A n c, .slice A' n' c'] w fun e w' => e = .returned (.bool true) ∧ Below w.heap.size w w' :=
  (eqComplex64S_eq _ _ _ _ _ _ xs ys _ _ w h h' (by unfold maxLen; omega) he).mono fun _ _ ⟨h1, _, h2⟩ => ⟨h1, below_of h2⟩
theorem len_ofC {zs R : List (Nat × Nat)} (h : Hid (zs.map cnp = R)) (hR : R.length ≤ 100) : zs.length ≤ 100 := by
  have h1 := congrArg List.length h.out
  simp at h1
  omega
end Go.Proofs.Ythfdgffgihjglaa
