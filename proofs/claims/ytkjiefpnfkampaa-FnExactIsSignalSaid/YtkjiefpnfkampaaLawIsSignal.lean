/-
  The law FnExactIsSignal returns true for every list of numbers, and writes nothing that was there.
-/
import Derived.Test.YtkjiefpnfkampaaFin
import Derived.Test.YtkjiefpnfkampaaHelq
namespace Go.Proofs.Ytkjiefpnfkampaa
open Go.RowKit Fl Mem
set_option linter.unusedVariables false

set_option maxHeartbeats 400000 in
theorem law_IsSignal (A : Option Addr) (n c : Nat) (xs : List Nat) (w : World) (h : Reads w w.heap.size 1 A n (fl .f32 xs)) (hn : n ≤ c) (hc : c ≤ maxLen) :
    Calls Try.prog 3 #[.slice A n c] w fun e w' => e = .returned (.bool true) ∧ Below w.heap.size w w' := by
  unfold maxLen at hc
  by_cases h1 : 1048576 < n
  · go_enter Try.func3, Try.ntmps3
    go_wp2
    go_ret
    exact ⟨rfl, Below.refl _ _⟩
  · go_enter Try.func3, Try.ntmps3
    go_wp2_with fail
    refine (toFloat32S _ _ _ xs _ _ h (Nat.le_refl _) (by omega)).mono ?_
    rintro e w1 ⟨g1, rfl, ho1, hb1⟩
    go_wp2_with fail
    refine (s_IsSignal _ _ _ xs _ _ (Reads.of_own ho1) (by unfold maxLen; omega)).mono ?_
    rintro e w2 ⟨rfl, m2, rfl⟩
    go_wp2_with fail
    refine (toFloat32S _ _ _ xs _ _ ((h.below hb1).drewN m2) hb1.size (by omega)).mono ?_
    rintro e w3 ⟨g3, rfl, ho3, hb3⟩
    go_wp2_with fail
    refine (i_IsSignal _ _ _ xs _ _ (Reads.of_own ho3) (by unfold maxLen; omega)).mono ?_
    rintro e w4 ⟨rfl, m4, rfl⟩
    have hb13 : Below w.heap.size w w3 := hb1.trans ((below_drewN (Below.refl _ _) m2).trans (hb3.mono hb1.size))
    go_wp2_with fail
    refine (toFloat32S _ _ _ xs _ _ ((h.below hb13).drewN m4) hb13.size (by omega)).mono ?_
    rintro e w5 ⟨g5, rfl, ho5, hb5⟩
    go_wp2_with fail
    refine (eqFloat32S_eq _ _ _ _ _ _ xs xs w3.heap.size _ _ (((Reads.of_own ho3).drewN m4).below hb5) (Reads.of_own ho5) (by unfold maxLen; omega) rfl).mono ?_
    rintro e w6 ⟨rfl, m6, rfl⟩
    go_wp2
    go_ret
    exact ⟨rfl, below_drewN (hb13.trans ((below_drewN (Below.refl _ _) m4).trans (hb5.mono hb13.size))) m6⟩
end Go.Proofs.Ytkjiefpnfkampaa
