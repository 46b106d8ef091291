/-
  The law FnExactSequenceTest returns true for all arguments, and writes nothing that was there.
-/
import Derived.Test.YthfdgffgihjglaaSeqS
import Derived.Test.YthfdgffgihjglaaOpenB
import Derived.Test.YthfdgffgihjglaaKit
namespace Go.Proofs.Ythfdgffgihjglaa
open Go.RowKit Fl Mem
set_option linter.unusedVariables false
set_option maxRecDepth 100000

set_option maxHeartbeats 4000000 in
theorem law_SequenceTest (A0 : Option Addr) (n0 c0 : Nat) (xs0 : List Bool) (a1 a2 a3 a4 : Nat) (w : World)
    (hA0 : Reads w w.heap.size 1 A0 n0 (bl xs0)) (hn0 : n0 ≤ c0) (hc0 : c0 ≤ maxLen) (w1' : Wf .f32 a1) (w2' : Wf .f32 a2) (w3' : Wf .f32 a3) (w4' : Wf .f32 a4) :
    Calls Try.prog 3 #[.slice A0 n0 c0, .float .f32 a1, .float .f32 a2, .float .f32 a3, .float .f32 a4] w fun e w' => e = .returned (.bool true) ∧ Below w.heap.size w w' := by
  have hz0 : c0 ≤ 9223372036854775807 := hc0
  clear hc0
  by_cases hx0 : 1048576 < n0
  · have hy0 : 1048576 < (n0 : Int) := by omega
    clear w1' w2' w3' w4'
    go_enter Try.func3, Try.ntmps3
    go_wp2
    go_ret
    exact ⟨rfl, Below.refl _ _⟩
  have hy0 : n0 ≤ 1048576 := by omega
  have hs0 : (n0 : Int) ≤ 1048576 := by omega
  clear hx0 hn0 hz0
  have bel : Below w.heap.size w w := Below.refl _ _
  have HS : Hid (∀ (W : World) A c, Reads W W.heap.size 1 A n0 (bl xs0) → _) := hide (fun W A c h => s_SequenceTest (w := W) (A := A) (c := c) h hy0 w1' w2' w3' w4')
  have HI : Hid (∀ (W : World) A c, Reads W W.heap.size 1 A n0 (bl xs0) → _) := hide (fun W A c h => i_SequenceTest (w := W) (A := A) (c := c) h hy0 w1' w2' w3' w4')
  clear w1' w2' w3' w4'
  generalize (tR xs0 a1 a2 a3 a4).1 = R1 at *
  generalize (tR xs0 a1 a2 a3 a4).2 = R2 at *
  generalize tOk xs0 a1 a2 a3 a4 = O at *
  have h1 : (R1 != R1) = false := by simp
  have h2 : (R2 != R2) = false := by simp
  go_enter Try.func3, Try.ntmps3
  go_wp2_with fail
  refine (copyB (hA0.more bel.size) hy0).mono ?_
  rintro e w1 ⟨g_s0, rfl, ho_s0, hb⟩
  replace hA0 := hA0.below (hb.mono bel.size)
  replace bel := bel.trans (hb.mono bel.size)
  clear hb
  go_wp2_with fail
  refine (HS.out _ _ _ (Reads.of_own ho_s0)).mono ?_
  rintro e w2 ⟨rfl, m2, rfl⟩
  replace hA0 := hA0.drewN m2
  replace bel := below_drewN bel m2
  clear ho_s0
  go_wp2_with fail
  refine (copyB (hA0.more bel.size) hy0).mono ?_
  rintro e w3 ⟨g_x0, rfl, ho_x0, hb⟩
  replace hA0 := hA0.below (hb.mono bel.size)
  replace bel := bel.trans (hb.mono bel.size)
  clear hb
  go_wp2_with fail
  refine (HI.out _ _ _ (Reads.of_own ho_x0)).mono ?_
  rintro e w4 ⟨rfl, hb⟩
  replace hA0 := hA0.below (hb.mono bel.size)
  replace ho_x0 := own_below ho_x0 hb
  replace bel := bel.trans (hb.mono bel.size)
  clear hb
  go_wp2_with fail
  refine (copyB (hA0.more bel.size) hy0).mono ?_
  rintro e w5 ⟨g_t0, rfl, ho_t0, hb⟩
  replace ho_x0 := own_below ho_x0 hb
  replace bel := bel.trans (hb.mono bel.size)
  clear hb
  go_wp2_with fail
  refine (eqB (Reads.of_own ho_x0) (Reads.of_own ho_t0) (by omega) rfl).mono ?_
  rintro e w6 ⟨rfl, hb⟩
  replace bel := bel.trans (hb.mono bel.size)
  clear hb ho_x0 ho_t0 hA0
  go_wp2
  go_ret
  exact ⟨rfl, bel⟩
end Go.Proofs.Ythfdgffgihjglaa
