/-
  The law FnExactFourthRatio returns true for all arguments, and writes nothing that was there.
-/
import Derived.Test.YtkjiefpnfkampaaKit
import Derived.Test.YtkjiefpnfkampaaFour
import Derived.BigGuardPart
namespace Go.Proofs.Ytkjiefpnfkampaa
open Go.RowKit Fl Mem
set_option linter.unusedVariables false
set_option maxRecDepth 100000

set_option maxHeartbeats 4000000 in
theorem law_FourthRatio (A0 : Option Addr) (n0 c0 : Nat) (xs0 : List Nat) (w : World)
    (hA0 : Reads w w.heap.size 1 A0 n0 (fl .f32 xs0)) (hn0 : n0 ≤ c0) (hc0 : c0 ≤ maxLen) :
    Calls Try.prog 9 #[.slice A0 n0 c0] w fun e w' => e = .returned (.bool true) ∧ Below w.heap.size w w' := by
  have hz0 : c0 ≤ 9223372036854775807 := hc0
  clear hc0
  by_cases hx0 : 1048576 < n0
  · have hy0 : 1048576 < (n0 : Int) := by omega
    go_enter Try.func9, Try.ntmps9
    go_wp2
    go_ret
    exact ⟨rfl, Below.refl _ _⟩
  have hy0 : n0 ≤ 1048576 := by omega
  have hs0 : (n0 : Int) ≤ 1048576 := by omega
  have hm0 : n0 ≤ maxLen := by unfold maxLen; omega
  clear hx0 hn0 hz0
  have bel : Below w.heap.size w w := Below.refl _ _
  go_enter Try.func9, Try.ntmps9
  go_wp2_with fail
  refine (copyF (hA0.more bel.size) hy0).mono ?_
  rintro e w1 ⟨g_s0, rfl, ho_s0, hb⟩
  have sz1 := hb.size
  replace hA0 := hA0.below (hb.mono bel.size)
  replace bel := bel.trans (hb.mono bel.size)
  clear hb
  have hc_s0 := ho_s0
  go_wp2_with fail
  refine (s_FourthRatio (Reads.of_own ho_s0) hm0).mono ?_
  rintro e w2 ⟨zw0, rfl, hzw0, hb⟩
  have sz2 := hb.size
  replace hA0 := hA0.below (hb.mono bel.size)
  replace ho_s0 := own_below ho_s0 hb
  replace bel := bel.trans (hb.mono bel.size)
  clear hb
  clear ho_s0
  go_wp2_with fail
  refine (copyF (hA0.more bel.size) hy0).mono ?_
  rintro e w3 ⟨g_x0, rfl, ho_x0, hb⟩
  have sz3 := hb.size
  replace hA0 := hA0.below (hb.mono bel.size)
  replace bel := bel.trans (hb.mono bel.size)
  clear hb
  have hc_x0 := ho_x0
  go_wp2_with fail
  refine (i_FourthRatio (Reads.of_own ho_x0) hm0).mono ?_
  rintro e w4 ⟨zg0, rfl, hzg0, hb⟩
  have sz4 := hb.size
  replace hA0 := hA0.below (hb.mono bel.size)
  replace ho_x0 := own_below ho_x0 hb
  replace bel := bel.trans (hb.mono bel.size)
  clear hb
  go_wp2_with fail
  refine (sameF ?_).mono ?_
  · rw [cn_cvR, cn_cvR]; exact wide_of_cn (hzg0.out.trans hzw0.out.symm)
  rintro e w5 ⟨rfl, hb'⟩
  have hb : Below w4.heap.size w4 w5 := (below_drewN (Below.refl _ _) _).trans hb'
  clear hb'
  have sz5 := hb.size
  replace hA0 := hA0.below (hb.mono bel.size)
  replace ho_x0 := own_below ho_x0 hb
  replace bel := bel.trans (hb.mono bel.size)
  clear hb
  go_wp2_with fail
  refine (copyF (hA0.more bel.size) hy0).mono ?_
  rintro e w6 ⟨g_t0, rfl, ho_t0, hb⟩
  have sz6 := hb.size
  replace hA0 := hA0.below (hb.mono bel.size)
  replace ho_x0 := own_below ho_x0 hb
  replace bel := bel.trans (hb.mono bel.size)
  clear hb
  have hc_t0 := ho_t0
  go_wp2_with fail
  refine (eqF (Reads.of_own ho_x0) (Reads.of_own ho_t0) (by omega) rfl).mono ?_
  rintro e w7 ⟨rfl, hb⟩
  have sz7 := hb.size
  replace hA0 := hA0.below (hb.mono bel.size)
  replace ho_x0 := own_below ho_x0 hb
  replace ho_t0 := own_below ho_t0 hb
  replace bel := bel.trans (hb.mono bel.size)
  clear hb
  clear ho_t0
  go_wp2
  go_ret
  exact ⟨rfl, bel⟩
end Go.Proofs.Ytkjiefpnfkampaa
