/-
  The law FnExactLineAt returns true for all arguments, and writes nothing that was there.
-/
import Derived.Test.YthfdgffgihjglaaKit
import Derived.Test.YthfdgffgihjglaaLinS
import Derived.Test.YthfdgffgihjglaaCxE
import Derived.BigGuardPart
namespace Go.Proofs.Ythfdgffgihjglaa
open Go.RowKit Fl Mem
set_option linter.unusedVariables false
set_option maxRecDepth 100000

set_option maxHeartbeats 4000000 in
theorem law_LineAt (A0 : Option Addr) (n0 c0 : Nat) (xs0 : List Nat) (a1 : Nat) (w : World)
    (hA0 : Reads w w.heap.size 1 A0 n0 (fl .f32 xs0)) (hn0 : n0 ≤ c0) (hc0 : c0 ≤ maxLen)
    (hf1 : a1 < 2 ^ FloatKind.f32.format.width) :
    Calls Try.prog 7 #[.slice A0 n0 c0, .float .f32 a1] w fun e w' => e = .returned (.bool true) ∧ Below w.heap.size w w' := by
  have hz0 : c0 ≤ 9223372036854775807 := hc0
  clear hc0
  by_cases hx0 : 1048576 < n0
  · have hy0 : 1048576 < (n0 : Int) := by omega
    go_enter Try.func7, Try.ntmps7
    go_wp2
    go_ret
    exact ⟨rfl, Below.refl _ _⟩
  have hy0 : n0 ≤ 1048576 := by omega
  have hs0 : (n0 : Int) ≤ 1048576 := by omega
  have hm0 : n0 ≤ maxLen := by unfold maxLen; omega
  clear hx0 hn0 hz0
  have bel : Below w.heap.size w w := Below.refl _ _
  go_enter Try.func7, Try.ntmps7
  go_wp2_with fail
  refine (copyF (hA0.more bel.size) hy0).mono ?_
  rintro e w1 ⟨g_s0, rfl, ho_s0, hb⟩
  have sz1 := hb.size
  replace hA0 := hA0.below (hb.mono bel.size)
  replace bel := bel.trans (hb.mono bel.size)
  clear hb
  have hc_s0 := ho_s0
  go_wp2_with fail
  refine (s_LineAt (Reads.of_own ho_s0) hm0).mono ?_
  rintro e w2 ⟨⟨p, q, rfl, hp, hq⟩, mm, hmm⟩
  have hb : Below w1.heap.size w1 w2 := by rw [hmm]; exact below_drewN (Below.refl _ _) _
  clear hmm
  have sz2 := hb.size
  replace hA0 := hA0.below (hb.mono bel.size)
  replace ho_s0 := own_below ho_s0 hb
  replace bel := bel.trans (hb.mono bel.size)
  clear hb
  clear ho_s0
  go_wp2_with fail
  refine (copyF (hA0.more bel.size) hy0).mono ?_
  rintro e w3 ⟨g_x0, rfl, ho_x0, hb⟩
  have sz3 := hb.size
  replace hA0 := hA0.below (hb.mono bel.size)
  replace bel := bel.trans (hb.mono bel.size)
  clear hb
  have hc_x0 := ho_x0
  go_wp2_with fail
  refine (i_LineAt (Reads.of_own ho_x0) hm0).mono ?_
  rintro e w4 ⟨⟨p2, q2, rfl, hp2, hq2⟩, mm, hmm⟩
  have hb : Below w3.heap.size w3 w4 := by rw [hmm]; exact below_drewN (Below.refl _ _) _
  clear hmm
  have sz4 := hb.size
  replace hA0 := hA0.below (hb.mono bel.size)
  replace ho_x0 := own_below ho_x0 hb
  replace bel := bel.trans (hb.mono bel.size)
  clear hb
  have E1 := hide (hp2.trans hp.symm)
  have E2 := hide (hq2.trans hq.symm)
  clear hp hq hp2 hq2
  generalize lnO xs0 a1 = ok at *
  go_wp2_with fail
  refine (sameComplex_eq (cn_cvR_of E1.out _ _) (cn_cvR_of E2.out _ _)).mono ?_
  rintro e w5 ⟨rfl, mm, hmm⟩
  have hb : Below w4.heap.size w4 w5 := by rw [hmm]; exact below_drewN (below_drewN (Below.refl _ _) _) _
  clear hmm
  have sz5 := hb.size
  replace hA0 := hA0.below (hb.mono bel.size)
  replace ho_x0 := own_below ho_x0 hb
  replace bel := bel.trans (hb.mono bel.size)
  clear hb
  go_wp2_with fail
  refine (copyF (hA0.more bel.size) hy0).mono ?_
  rintro e w6 ⟨g_t0, rfl, ho_t0, hb⟩
  have sz6 := hb.size
  replace hA0 := hA0.below (hb.mono bel.size)
  replace ho_x0 := own_below ho_x0 hb
  replace bel := bel.trans (hb.mono bel.size)
  clear hb
  have hc_t0 := ho_t0
  go_wp2_with fail
  refine (eqF (Reads.of_own ho_x0) (Reads.of_own ho_t0) (by omega) rfl).mono ?_
  rintro e w7 ⟨rfl, hb⟩
  have sz7 := hb.size
  replace hA0 := hA0.below (hb.mono bel.size)
  replace ho_x0 := own_below ho_x0 hb
  replace ho_t0 := own_below ho_t0 hb
  replace bel := bel.trans (hb.mono bel.size)
  clear hb
  clear ho_t0
  go_wp2
  go_ret
  exact ⟨rfl, bel⟩
end Go.Proofs.Ythfdgffgihjglaa
