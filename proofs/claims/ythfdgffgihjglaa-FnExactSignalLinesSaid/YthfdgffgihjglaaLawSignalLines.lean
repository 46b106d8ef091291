/-
  The law FnExactSignalLines returns true for all arguments, and writes nothing that was there.
-/
import Derived.Test.YthfdgffgihjglaaKit
import Derived.Test.YthfdgffgihjglaaSlT
import Derived.Test.YthfdgffgihjglaaCxQ
import Derived.BigGuardPart
namespace Go.Proofs.Ythfdgffgihjglaa
open Go.RowKit Fl Mem
set_option linter.unusedVariables false
set_option maxRecDepth 100000

set_option maxHeartbeats 4000000 in
theorem law_SignalLines (A0 : Option Addr) (n0 c0 : Nat) (xs0 : List Nat) (w : World)
    (hA0 : Reads w w.heap.size 1 A0 n0 (fl .f32 xs0)) (hn0 : n0 ≤ c0) (hc0 : c0 ≤ maxLen) :
    Calls Try.prog 8 #[.slice A0 n0 c0] w fun e w' => e = .returned (.bool true) ∧ Below w.heap.size w w' := by
  have hz0 : c0 ≤ 9223372036854775807 := hc0
  clear hc0
  by_cases hx0 : 1048576 < n0
  · have hy0 : 1048576 < (n0 : Int) := by omega
    go_enter Try.func8, Try.ntmps8
    go_wp2
    go_ret
    exact ⟨rfl, Below.refl _ _⟩
  have hy0 : n0 ≤ 1048576 := by omega
  have hs0 : (n0 : Int) ≤ 1048576 := by omega
  have hm0 : n0 ≤ maxLen := by unfold maxLen; omega
  clear hx0 hn0 hz0
  have bel : Below w.heap.size w w := Below.refl _ _
  go_enter Try.func8, Try.ntmps8
  go_wp2_with fail
  refine (copyF (hA0.more bel.size) hy0).mono ?_
  rintro e w1 ⟨g_s0, rfl, ho_s0, hb⟩
  have sz1 := hb.size
  replace hA0 := hA0.below (hb.mono bel.size)
  replace bel := bel.trans (hb.mono bel.size)
  clear hb
  have hc_s0 := ho_s0
  go_wp2_with fail
  refine (s_SignalLines (Reads.of_own ho_s0) hm0).mono ?_
  rintro e w2 ⟨vw0, zsw0, rfl, ho_w0, hzw0, hb⟩
  have sz2 := hb.size
  replace hA0 := hA0.below (hb.mono bel.size)
  replace ho_s0 := own_below ho_s0 hb
  replace bel := bel.trans (hb.mono bel.size)
  clear hb
  have hc_w0 := ho_w0
  obtain ⟨A_w0, c_w0, rfl⟩ := own_shape ho_w0
  have hlen_w0 := len_ofC hzw0 (slV_le xs0)
  clear ho_s0
  go_wp2_with fail
  refine (copyF (hA0.more bel.size) hy0).mono ?_
  rintro e w3 ⟨g_x0, rfl, ho_x0, hb⟩
  have sz3 := hb.size
  replace hA0 := hA0.below (hb.mono bel.size)
  replace ho_w0 := own_below ho_w0 hb
  replace bel := bel.trans (hb.mono bel.size)
  clear hb
  have hc_x0 := ho_x0
  go_wp2_with fail
  refine (i_SignalLines (Reads.of_own ho_x0) hm0).mono ?_
  rintro e w4 ⟨vg0, zsg0, rfl, ho_g0, hzg0, hb⟩
  have sz4 := hb.size
  replace hA0 := hA0.below (hb.mono bel.size)
  replace ho_w0 := own_below ho_w0 hb
  replace ho_x0 := own_below ho_x0 hb
  replace bel := bel.trans (hb.mono bel.size)
  clear hb
  have hc_g0 := ho_g0
  obtain ⟨A_g0, c_g0, rfl⟩ := own_shape ho_g0
  have hlen_g0 := len_ofC hzg0 (slV_le xs0)
  go_wp2_with fail
  refine (eqC (Reads.of_own ho_g0) (Reads.of_own ho_w0) (by omega) (hzg0.out.trans hzw0.out.symm)).mono ?_
  rintro e w5 ⟨rfl, hb⟩
  have sz5 := hb.size
  replace hA0 := hA0.below (hb.mono bel.size)
  replace ho_w0 := own_below ho_w0 hb
  replace ho_x0 := own_below ho_x0 hb
  replace ho_g0 := own_below ho_g0 hb
  replace bel := bel.trans (hb.mono bel.size)
  clear hb
  go_wp2_with fail
  refine (copyF (hA0.more bel.size) hy0).mono ?_
  rintro e w6 ⟨g_t0, rfl, ho_t0, hb⟩
  have sz6 := hb.size
  replace hA0 := hA0.below (hb.mono bel.size)
  replace ho_w0 := own_below ho_w0 hb
  replace ho_x0 := own_below ho_x0 hb
  replace ho_g0 := own_below ho_g0 hb
  replace bel := bel.trans (hb.mono bel.size)
  clear hb
  have hc_t0 := ho_t0
  go_wp2_with fail
  refine (eqF (Reads.of_own ho_x0) (Reads.of_own ho_t0) (by omega) rfl).mono ?_
  rintro e w7 ⟨rfl, hb⟩
  have sz7 := hb.size
  replace hA0 := hA0.below (hb.mono bel.size)
  replace ho_w0 := own_below ho_w0 hb
  replace ho_x0 := own_below ho_x0 hb
  replace ho_g0 := own_below ho_g0 hb
  replace ho_t0 := own_below ho_t0 hb
  replace bel := bel.trans (hb.mono bel.size)
  clear hb
  clear ho_t0
  go_wp2_with fail
  refine (markF (k := 1) ho_x0 (by omega) (by omega)).mono ?_
  rintro e w8 ⟨rfl, ho, hg⟩
  have sz8 := hg.size
  have hlow : ∀ g, (Value.slice (some ⟨g_x0, 0, none⟩) n0 n0).ownBlock = some g → w.heap.size ≤ g := fun g hgg => by have h1 := (hc_x0.lt g hgg).1; have h2 := bel.size; omega
  replace hA0 := hA0.grown hg bel.size hlow
  replace ho_w0 := ho_w0.kept hg (own_apart hc_w0 hc_x0 (by omega))
  replace ho_g0 := ho_g0.kept hg (own_apart' hc_x0 hc_g0 (by omega))
  replace ho_x0 := ho
  replace bel := bel.grown hg bel.size hlow
  clear hg hlow ho
  go_wp2_with fail
  refine (eqC (Reads.of_own ho_g0) (Reads.of_own ho_w0) (by omega) (hzg0.out.trans hzw0.out.symm)).mono ?_
  rintro e w9 ⟨rfl, hb⟩
  have sz9 := hb.size
  replace hA0 := hA0.below (hb.mono bel.size)
  replace ho_w0 := own_below ho_w0 hb
  replace ho_x0 := own_below ho_x0 hb
  replace ho_g0 := own_below ho_g0 hb
  replace bel := bel.trans (hb.mono bel.size)
  clear hb
  go_wp2_with fail
  refine (markC (k := 1) ho_g0 (by omega) (by omega)).mono ?_
  rintro e w10 ⟨rfl, ho, hg⟩
  have sz10 := hg.size
  have hlow : ∀ g, (Value.slice A_g0 _ c_g0).ownBlock = some g → w.heap.size ≤ g := fun g hgg => by have h1 := (hc_g0.lt g hgg).1; have h2 := bel.size; omega
  replace hA0 := hA0.grown hg bel.size hlow
  replace ho_w0 := ho_w0.kept hg (own_apart hc_w0 hc_g0 (by omega))
  replace ho_x0 := ho_x0.kept hg (own_apart hc_x0 hc_g0 (by omega))
  replace ho_g0 := ho
  replace bel := bel.grown hg bel.size hlow
  clear hg hlow ho
  go_wp2_with fail
  refine (heldC (k := 1) (Reads.of_own ho_g0) (by omega) (by omega)).mono ?_
  rintro e w11 ⟨rfl, hb⟩
  have sz11 := hb.size
  replace hA0 := hA0.below (hb.mono bel.size)
  replace ho_w0 := own_below ho_w0 hb
  replace ho_x0 := own_below ho_x0 hb
  replace ho_g0 := own_below ho_g0 hb
  replace bel := bel.trans (hb.mono bel.size)
  clear hb
  go_wp2_with fail
  refine (copyF (hA0.more bel.size) hy0).mono ?_
  rintro e w12 ⟨g_y0, rfl, ho_y0, hb⟩
  have sz12 := hb.size
  replace hA0 := hA0.below (hb.mono bel.size)
  replace ho_w0 := own_below ho_w0 hb
  replace ho_x0 := own_below ho_x0 hb
  replace ho_g0 := own_below ho_g0 hb
  replace bel := bel.trans (hb.mono bel.size)
  clear hb
  have hc_y0 := ho_y0
  go_wp2_with fail
  refine (i_SignalLines (Reads.of_own ho_y0) hm0).mono ?_
  rintro e w13 ⟨vh0, zsh0, rfl, ho_h0, hzh0, hb⟩
  have sz13 := hb.size
  replace hA0 := hA0.below (hb.mono bel.size)
  replace ho_w0 := own_below ho_w0 hb
  replace ho_x0 := own_below ho_x0 hb
  replace ho_g0 := own_below ho_g0 hb
  replace ho_y0 := own_below ho_y0 hb
  replace bel := bel.trans (hb.mono bel.size)
  clear hb
  have hc_h0 := ho_h0
  obtain ⟨A_h0, c_h0, rfl⟩ := own_shape ho_h0
  have hlen_h0 := len_ofC hzh0 (slV_le xs0)
  go_wp2_with fail
  refine (eqC (Reads.of_own ho_h0) (Reads.of_own ho_w0) (by omega) (hzh0.out.trans hzw0.out.symm)).mono ?_
  rintro e w14 ⟨rfl, hb⟩
  have sz14 := hb.size
  replace hA0 := hA0.below (hb.mono bel.size)
  replace ho_w0 := own_below ho_w0 hb
  replace ho_x0 := own_below ho_x0 hb
  replace ho_g0 := own_below ho_g0 hb
  replace ho_y0 := own_below ho_y0 hb
  replace ho_h0 := own_below ho_h0 hb
  replace bel := bel.trans (hb.mono bel.size)
  clear hb
  go_wp2_with fail
  refine (heldC (k := 1) (Reads.of_own ho_g0) (by omega) (by omega)).mono ?_
  rintro e w15 ⟨rfl, hb⟩
  have sz15 := hb.size
  replace hA0 := hA0.below (hb.mono bel.size)
  replace ho_w0 := own_below ho_w0 hb
  replace ho_x0 := own_below ho_x0 hb
  replace ho_g0 := own_below ho_g0 hb
  replace ho_y0 := own_below ho_y0 hb
  replace ho_h0 := own_below ho_h0 hb
  replace bel := bel.trans (hb.mono bel.size)
  clear hb
  go_wp2
  go_ret
  exact ⟨rfl, bel⟩
end Go.Proofs.Ythfdgffgihjglaa
