/-
  The law FnExactBearingRates returns true for all arguments, and writes nothing that was there.
-/
import Derived.Test.YthfdgffgihjglaaKit
import Derived.Test.YthfdgffgihjglaaBrgS
import Derived.BigGuardPart
namespace Go.Proofs.Ythfdgffgihjglaa
open Go.RowKit Fl Mem
set_option linter.unusedVariables false
set_option maxRecDepth 100000

set_option maxHeartbeats 4000000 in
theorem law_BearingRates (a0 : Int) (a1 : Nat) (a2 : Nat) (w : World)
    (hi0 : (Lit.int .i64 a0).wf = true)
    (hf1 : a1 < 2 ^ FloatKind.f32.format.width)
    (hf2 : a2 < 2 ^ FloatKind.f32.format.width) :
    Calls Try.prog 6 #[.int .i64 a0, .float .f32 a1, .float .f32 a2] w fun e w' => e = .returned (.bool true) ∧ Below w.heap.size w w' := by
  have bel : Below w.heap.size w w := Below.refl _ _
  go_enter Try.func6, Try.ntmps6
  go_wp2_with fail
  refine (s_Br).mono ?_
  rintro e w1 ⟨vw0, zsw0, rfl, ho_w0, hzw0, hb⟩
  have sz1 := hb.size
  replace bel := bel.trans (hb.mono bel.size)
  clear hb
  have hc_w0 := ho_w0
  obtain ⟨A_w0, c_w0, rfl⟩ := own_shape ho_w0
  have hlen_w0 := len_of hzw0 (brR_len _ _ _)
  go_wp2_with fail
  refine (i_Br).mono ?_
  rintro e w2 ⟨vg0, zsg0, rfl, ho_g0, hzg0, hb⟩
  have sz2 := hb.size
  replace ho_w0 := own_below ho_w0 hb
  replace bel := bel.trans (hb.mono bel.size)
  clear hb
  have hc_g0 := ho_g0
  obtain ⟨A_g0, c_g0, rfl⟩ := own_shape ho_g0
  have hlen_g0 := len_of hzg0 (brR_len _ _ _)
  go_wp2_with fail
  refine (eqF (Reads.of_own ho_g0) (Reads.of_own ho_w0) (by omega) (hzg0.out.trans hzw0.out.symm)).mono ?_
  rintro e w3 ⟨rfl, hb⟩
  have sz3 := hb.size
  replace ho_w0 := own_below ho_w0 hb
  replace ho_g0 := own_below ho_g0 hb
  replace bel := bel.trans (hb.mono bel.size)
  clear hb
  go_wp2_with fail
  refine (markF (k := 1) ho_g0 (by omega) (by omega)).mono ?_
  rintro e w4 ⟨rfl, ho, hg⟩
  have sz4 := hg.size
  have hlow : ∀ g, (Value.slice A_g0 _ c_g0).ownBlock = some g → w.heap.size ≤ g := fun g hgg => by have h1 := (hc_g0.lt g hgg).1; have h2 := bel.size; omega
  replace ho_w0 := ho_w0.kept hg (own_apart hc_w0 hc_g0 (by omega))
  replace ho_g0 := ho
  replace bel := bel.grown hg bel.size hlow
  clear hg hlow ho
  go_wp2_with fail
  refine (heldF (k := 1) (Reads.of_own ho_g0) (by omega) (by omega)).mono ?_
  rintro e w5 ⟨rfl, hb⟩
  have sz5 := hb.size
  replace ho_w0 := own_below ho_w0 hb
  replace ho_g0 := own_below ho_g0 hb
  replace bel := bel.trans (hb.mono bel.size)
  clear hb
  go_wp2_with fail
  refine (i_Br).mono ?_
  rintro e w6 ⟨vh0, zsh0, rfl, ho_h0, hzh0, hb⟩
  have sz6 := hb.size
  replace ho_w0 := own_below ho_w0 hb
  replace ho_g0 := own_below ho_g0 hb
  replace bel := bel.trans (hb.mono bel.size)
  clear hb
  have hc_h0 := ho_h0
  obtain ⟨A_h0, c_h0, rfl⟩ := own_shape ho_h0
  have hlen_h0 := len_of hzh0 (brR_len _ _ _)
  go_wp2_with fail
  refine (eqF (Reads.of_own ho_h0) (Reads.of_own ho_w0) (by omega) (hzh0.out.trans hzw0.out.symm)).mono ?_
  rintro e w7 ⟨rfl, hb⟩
  have sz7 := hb.size
  replace ho_w0 := own_below ho_w0 hb
  replace ho_g0 := own_below ho_g0 hb
  replace ho_h0 := own_below ho_h0 hb
  replace bel := bel.trans (hb.mono bel.size)
  clear hb
  go_wp2_with fail
  refine (heldF (k := 1) (Reads.of_own ho_g0) (by omega) (by omega)).mono ?_
  rintro e w8 ⟨rfl, hb⟩
  have sz8 := hb.size
  replace ho_w0 := own_below ho_w0 hb
  replace ho_g0 := own_below ho_g0 hb
  replace ho_h0 := own_below ho_h0 hb
  replace bel := bel.trans (hb.mono bel.size)
  clear hb
  go_wp2
  go_ret
  exact ⟨rfl, bel⟩
end Go.Proofs.Ythfdgffgihjglaa
