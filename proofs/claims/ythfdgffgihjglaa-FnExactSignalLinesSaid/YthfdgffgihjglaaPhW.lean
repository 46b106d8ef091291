/-
  The sine of a number of turns from 0 to a quarter: both sides' walks.
-/
import Derived.Test.YthfdgffgihjglaaPhQ
import Derived.Test.YthfdgffgihjglaaLogX
namespace Go.Proofs.Ythfdgffgihjglaa
open Go.RowKit Mem Fl
set_option linter.unusedVariables false
set_option maxRecDepth 100000

theorem fr_half {x : Nat} (h : Fr 4598175219545276416 x) : (FloatKind.f64.format.order x 4602678819172646912 == some .gt || FloatKind.f64.format.order x 4602678819172646912 == some .eq) = false := by
  rcases h with h | h
  · rw [ge_pos (by rw [d64_inf]; omega) (by rw [d64_inf]; omega), decide_eq_false (by omega)]
  · subst h; decide +kernel
theorem fr_quart {x : Nat} (h : Fr 4598175219545276416 x) : (FloatKind.f64.format.order x 4598175219545276416 == some .gt) = false := by
  rcases h with h | h
  · rw [gt_pos (by rw [d64_inf]; omega) (by rw [d64_inf]; omega), decide_eq_false (by omega)]
  · subst h; decide +kernel
theorem fr_neg {x C : Nat} (h : Fr C x) (hC : C ≤ 4607182418800017408) : (FloatKind.f64.format.order x 0 == some .lt) = false := by
  rcases h with h | h
  · rw [lt_pos (by rw [d64_inf]; omega) (by rw [d64_inf]; omega), decide_eq_false (Nat.not_lt_zero _)]
  · subst h; decide +kernel
theorem fr_nan {x C : Nat} (h : Fr C x) (hC : C ≤ 4607182418800017408) : isNan .f64 x = false := by
  rcases h with h | h
  · exact num_nan (read_pos (by rw [d64_inf]; omega))
  · subst h; decide +kernel
theorem fr_big {x : Nat} (h : Fr 4598175219545276416 x) : (FloatKind.f64.format.order x 4841369599423283200 == some .gt || FloatKind.f64.format.order x 4841369599423283200 == some .eq) = false := by
  rcases h with h | h
  · rw [ge_pos (by rw [d64_inf]; omega) (by rw [d64_inf]; omega), decide_eq_false (by omega)]
  · subst h; decide +kernel
theorem pos_gt_neg {r : Nat} (h : r < 9218868437227405312) : FloatKind.f64.format.order r 14064741636278059008 = some .gt := by
  have rx := read_pos (k := .f64) (r := r) (by rw [d64_inf]; exact h)
  have ry : FloatKind.f64.format.read 14064741636278059008 = .number true 4503599627370496 0 := by decide +kernel
  unfold Ieee.Format.order
  rw [rx, ry]
  simp only [Ieee.Datum.order]
  rw [sgn_f, sgn_t, compare_int]
  have hp := Nat.mul_pos (show 0 < 4503599627370496 by omega) (Nat.two_pow_pos (0 - min (placeOf FloatKind.f64.format r) 0).toNat)
  rw [if_neg (by omega), if_neg (by omega)]
theorem fr_low {x : Nat} (h : Fr 4598175219545276416 x) : (FloatKind.f64.format.order x 14064741636278059008 == some .lt || FloatKind.f64.format.order x 14064741636278059008 == some .eq) = false := by
  rcases h with h | h
  · rw [pos_gt_neg (by omega)]; rfl
  · subst h; decide +kernel
theorem fr_fin {x : Nat} (h : Fr 4598175219545276416 x) : (FloatKind.f64.format.order (fb .sub .f64 x x) 0 != some .eq) = false := by
  have : fin .f64 x = true := by
    obtain ⟨s, r, hr, _⟩ := (fr_bd h).read
    exact (fin_iff .f64 x).2 ⟨_, _, _, hr⟩
  unfold fin at this
  rw [bne, this]; rfl
theorem frV_id {x : Nat} (h : Fr 4598175219545276416 x) : frV x = x := by
  have hT : frT x = 0 := by unfold frT; rw [fr_int h]; rfl
  have h0 : fr0 x = x := by unfold fr0; rw [hT]; exact fr_sub h (by decide)
  unfold frV
  rw [h0, fr_neg h (by decide), if_neg (by simp)]
theorem exact_word {k : FloatKind} {z x : Nat} (h : cn k z = x) (hx : isNan k x = false) : z = x := (eq_of_cn (k := k) (a := x) (by rw [cn_num hx, h]) hx).symm
theorem conv_int {x : Nat} {n : Int} (h : floatToIntVal .f64 x .i64 = some n) (W : World) : (convert 40 2 (.float .f64 x)).run Try.prog W = .ok (.int .i64 n) W :=
  run_convert_float_int (P := Try.prog) (w := W) 40 2 .f64 .i64 _ _ (by rw [Try.underlying40]; rfl) Try.underlying2 h
theorem i_fraction {y : Nat} {w : World} (hI : floatToIntVal .f64 y .i64 = some (frT y)) :
    Calls Try.prog 123 #[.float .f64 y] w fun e w' => ∃ z, e = .returned (.float .f64 z) ∧ Hid (cn .f64 z = frV y) ∧ ∃ m, w' = w.drewN m := by
  have hp : Hid (frV y = if (FloatKind.f64.format.order (fb .sub .f64 y (floatOfInt .f64 (frT y))) 0 == some .lt) = true then fb .add .f64 (fb .sub .f64 y (floatOfInt .f64 (frT y))) 4607182418800017408 else fb .sub .f64 y (floatOfInt .f64 (frT y))) := hide rfl
  have hcv := conv_int hI
  generalize frT y = n at *
  clear hI
  cases h1 : (FloatKind.f64.format.order (fb .sub .f64 y (floatOfInt .f64 n)) 0 == some .lt) with
  | true =>
    rw [h1, if_pos rfl] at hp
    go_enter Try.func123, Try.ntmps123
    go_wp2
    go_ret
    exact ⟨_, rfl, hide (by rw [hp.out, cn_flR, ← fb_cnl, cn_flR]), _, rfl⟩
  | false =>
    rw [h1, if_neg (by simp)] at hp
    go_enter Try.func123, Try.ntmps123
    go_wp2
    go_ret
    exact ⟨_, rfl, hide (by rw [hp.out, cn_flR]), _, rfl⟩
theorem k8_ge : ∀ j : Nat, j < 9 → (FloatKind.f64.format.order (floatOfInt .f64 (8 - ((j : Nat) : Int))) 4607182418800017408 == some .gt || FloatKind.f64.format.order (floatOfInt .f64 (8 - ((j : Nat) : Int))) 4607182418800017408 == some .eq) = decide (j < 8) := by decide +kernel
theorem k8_next : ∀ j : Nat, j < 8 → fb .sub .f64 (floatOfInt .f64 (8 - ((j : Nat) : Int))) 4607182418800017408 = floatOfInt .f64 (8 - ((j + 1 : Nat) : Int)) := by decide +kernel
theorem k8_dec : ∀ j : Nat, j < 8 → kM (floatOfInt .f64 (8 - ((j + 1 : Nat) : Int))) < kM (floatOfInt .f64 (8 - ((j : Nat) : Int))) := by decide +kernel
theorem k8_den : ∀ j : Nat, j < 8 → fb .mul .f64 (fb .mul .f64 4611686018427387904 (floatOfInt .f64 (8 - ((j : Nat) : Int)))) (fb .add .f64 (fb .mul .f64 4611686018427387904 (floatOfInt .f64 (8 - ((j : Nat) : Int)))) 4607182418800017408) = floatOfInt .f64 (2 * (8 - ((j : Nat) : Int)) * (2 * (8 - ((j : Nat) : Int)) + 1)) := by decide +kernel
theorem k8_rng : ∀ j : Nat, j < 8 → 0 ≤ 2 * (8 - ((j : Nat) : Int)) * (2 * (8 - ((j : Nat) : Int)) + 1) ∧ 2 * (8 - ((j : Nat) : Int)) * (2 * (8 - ((j : Nat) : Int)) + 1) ≤ 272 := by decide +kernel
theorem k8_zero : (4620693217682128896 : Nat) = floatOfInt .f64 (8 - ((0 : Nat) : Int)) := by decide +kernel
theorem one_cn : cn .f64 4607182418800017408 = 4607182418800017408 := by decide +kernel
/-- One round, with the divisor told. -/
theorem p_step {U u p D d : Nat} {j : Nat} (hu : cn .f64 u = U) (hp : cn .f64 p = sinP U j) (hd : cn .f64 d = D) (hD : D = floatOfInt .f64 (2 * (8 - (j : Int)) * (2 * (8 - (j : Int)) + 1))) (w1 w2 w3 : World) :
    cn .f64 (flR .sub .f64 4607182418800017408 (flR .quo .f64 (flR .mul .f64 u p w1) d w2) w3) = sinP U (j + 1) := by
  have h1 : fb .mul .f64 u p = fb .mul .f64 U (sinP U j) := by rw [← fb_cn .mul .f64 u p, hu, hp]
  rw [cn_flR, ← fb_cnr, cn_flR, ← fb_cn .quo, cn_flR, hd, h1, hD]
  rfl
theorem den_step (K : Nat) (w1 w2 w3 w4 : World) : cn .f64 (flR .mul .f64 (flR .mul .f64 4611686018427387904 K w1) (flR .add .f64 (flR .mul .f64 4611686018427387904 K w2) 4607182418800017408 w3) w4) = fb .mul .f64 (fb .mul .f64 4611686018427387904 K) (fb .add .f64 (fb .mul .f64 4611686018427387904 K) 4607182418800017408) := by
  rw [cn_flR, ← fb_cn, cn_flR, cn_flR, ← fb_cnl .add, cn_flR]
theorem z_step {x : Nat} (w : World) : cn .f64 (flR .mul .f64 x 4618760256179416344 w) = sinZ x := by rw [cn_flR]; rfl
theorem z_step2 {x : Nat} (h : ∀ W, flR .sub .f64 x (floatOfInt .f64 0) W = x) (w1 w2 : World) : cn .f64 (flR .mul .f64 (flR .sub .f64 x (floatOfInt .f64 0) w1) 4618760256179416344 w2) = sinZ x := by rw [h, cn_flR]; rfl
theorem sin_end {x z p : Nat} (hz : cn .f64 z = sinZ x) (hp : cn .f64 p = sinP (fb .mul .f64 (sinZ x) (sinZ x)) 8) (w : World) : cn .f64 (flR .mul .f64 z p w) = sinV x := by
  rw [cn_flR, ← fb_cn, hz, hp]; rfl
set_option maxHeartbeats 2000000 in
theorem i_sine {x : Nat} {w : World} (h : Fr 4598175219545276416 x) :
    Calls Try.prog 124 #[.float .f64 x] w fun e w' => ∃ z, e = .returned (.float .f64 z) ∧ Hid (cn .f64 z = sinV x) ∧ ∃ m, w' = w.drewN m := by
  have h1 := fr_half h
  have h2 := fr_quart h
  have HF : ∀ W, Calls Try.prog 123 #[.float .f64 x] W fun e w' => e = .returned (.float .f64 x) ∧ ∃ m, w' = W.drewN m := fun W => by
    refine (i_fraction (by rw [fr_int h]; unfold frT; rw [fr_int h]; rfl)).mono ?_
    rintro e w' ⟨z, rfl, hz, hw⟩
    have : z = x := exact_word (by rw [hz.out, frV_id h]) (fr_nan h (by decide))
    subst this
    exact ⟨rfl, hw⟩
  replace HF := hide HF
  clear h
  go_enter Try.func124, Try.ntmps124
  go_wp2_with (go_at_call 123; refine (HF.out _).mono ?_; rintro e w' ⟨rfl, m1, rfl⟩)
  go_loopw [7, 8] (fun p kv wr => ∃ (j pz m : Nat), j ≤ 8 ∧ kv = .float .f64 (floatOfInt .f64 (8 - ((j : Nat) : Int))) ∧ p = .float .f64 pz ∧ Hid (cn .f64 pz = sinP (fb .mul .f64 (sinZ x) (sinZ x)) j) ∧ wr = w.drewN m) (fun _ kv _ => kM (bitsOf kv))
  case atStart => exact ⟨0, _, _, by omega, congrArg _ k8_zero, rfl, hide one_cn, rfl⟩
  case round =>
    obtain ⟨j, pz, m, hj, rfl, rfl, hq, rfl⟩ := hrel
    have hg := k8_ge j (by omega)
    by_cases hj8 : j < 8
    · rw [decide_eq_true hj8] at hg
      have HK : Hid (∀ W, flR .sub .f64 (floatOfInt .f64 (8 - ((j : Nat) : Int))) 4607182418800017408 W = floatOfInt .f64 (8 - ((j + 1 : Nat) : Int))) := hide (fun W => flR_bd (k8_next j hj8) (int_nan _) W)
      have HM := hide (k8_dec j hj8)
      have HD := hide (k8_den j hj8)
      go_wp2
      go_roundw
      case rel => exact ⟨j + 1, _, _, by omega, by rw [HK.out], rfl, hide (p_step (u_step (z_step _) _) hq.out (den_step _ _ _ _ _) HD.out _ _ _), rfl⟩
      case measure =>
        rw [HK.out]
        exact HM.out
    · rw [decide_eq_false hj8] at hg
      obtain rfl : j = 8 := by omega
      go_wp2
      go_ret
      exact ⟨_, rfl, hide (sin_end (z_step _) hq.out _), _, rfl⟩
set_option maxHeartbeats 2000000 in
theorem s_l01SineWide {x : Nat} {w : World} (h : Fr 4598175219545276416 x) :
    Calls Try.prog 120 #[.float .f64 x] w fun e w' => ∃ z, e = .returned (.float .f64 z) ∧ Hid (cn .f64 z = sinV x) ∧ ∃ m, w' = w.drewN m := by
  have h0 := fr_fin h
  have h3 := fr_big h
  have h4 := fr_low h
  have hI := conv_int (fr_int h)
  have hx : fb .sub .f64 x (floatOfInt .f64 0) = x := fr_sub h (by decide)
  have h1 := fr_half h
  have h2 := fr_quart h
  have h5 := fr_neg h (by decide)
  have HX : Hid (∀ W, flR .sub .f64 x (floatOfInt .f64 0) W = x) := hide (fun W => flR_bd hx (fr_nan h (by decide)) W)
  have h1' := h1
  have h2' := h2
  have h5' := h5
  rw [← hx] at h1' h2' h5'
  clear h hx
  go_enter Try.func120, Try.ntmps120
  go_wp2
  go_loopw [7, 8] (fun p kv wr => ∃ (j pz m : Nat), j ≤ 8 ∧ kv = .int .i64 (8 - ((j : Nat) : Int)) ∧ p = .float .f64 pz ∧ Hid (cn .f64 pz = sinP (fb .mul .f64 (sinZ x) (sinZ x)) j) ∧ wr = w.drewN m) (fun _ kv _ => (intOf kv).toNat)
  case atStart => exact ⟨0, _, _, by omega, rfl, rfl, hide one_cn, rfl⟩
  case round =>
    obtain ⟨j, pz, m, hj, rfl, rfl, hq, rfl⟩ := hrel
    by_cases hj8 : j < 8
    · have i1 : (1 : Int) ≤ 8 - (j : Int) := by omega
      have i2 : 8 - (j : Int) ≤ 8 := by omega
      obtain ⟨v, hv⟩ : ∃ v : Int, 2 * (8 - (j : Int)) * (2 * (8 - (j : Int)) + 1) = v := ⟨_, rfl⟩
      obtain ⟨v1, v2⟩ := k8_rng j hj8
      rw [hv] at v1 v2
      have HV := hide hv.symm
      go_wp2
      go_roundw
      case rel =>
        have HD : cn .f64 (floatOfInt .f64 v) = floatOfInt .f64 v := cn_num (int_nan v)
        have HE : floatOfInt .f64 v = floatOfInt .f64 (2 * (8 - (j : Int)) * (2 * (8 - (j : Int)) + 1)) := congrArg _ HV.out
        exact ⟨j + 1, _, _, by omega, by (congr 1; omega), rfl, hide (p_step (u_step (z_step2 HX.out _ _) _) hq.out HD HE _ _ _), rfl⟩
      case measure => (simp [intOf]; try omega)
    · obtain rfl : j = 8 := by omega
      go_wp2
      go_ret
      exact ⟨_, rfl, hide (sin_end (z_step2 HX.out _ _) hq.out _), _, rfl⟩
end Go.Proofs.Ythfdgffgihjglaa
