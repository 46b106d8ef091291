/-
  The logarithm of 32 bits: both sides' walks, of what is above 0.
-/
import Derived.Test.YtolbibpmngmpdaaLogW
import Derived.Test.YtolbibpmngmpdaaLogR
import Derived.Test.YtolbibpmngmpdaaFin
namespace Go.Proofs.Ytolbibpmngmpdaa
open Go.RowKit Mem Fl
set_option linter.unusedVariables false
set_option maxRecDepth 100000

theorem isInf_fin {r : Nat} {w : World} (h2 : r < 9218868437227405312) : Calls Try.prog 148 #[.float .f64 r, .int .i64 1] w fun e w' => e = .returned (.bool false) ∧ w = w' := by
  have hg := gt_pos (k := .f64) (c := r) (q := 9218868437227405311) (by rw [d64_inf]; omega) (by rw [d64_inf]; omega)
  rw [decide_eq_false (by omega)] at hg
  go_enter Try.func148, Try.ntmps148
  go_wp2
  go_ret
  exact ⟨ret_bool (by first | exact hg | rfl | simp [hg]), rfl⟩
theorem isInf_inf {w : World} : Calls Try.prog 148 #[.float .f64 9218868437227405312, .int .i64 1] w fun e w' => e = .returned (.bool true) ∧ w = w' := by
  have hg : (FloatKind.f64.format.order 9218868437227405312 9218868437227405311 == some .gt) = true := by decide +kernel
  go_enter Try.func148, Try.ntmps148
  go_wp2
  go_ret
  exact ⟨ret_bool (by first | exact hg | rfl | simp [hg]), rfl⟩
set_option maxHeartbeats 1000000 in
theorem i_LogNumber {x : Nat} {w : World} (h : x ≤ 2139095040) (h0 : x ≠ 0) :
    Calls Try.prog 68 #[.float .f32 x] w fun e w' => ∃ z, e = .returned (.float .f32 z) ∧ Hid (cn .f32 z = logN x) ∧ ∃ m, w' = w.drewN m := by
  by_cases hx : x = 2139095040
  · subst hx
    have g1 : (FloatKind.f32.format.order 2139095040 0 == some .eq) = false := by decide +kernel
    have g2 : (FloatKind.f32.format.order 2139095040 0 == some .lt) = false := by decide +kernel
    have g3 : (FloatKind.f32.format.order 2139095040 2139095040 != some .eq) = false := by decide +kernel
    have g4 : fin .f32 2139095040 = false := by decide +kernel
    have g5 : Hid (cn .f32 2139095040 = logN 2139095040) := hide (by rw [logN_inf]; decide +kernel)
    clear h h0
    go_enter Try.func68, Try.ntmps68
    go_wp2_with (go_at_call 64; refine (i_IsFinite _ _).mono ?_; rintro e w' ⟨rfl, m', rfl⟩; rw [g4])
    go_ret
    exact ⟨_, rfl, g5, _, rfl⟩
  · have hn : Nn x := by unfold Nn; omega
    have hlt : x < FloatKind.f32.format.infRung := by rw [show FloatKind.f32.format.infRung = 2139095040 from f32_inf]; omega
    have hz : 0 < FloatKind.f32.format.infRung := by omega
    have g1 := eq_pos (k := .f32) hlt hz
    have g2 := lt_pos (k := .f32) hlt hz
    have g3 := ne_pos (k := .f32) hlt hlt
    rw [decide_eq_false h0] at g1
    rw [decide_eq_false (Nat.not_lt_zero _)] at g2
    rw [decide_eq_false (fun e => e rfl)] at g3
    have g4 := nn_fin hn
    obtain ⟨w1, w2⟩ := wide_pos hn h0
    have HC := hide (cvR_pos hn h0)
    have HL : Hid (∀ (z : Nat) (W : World), cn .f64 z = logV (wide x) → cn .f32 (cvR .f64 .f32 z W) = logN x) := hide (fun z W hz => log_end hn h0 hz W)
    have HN : ∀ W, _ := fun W => i_naturalLog (r := wide x) (w := W) w1 w2
    clear h h0 hx hn hlt hz w1 w2
    generalize wide x = r at *
    replace HN := hide HN
    go_enter Try.func68, Try.ntmps68
    go_wp2_with (first | (go_at_call 64; refine (i_IsFinite _ _).mono ?_; rintro e w' ⟨rfl, m', rfl⟩; rw [g4]) | (go_at_call 113; rw [HC.out]; refine (HN.out _).mono ?_; rintro e w' ⟨z, rfl, hz, m2, rfl⟩))
    go_ret
    exact ⟨_, rfl, hide (HL.out _ _ hz.out), _, rfl⟩
set_option maxHeartbeats 4000000 in
theorem s_l01LogWide {r : Nat} {w : World} (h1 : 4503599627370496 ≤ r) (h2 : r < 9218868437227405312) :
    Calls Try.prog 137 #[.float .f64 r] w fun e w' => ∃ z, e = .returned (.float .f64 z) ∧ Hid (cn .f64 z = logV r) ∧ ∃ m, w' = w.drewN m := by
  have hI : Hid (FloatKind.f64.format.infRung = 9218868437227405312) := hide d64_inf
  have hlt : r < FloatKind.f64.format.infRung := by rw [hI.out]; omega
  have hz : 0 < FloatKind.f64.format.infRung := by omega
  have g1 := eq_pos (k := .f64) hlt hz
  have g2 := lt_pos (k := .f64) hlt hz
  have g3 := ne_pos (k := .f64) hlt hlt
  rw [decide_eq_false (by omega)] at g1
  rw [decide_eq_false (Nat.not_lt_zero _)] at g2
  rw [decide_eq_false (fun e => e rfl)] at g3
  have HIn : ∀ W, _ := fun W => isInf_fin (r := r) (w := W) h2
  replace HIn := hide HIn
  clear hlt hz
  go_enter Try.func137, Try.ntmps137
  go_wp2_with (go_at_call 148; refine (HIn.out _).mono ?_; rintro e w' ⟨rfl, rfl⟩)
  clear g1 g2 g3
  go_loopw [0, 3] (fun x e wr => ∃ c j m : Nat, x = .float .f64 c ∧ e = .int .i64 ((j : Nat) : Int) ∧ Hid (r = c + j * 4503599627370496) ∧ Hid (j = 0 ∨ 4604930618986332160 ≤ c) ∧ wr = w.drewN m) (fun x _ _ => bitsOf x)
  case atStart => exact ⟨r, 0, 0, rfl, rfl, hide (by omega), hide (.inl rfl), rfl⟩
  case round =>
    obtain ⟨c, j, m, rfl, rfl, hr, hj, rfl⟩ := hrel
    have hr' := hr.out
    have hj' := hj.out
    have hjI : (j : Int) < 3000 := by omega
    have hg := ge_pos (k := .f64) (c := c) (q := 4609434218613702656) (by rw [hI.out]; omega) (by rw [hI.out]; omega)
    by_cases hc : 4609434218613702656 ≤ c
    · rw [decide_eq_true hc] at hg
      obtain ⟨c', hc', HH⟩ := half64x (c := c) (by omega) (by omega)
      have Hr : Hid (r = c' + (j + 1) * 4503599627370496) := hide (by omega)
      have Hc : Hid (4604930618986332160 ≤ c') := hide (by omega)
      have Hl : Hid (c' < c) := hide (by omega)
      have HF := hide (flR_pos HH (by rw [hI.out]; omega))
      clear hr' hj' hr hj hc hc' HH
      go_wp2
      go_roundw
      case rel => exact ⟨c', j + 1, _, by rw [HF.out], by go_num, Hr, hide (.inr Hc.out), rfl⟩
      case measure =>
        rw [HF.out]
        exact Hl.out
    · rw [decide_eq_false hc] at hg
      have Hr : Hid ((r : Int) = c + (j : Int) * 4503599627370496) := hide (by omega)
      have Hc : Hid ((j : Int) ≤ 0 ∨ 4604930618986332160 ≤ c) := hide (by omega)
      have Hl : Hid (c < 4609434218613702656 ∧ 4503599627370496 ≤ c) := hide (by omega)
      clear hr' hj' hr hj hc
      go_wp2
      clear hg
      go_loopw [0, 3] (fun x e wr => ∃ (c : Nat) (ev : Int) (m : Nat), x = .float .f64 c ∧ e = .int .i64 ev ∧ Hid ((r : Int) = c + ev * 4503599627370496) ∧ Hid (ev ≤ 0 ∨ 4604930618986332160 ≤ c) ∧ Hid (c < 4609434218613702656 ∧ 4503599627370496 ≤ c) ∧ wr = w.drewN m) (fun x _ _ => 4604930618986332160 - bitsOf x)
      case atStart => exact ⟨c, (j : Int), _, rfl, rfl, Hr, Hc, Hl, rfl⟩
      case round =>
        clear Hr Hc Hl hjI
        obtain ⟨c, ev, m, rfl, rfl, hr, hj, hc15, rfl⟩ := hrel
        have hr' := hr.out
        have hj' := hj.out
        obtain ⟨hc1, hc2⟩ := hc15.out
        have e1 : -3000 < ev := by omega
        have e2 : ev < 3000 := by omega
        have hg := lt_pos (k := .f64) (c := c) (q := 4604930618986332160) (by rw [hI.out]; omega) (by rw [hI.out]; omega)
        by_cases hc : c < 4604930618986332160
        · rw [decide_eq_true hc] at hg
          obtain ⟨c', hc', HH⟩ := dbl64x (c := c) (by omega) (by omega)
          have Hr : Hid ((r : Int) = c' + (ev - 1) * 4503599627370496) := hide (by omega)
          have Hc : Hid (ev - 1 ≤ 0 ∨ 4604930618986332160 ≤ c') := hide (by omega)
          have Hl : Hid (c' < 4609434218613702656 ∧ 4503599627370496 ≤ c') := hide (by omega)
          have Hm : Hid (4604930618986332160 - c' < 4604930618986332160 - c) := hide (by omega)
          have HF := hide (flR_pos HH (by rw [hI.out]; omega))
          clear hr' hj' hr hj hc hc' HH hc15 hc1 hc2
          go_wp2
          go_roundw
          case rel => exact ⟨c', ev - 1, _, by rw [HF.out], by first | rfl | go_num, Hr, Hc, Hl, rfl⟩
          case measure =>
            rw [HF.out]
            exact Hm.out
        · rw [decide_eq_false hc] at hg
          have HR := hide (red_of hr.out (by omega) hc1)
          clear hr hj hc15 hr' hj' hc1 hc2 hc h1 h2
          go_wp2
          clear hg
          go_loopw [6, 7] (fun q kv wr => ∃ (j qz m : Nat), j ≤ 13 ∧ kv = .int .i64 (25 - 2 * ((j : Nat) : Int)) ∧ q = .float .f64 qz ∧ Hid (cn .f64 qz = logQ (fb .mul .f64 (logS c) (logS c)) j) ∧ wr = w.drewN m) (fun _ kv _ => (intOf kv + 1).toNat)
          case atStart => exact ⟨0, 0, _, by omega, rfl, rfl, hide (q_zero _), rfl⟩
          case round =>
            obtain ⟨j, qz, m', hj, rfl, rfl, hq, rfl⟩ := hrel
            by_cases hj3 : j < 13
            · have i1 : (1 : Int) ≤ 25 - 2 * (j : Int) := by omega
              have i2 : 25 - 2 * (j : Int) ≤ 25 := by omega
              go_wp2
              go_roundw
              case rel => exact ⟨j + 1, _, _, by omega, by (congr 1; omega), rfl, hide (q_step (u_step (s_step _ _ _) _) hq.out _ _ _), rfl⟩
              case measure => (simp [intOf]; omega)
            · obtain rfl : j = 13 := by omega
              go_wp2
              go_ret
              exact ⟨_, rfl, hide (end_step HR.out (s_step _ _ _) hq.out _ _ _ _), _, rfl⟩
theorem s_l01LogWide_inf {w : World} : Calls Try.prog 137 #[.float .f64 9218868437227405312] w fun e w' => e = .returned (.float .f64 9218868437227405312) ∧ ∃ m, w' = w.drewN m := by
  have g1 : (FloatKind.f64.format.order 9218868437227405312 0 == some .eq) = false := by decide +kernel
  have g2 : (FloatKind.f64.format.order 9218868437227405312 0 == some .lt) = false := by decide +kernel
  have g3 : (FloatKind.f64.format.order 9218868437227405312 9218868437227405312 != some .eq) = false := by decide +kernel
  go_enter Try.func137, Try.ntmps137
  go_wp2_with (go_at_call 148; refine isInf_inf.mono ?_; rintro e w' ⟨rfl, rfl⟩)
  go_ret
  exact ⟨rfl, 0, rfl⟩
theorem s_Narrow {z : Nat} {w : World} : Calls Try.prog 130 #[.float .f64 z] w fun e w' => e = .returned (.float .f32 (cvR .f64 .f32 z w)) ∧ ∃ m, w' = w.drewN m := by
  go_enter Try.func130, Try.ntmps130
  go_wp2
  go_ret
  exact ⟨rfl, _, rfl⟩
theorem s_l01Log {x : Nat} {w : World} (h : x ≤ 2139095040) (h0 : x ≠ 0) :
    Calls Try.prog 104 #[.float .f32 x] w fun e w' => ∃ z, e = .returned (.float .f32 z) ∧ Hid (cn .f32 z = logN x) ∧ ∃ m, w' = w.drewN m := by
  by_cases hx : x = 2139095040
  · subst hx
    have g5 : Hid (∀ W, cn .f32 (cvR .f64 .f32 9218868437227405312 W) = logN 2139095040) := hide (fun W => by rw [logN_inf, cvR_inf']; decide +kernel)
    have HC := hide cvR_inf
    clear h h0
    go_enter Try.func104, Try.ntmps104
    go_wp2_with (first | (go_at_call 137; rw [HC.out]; refine s_l01LogWide_inf.mono ?_; rintro e w' ⟨rfl, m1, rfl⟩) | (go_at_call 130; refine s_Narrow.mono ?_; rintro e w' ⟨rfl, m2, rfl⟩))
    go_ret
    exact ⟨_, rfl, hide (g5.out _), _, rfl⟩
  · have hn : Nn x := by unfold Nn; omega
    obtain ⟨w1, w2⟩ := wide_pos hn h0
    have HC := hide (cvR_pos hn h0)
    have HL : Hid (∀ (z : Nat) (W : World), cn .f64 z = logV (wide x) → cn .f32 (cvR .f64 .f32 z W) = logN x) := hide (fun z W hz => log_end hn h0 hz W)
    have HN : ∀ W, _ := fun W => s_l01LogWide (r := wide x) (w := W) w1 w2
    clear h h0 hx hn w1 w2
    generalize wide x = r at *
    replace HN := hide HN
    go_enter Try.func104, Try.ntmps104
    go_wp2_with (first | (go_at_call 137; rw [HC.out]; refine (HN.out _).mono ?_; rintro e w' ⟨z, rfl, hz, m2, rfl⟩) | (go_at_call 130; refine s_Narrow.mono ?_; rintro e w' ⟨rfl, m3, rfl⟩))
    go_ret
    exact ⟨_, rfl, hide (HL.out _ _ hz.out), _, rfl⟩
end Go.Proofs.Ytolbibpmngmpdaa
