/-
  The logarithm in 64 bits: both sides' walks.
-/
import Derived.Test.YtolbibpmngmpdaaLogQ
import Derived.Test.YtolbibpmngmpdaaHelq
namespace Go.Proofs.Ytolbibpmngmpdaa
open Go.RowKit Mem Fl
set_option linter.unusedVariables false
set_option maxRecDepth 100000

/-- The bits of a number. -/
def bitsOf (v : Value) : Nat := match v with
  | .float _ b => b
  | _ => 0
set_option maxHeartbeats 4000000 in
theorem i_naturalLog {r : Nat} {w : World} (h1 : 4503599627370496 ≤ r) (h2 : r < 9218868437227405312) :
    Calls Try.prog 113 #[.float .f64 r] w fun e w' => ∃ z, e = .returned (.float .f64 z) ∧ Hid (cn .f64 z = logV r) ∧ ∃ m, w' = w.drewN m := by
  have hI : Hid (FloatKind.f64.format.infRung = 9218868437227405312) := hide d64_inf
  go_enter Try.func113, Try.ntmps113
  go_wp2
  go_loopw [0, 3] (fun x e wr => ∃ c j m : Nat, x = .float .f64 c ∧ e = .float .f64 (floatOfInt .f64 ((j : Nat) : Int)) ∧ Hid (r = c + j * 4503599627370496) ∧ Hid (j = 0 ∨ 4604930618986332160 ≤ c) ∧ wr = w.drewN m) (fun x _ _ => bitsOf x)
  case atStart => exact ⟨r, 0, 0, rfl, congrArg _ e_zero, hide (by omega), hide (.inl rfl), rfl⟩
  case round =>
    obtain ⟨c, j, m, rfl, rfl, hr, hj, rfl⟩ := hrel
    have hr' := hr.out
    have hj' := hj.out
    have hg := ge_pos (k := .f64) (c := c) (q := 4609434218613702656) (by rw [hI.out]; omega) (by rw [hI.out]; omega)
    by_cases hc : 4609434218613702656 ≤ c
    · rw [decide_eq_true hc] at hg
      obtain ⟨c', hc', HH⟩ := half64x (c := c) (by omega) (by omega)
      have Hr : Hid (r = c' + (j + 1) * 4503599627370496) := hide (by omega)
      have Hc : Hid (4604930618986332160 ≤ c') := hide (by omega)
      have Hl : Hid (c' < c) := hide (by omega)
      have HF := hide (flR_pos HH (by rw [hI.out]; omega))
      have Hj := hide (@e_up j (by omega))
      clear hr' hj' hr hj hc hc' HH
      go_wp2
      go_roundw
      case rel => exact ⟨c', j + 1, _, by rw [HF.out], by rw [Hj.out], Hr, hide (.inr Hc.out), rfl⟩
      case measure =>
        rw [HF.out]
        exact Hl.out
    · rw [decide_eq_false hc] at hg
      have Hr : Hid ((r : Int) = c + (j : Int) * 4503599627370496) := hide (by omega)
      have Hc : Hid ((j : Int) ≤ 0 ∨ 4604930618986332160 ≤ c) := hide (by omega)
      have Hl : Hid (c < 4609434218613702656 ∧ 4503599627370496 ≤ c) := hide (by omega)
      clear hr' hj' hr hj hc
      go_wp2
      clear hg
      go_loopw [0, 3] (fun x e wr => ∃ (c : Nat) (ev : Int) (m : Nat), x = .float .f64 c ∧ e = .float .f64 (floatOfInt .f64 ev) ∧ Hid ((r : Int) = c + ev * 4503599627370496) ∧ Hid (ev ≤ 0 ∨ 4604930618986332160 ≤ c) ∧ Hid (c < 4609434218613702656 ∧ 4503599627370496 ≤ c) ∧ wr = w.drewN m) (fun x _ _ => 4604930618986332160 - bitsOf x)
      case atStart => exact ⟨c, (j : Int), _, rfl, rfl, Hr, Hc, Hl, rfl⟩
      case round =>
        clear Hr Hc Hl
        obtain ⟨c, ev, m, rfl, rfl, hr, hj, hc15, rfl⟩ := hrel
        have hr' := hr.out
        have hj' := hj.out
        obtain ⟨hc1, hc2⟩ := hc15.out
        have hg := lt_pos (k := .f64) (c := c) (q := 4604930618986332160) (by rw [hI.out]; omega) (by rw [hI.out]; omega)
        by_cases hc : c < 4604930618986332160
        · rw [decide_eq_true hc] at hg
          obtain ⟨c', hc', HH⟩ := dbl64x (c := c) (by omega) (by omega)
          have Hr : Hid ((r : Int) = c' + (ev - 1) * 4503599627370496) := hide (by omega)
          have Hc : Hid (ev - 1 ≤ 0 ∨ 4604930618986332160 ≤ c') := hide (by omega)
          have Hl : Hid (c' < 4609434218613702656 ∧ 4503599627370496 ≤ c') := hide (by omega)
          have Hm : Hid (4604930618986332160 - c' < 4604930618986332160 - c) := hide (by omega)
          have HF := hide (flR_pos HH (by rw [hI.out]; omega))
          have Hj := hide (@e_down ev (by omega) (by omega))
          clear hr' hj' hr hj hc hc' HH hc15 hc1 hc2
          go_wp2
          go_roundw
          case rel => exact ⟨c', ev - 1, _, by rw [HF.out], by rw [Hj.out], Hr, Hc, Hl, rfl⟩
          case measure =>
            rw [HF.out]
            exact Hm.out
        · rw [decide_eq_false hc] at hg
          have HR := hide (red_of hr.out (by omega) hc1)
          clear hr hj hc15 hr' hj' hc1 hc2 hc h1 h2
          go_wp2
          clear hg
          go_loopw [6, 7] (fun q kv wr => ∃ (j qz m : Nat), j ≤ 13 ∧ kv = .float .f64 (floatOfInt .f64 (25 - 2 * ((j : Nat) : Int))) ∧ q = .float .f64 qz ∧ Hid (cn .f64 qz = logQ (fb .mul .f64 (logS c) (logS c)) j) ∧ wr = w.drewN m) (fun _ kv _ => kM (bitsOf kv))
          case atStart => exact ⟨0, 0, _, by omega, congrArg _ k_zero, rfl, hide (q_zero _), rfl⟩
          case round =>
            obtain ⟨j, qz, m', hj, rfl, rfl, hq, rfl⟩ := hrel
            have hg := ks_ge j (by omega)
            by_cases hj3 : j < 13
            · rw [decide_eq_true hj3] at hg
              have HK := hide (@ks_step j hj3)
              have HM := hide (km_dec j hj3)
              go_wp2
              go_roundw
              case rel => exact ⟨j + 1, _, _, by omega, by rw [HK.out], rfl, hide (q_step (u_step (s_step _ _ _) _) hq.out _ _ _), rfl⟩
              case measure =>
                rw [HK.out]
                exact HM.out
            · rw [decide_eq_false hj3] at hg
              obtain rfl : j = 13 := by omega
              go_wp2
              go_ret
              exact ⟨_, rfl, hide (end_step HR.out (s_step _ _ _) hq.out _ _ _ _), _, rfl⟩
end Go.Proofs.Ytolbibpmngmpdaa
