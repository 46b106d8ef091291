/-
  The point of the unit circle at some turns: both parts, at any number of 64 bits.
-/
import Derived.Test.YtolbibpmngmpdaaCplx
import Derived.Test.YtolbibpmngmpdaaAlarm
namespace Go.Proofs.Ytolbibpmngmpdaa
open Go.RowKit Mem Fl
set_option linter.unusedVariables false
set_option maxRecDepth 100000

/-- Both parts, told. -/
def ph1 (y : Nat) : Nat := if 4841369599423283200 ≤ y % 9223372036854775808 then 1065353216 else phRe y
def ph2 (y : Nat) : Nat := if 4841369599423283200 ≤ y % 9223372036854775808 then 0 else phIm y
theorem i_PhN {s : Bool} {r y : Nat} {w : World} (hy : y = FloatKind.f64.format.word s r) (hr : r < 9218868437227405312) : Calls Try.prog 85 #[.float .f64 y] w fun e w' => ∃ a b, e = .returned (.complex .f32 a b) ∧ Hid (cn .f32 a = ph1 y) ∧ Hid (cn .f32 b = ph2 y) ∧ ∃ m, w' = w.drewN m := by
  have hm := (word_mod (s := s) hr).1
  rw [← hy] at hm
  by_cases hb : 4841369599423283200 ≤ r
  · have h1 : ph1 y = 1065353216 := by unfold ph1; rw [hm, if_pos hb]
    have h2 : ph2 y = 0 := by unfold ph2; rw [hm, if_pos hb]
    refine (i_PhasorOf_big hy hb hr).mono ?_
    rintro e w' ⟨rfl, h3⟩
    exact ⟨_, _, rfl, hide (by rw [h1]; decide +kernel), hide (by rw [h2]; decide +kernel), h3⟩
  · have h1 : ph1 y = phRe y := by unfold ph1; rw [hm, if_neg hb]
    have h2 : ph2 y = phIm y := by unfold ph2; rw [hm, if_neg hb]
    refine (i_PhasorOf hy (by omega)).mono ?_
    rintro e w' ⟨x, z, rfl, h3, h4, h5⟩
    exact ⟨_, _, rfl, hide (by rw [h1]; exact h3.out), hide (by rw [h2]; exact h4.out), h5⟩
theorem s_PhN {s : Bool} {r y : Nat} {w : World} (hy : y = FloatKind.f64.format.word s r) (hr : r < 9218868437227405312) : Calls Try.prog 140 #[.float .f64 y] w fun e w' => ∃ a b, e = .returned (.complex .f32 a b) ∧ Hid (cn .f32 a = ph1 y) ∧ Hid (cn .f32 b = ph2 y) ∧ ∃ m, w' = w.drewN m := by
  have hm := (word_mod (s := s) hr).1
  rw [← hy] at hm
  by_cases hb : 4841369599423283200 ≤ r
  · have h1 : ph1 y = 1065353216 := by unfold ph1; rw [hm, if_pos hb]
    have h2 : ph2 y = 0 := by unfold ph2; rw [hm, if_pos hb]
    refine (s_l01Phasor_big hy hb hr).mono ?_
    rintro e w' ⟨rfl, h3⟩
    exact ⟨_, _, rfl, hide (by rw [h1]; decide +kernel), hide (by rw [h2]; decide +kernel), h3⟩
  · have h1 : ph1 y = phRe y := by unfold ph1; rw [hm, if_neg hb]
    have h2 : ph2 y = phIm y := by unfold ph2; rw [hm, if_neg hb]
    refine (s_l01Phasor hy (by omega)).mono ?_
    rintro e w' ⟨x, z, rfl, h3, h4, h5⟩
    exact ⟨_, _, rfl, hide (by rw [h1]; exact h3.out), hide (by rw [h2]; exact h4.out), h5⟩
theorem neg_parts (x : Nat) : Op.negFloat .f64 x % 9223372036854775808 = x % 9223372036854775808 ∧ Op.negFloat .f64 x / 9223372036854775808 % 2 = 1 - x / 9223372036854775808 % 2 := by
  have e : (2 : Nat) ^ 63 = 9223372036854775808 := by decide +kernel
  have hn : Op.negFloat .f64 x = x ^^^ 2 ^ 63 := rfl
  rw [hn, ← e]
  refine ⟨by rw [Nat.xor_mod_two_pow, Nat.mod_self, Nat.xor_zero], ?_⟩
  rw [Nat.xor_div_two_pow, Nat.div_self (Nat.two_pow_pos _)]
  generalize x / 2 ^ 63 = q
  have := Nat.xor_mod_two_pow (a := q) (b := 1) (n := 1)
  simp only [Nat.pow_one] at this
  rw [this]
  rcases Nat.mod_two_eq_zero_or_one q with h | h <;> rw [h] <;> rfl
theorem neg_lt {x : Nat} (h : x < 18446744073709551616) : Op.negFloat .f64 x < 18446744073709551616 := by
  have e : (2 : Nat) ^ 64 = 18446744073709551616 := by decide +kernel
  have hn : Op.negFloat .f64 x = x ^^^ 2 ^ 63 := rfl
  rw [hn, ← e]
  exact Nat.xor_lt_two_pow (by rw [e]; exact h) (Nat.pow_lt_pow_right (by omega) (by omega))
theorem neg_word {s : Bool} {r : Nat} (h : r < 9218868437227405312) : Op.negFloat .f64 (FloatKind.f64.format.word s r) = FloatKind.f64.format.word (!s) r := by
  have hsw : FloatKind.f64.format.signWeight = 9223372036854775808 := by decide +kernel
  obtain ⟨h1, h2⟩ := neg_parts (FloatKind.f64.format.word s r)
  have h3 := neg_lt (word_mod (s := s) h).2
  generalize Op.negFloat .f64 (FloatKind.f64.format.word s r) = N at *
  unfold Ieee.Format.word at *
  rw [hsw] at *
  cases s
  · rw [if_neg (by simp)] at h1 h2
    rw [if_pos (show (!false) = true from rfl)]
    omega
  · rw [if_pos rfl] at h1 h2
    rw [if_neg (by simp)]
    omega
end Go.Proofs.Ytolbibpmngmpdaa

/-
  The line of a signal at some turns: the plain law.
-/
namespace Go.Proofs.Ytolbibpmngmpdaa
open Go.RowKit Mem Fl
set_option linter.unusedVariables false
set_option maxRecDepth 100000

/-- The turns at a place. -/
def lnT (t k : Nat) : Nat := fb .mul .f32 t (floatOfInt .f32 (k : Int))
/-- What the point at these turns is, told. -/
def lnR (t k : Nat) : Nat := if fin .f32 (lnT t k) = true then ph1 (Op.negFloat .f64 (wide (lnT t k))) else nanOf .f32
def lnI (t k : Nat) : Nat := if fin .f32 (lnT t k) = true then ph2 (Op.negFloat .f64 (wide (lnT t k))) else nanOf .f32
def lnS (t : Nat) (xs : List Nat) : Nat → Nat × Nat
  | 0 => (0, 0)
  | k + 1 => (fb .add .f32 (lnS t xs k).1 (fb .mul .f32 (lnR t k) (xs.getD k 0)), fb .add .f32 (lnS t xs k).2 (fb .mul .f32 (lnI t k) (xs.getD k 0)))
theorem fb_nan_l {op : BinOp} {k : FloatKind} {x y : Nat} (h : isNan k x = true) : fb op k x y = nanOf k := by
  unfold fb; rw [floatBits_nan_left h]; exact cn_nan (isNan_nanOf k)
theorem fb_nan_r {op : BinOp} {k : FloatKind} {x y : Nat} (h : isNan k y = true) : fb op k x y = nanOf k := by
  unfold fb; rw [floatBits_nan_right h]; exact cn_nan (isNan_nanOf k)
/-- What is no number once stays so. -/
theorem lnS_nan {t : Nat} {xs : List Nat} {j : Nat} (h : fin .f32 (lnT t j) = false) : ∀ k, j < k → (lnS t xs k).1 = nanOf .f32
  | 0, hk => absurd hk (Nat.not_lt_zero _)
  | k + 1, hk => by
    simp only [lnS]
    rcases Nat.lt_or_ge j k with h1 | h1
    · rw [lnS_nan h k h1]; exact fb_nan_l (isNan_nanOf _)
    · obtain rfl : j = k := by omega
      have hr : lnR t j = nanOf .f32 := by unfold lnR; rw [h, if_neg (by simp)]
      rw [hr, fb_nan_l (isNan_nanOf _)]
      exact fb_nan_r (isNan_nanOf _)
theorem nan_notfin : fin .f32 (nanOf .f32) = false := by decide +kernel
theorem lnS_bad {t : Nat} {xs : List Nat} {j n : Nat} (h : fin .f32 (lnT t j) = false) (hj : j < n) : cfin (lnS t xs n).1 (lnS t xs n).2 = false := by
  unfold cfin; rw [lnS_nan h n hj, nan_notfin]; rfl
/-- A product of numbers is a number, or too great. -/
theorem mul_nonan {k : FloatKind} {a b : Nat} (ha : fin k a = true) (hb : fin k b = true) : isNan k (fb .mul k a b) = false := by
  obtain ⟨s, m, i, ra⟩ := (fin_iff k a).1 ha
  obtain ⟨t, n, j, rb⟩ := (fin_iff k b).1 hb
  rw [mul_read ra rb, isNan_cn]
  exact isNan_nearest' _ _ _ _
theorem int_fin32 : ∀ k : Nat, k < 1000 → fin .f32 (floatOfInt .f32 ((k : Nat) : Int)) = true := by decide +kernel
theorem lnT_word {t k : Nat} (ht : fin .f32 t = true) (hk : k < 1000) (w : World) : flR .mul .f32 t (floatOfInt .f32 (k : Int)) w = lnT t k :=
  flR_bd rfl (mul_nonan ht (int_fin32 k hk)) w
/-- The turns, negated, as a word. -/
theorem neg_turn {a : Nat} (h : fin .f32 a = true) : ∃ s r, Op.negFloat .f64 (wide a) = FloatKind.f64.format.word s r ∧ r < 9218868437227405312 := by
  obtain ⟨s, r, hw, hr⟩ := wide_word h
  exact ⟨!s, r, by rw [hw]; exact neg_word hr, hr⟩
def lnO (xs : List Nat) (t : Nat) : Bool := (isSig xs && fin .f32 t) && cfin (lnS t xs xs.length).1 (lnS t xs xs.length).2
end Go.Proofs.Ytolbibpmngmpdaa

/-
  The point at turns that are no number: the program's walk.
-/
namespace Go.Proofs.Ytolbibpmngmpdaa
open Go.RowKit Mem Fl
set_option linter.unusedVariables false
set_option maxRecDepth 100000

theorem nan_calls {w : World} : Calls Try.prog 112 #[] w fun e w' => e = .returned (.float .f64 9221120237041090561) ∧ w = w' := by
  have hs2 : ∀ w : World, (callFunc 143 #[.int .u64 9221120237041090561]).run Try.prog w = .ok (.value (.float .f64 9221120237041090561)) w := fun w => by
    have h := run_call_frombits64 (P := Try.prog) (f := 143) Try.func143 (by kernel_rfl) (by kernel_rfl) (by kernel_rfl) (by rfl) 9221120237041090561 w
    rwa [show ((9221120237041090561 : Nat) : Int) = 9221120237041090561 from rfl] at h
  go_enter Try.func112, Try.ntmps112
  go_wp2
  go_ret
  exact ⟨rfl, rfl⟩
theorem cvR_nan (W : World) : cn .f32 (cvR .f64 .f32 9221120237041090561 W) = nanOf .f32 := by
  have h : isNan .f64 9221120237041090561 = true := by decide +kernel
  rw [cn_cvR64 (.inl h)]
  unfold nar
  rw [cvBits_nan64 h]
  exact cn_nan (isNan_nanOf _)
theorem i_PhasorOf_nan {z : Nat} {w : World} (h : fin .f64 z = false) :
    Calls Try.prog 85 #[.float .f64 z] w fun e w' => ∃ a b, e = .returned (.complex .f32 a b) ∧ Hid (cn .f32 a = nanOf .f32) ∧ Hid (cn .f32 b = nanOf .f32) ∧ ∃ m, w' = w.drewN m := by
  go_enter Try.func85, Try.ntmps85
  go_wp2_with (first
    | (go_at_call 123; refine (i_isFinite64 _ _).mono ?_; rintro e w' ⟨rfl, m1, rfl⟩; rw [h])
    | (go_at_call 112; refine nan_calls.mono ?_; rintro e w' ⟨rfl, rfl⟩))
  go_ret
  exact ⟨_, _, rfl, hide (cvR_nan _), hide (cvR_nan _), _, rfl⟩
/-- What is neither a number nor no number is infinite, in both widths. -/
theorem wide_notfin {x : Nat} (h : fin .f32 x = false) (hn : isNan .f32 x = false) (W : World) : fin .f64 (Op.negFloat .f64 (cvR .f32 .f64 x W)) = false := by
  have hr : ∃ s, FloatKind.f32.format.read x = .infinity s := by
    cases hr : FloatKind.f32.format.read x with
    | nan s t => unfold isNan at hn; rw [hr] at hn; cases hn
    | number s m i =>
      have := (fin_iff .f32 x).2 ⟨_, _, _, hr⟩
      rw [h] at this; cases this
    | infinity s => exact ⟨s, rfl⟩
  obtain ⟨s, hr⟩ := hr
  have hd : FloatKind.f32.decode x = .infinity s := hr
  have hc : cvR .f32 .f64 x W = FloatKind.f64.encode (.infinity s) := by
    have : cvBits .f32 .f64 x = some (FloatKind.f64.encode (.infinity s)) := by simp [cvBits, hd]
    unfold cvR; rw [this]; rfl
  rw [hc]
  cases s <;> decide +kernel
end Go.Proofs.Ytolbibpmngmpdaa

/-
  The line of a signal at some turns: the program's walk.
-/
namespace Go.Proofs.Ytolbibpmngmpdaa
open Go.RowKit Mem Fl
set_option linter.unusedVariables false
set_option maxRecDepth 100000

/-- What a line looks like. -/
def LnR (xs : List Nat) (t : Nat) (e : Ending) : Prop := ∃ a b, e = .returned (.tuple #[.complex .f32 a b, .bool (lnO xs t)]) ∧ cn .f32 a = (if lnO xs t = true then (lnS t xs xs.length).1 else 0) ∧ cn .f32 b = (if lnO xs t = true then (lnS t xs xs.length).2 else 0)
theorem LnR.no {xs : List Nat} {t : Nat} (h : lnO xs t = false) : LnR xs t (.returned (.tuple #[.complex .f32 0 0, .bool false])) := by
  unfold LnR; rw [h, if_neg (by simp), if_neg (by simp)]; exact ⟨0, 0, rfl, cn_zero, cn_zero⟩
theorem LnR.yes {xs : List Nat} {t a b : Nat} (h : lnO xs t = true) (ha : cn .f32 a = (lnS t xs xs.length).1) (hb : cn .f32 b = (lnS t xs xs.length).2) : LnR xs t (.returned (.tuple #[.complex .f32 a b, .bool true])) := by
  unfold LnR; rw [h, if_pos rfl, if_pos rfl]; exact ⟨a, b, rfl, ha, hb⟩
theorem ln_step {t : Nat} {xs : List Nat} {k x : Nat} (hx : xs[k]? = some x) : lnS t xs (k + 1) = (fb .add .f32 (lnS t xs k).1 (fb .mul .f32 (lnR t k) x), fb .add .f32 (lnS t xs k).2 (fb .mul .f32 (lnI t k) x)) := by
  have : xs.getD k 0 = x := by rw [List.getD_eq_getElem?_getD, hx]; rfl
  rw [lnS, this]
/-- The program's point at a place. -/
theorem i_point {t k : Nat} {w : World} (ht : fin .f32 t = true) (hk : k < 1000) (W : World) : Calls Try.prog 85 #[.float .f64 (Op.negFloat .f64 (cvR .f32 .f64 (lnT t k) W))] w fun e w' => ∃ a b, e = .returned (.complex .f32 a b) ∧ Hid (cn .f32 a = lnR t k) ∧ Hid (cn .f32 b = lnI t k) ∧ ∃ m, w' = w.drewN m := by
  cases hf : fin .f32 (lnT t k) with
  | true =>
    rw [cvR_fin hf]
    obtain ⟨s, r, hw, hr⟩ := neg_turn hf
    refine (i_PhN hw hr).mono ?_
    rintro e w' ⟨a, b, h1, h2, h3, h4⟩
    exact ⟨a, b, h1, hide (by unfold lnR; rw [hf, if_pos rfl]; exact h2.out), hide (by unfold lnI; rw [hf, if_pos rfl]; exact h3.out), h4⟩
  | false =>
    refine (i_PhasorOf_nan (wide_notfin hf (mul_nonan ht (int_fin32 k hk)) W)).mono ?_
    rintro e w' ⟨a, b, h1, h2, h3, h4⟩
    exact ⟨a, b, h1, hide (by unfold lnR; rw [hf, if_neg (by simp)]; exact h2.out), hide (by unfold lnI; rw [hf, if_neg (by simp)]; exact h3.out), h4⟩
set_option maxHeartbeats 2000000 in
theorem i_LineAt {A : Option Addr} {n c : Nat} {xs : List Nat} {t : Nat} {w : World} (h : Reads w w.heap.size 1 A n (fl .f32 xs)) (hn : n ≤ maxLen) :
    Calls Try.prog 48 #[.slice A n c, .float .f32 t] w fun e w' => LnR xs t e ∧ ∃ m, w' = w.drewN m := by
  have Hl := hide h.map_len
  have hp : Hid (lnO xs t = ((isSig xs && fin .f32 t) && cfin (lnS t xs xs.length).1 (lnS t xs xs.length).2)) := hide rfl
  cases h1 : isSig xs with
  | false =>
    have HN : Hid (lnO xs t = false) := hide (by rw [hp.out, h1]; rfl)
    go_enter Try.func48, Try.ntmps48
    go_wp2_with (go_at_call 45; refine (i_IsSignal _ _ _ xs _ _ h hn).mono ?_; rintro e w' ⟨rfl, m1, rfl⟩; rw [h1])
    go_ret2
    exact ⟨LnR.no HN.out, _, rfl⟩
  | true =>
    cases h2 : fin .f32 t with
    | false =>
      have HN : Hid (lnO xs t = false) := hide (by rw [hp.out, h1, h2]; rfl)
      go_enter Try.func48, Try.ntmps48
      go_wp2_with (first
        | (go_at_call 45; refine (i_IsSignal _ _ _ xs _ _ h hn).mono ?_; rintro e w' ⟨rfl, m1, rfl⟩; rw [h1])
        | (go_at_call 64; refine (i_IsFinite _ _).mono ?_; rintro e w' ⟨rfl, m2, rfl⟩; rw [h2]))
      go_ret2
      exact ⟨LnR.no HN.out, _, rfl⟩
    | true =>
      have hlen := (isSig_len h1).2
      rw [Hl.out] at hlen
      have HO : Hid (lnO xs t = cfin (lnS t xs n).1 (lnS t xs n).2) := hide (by rw [hp.out, h1, h2, Hl.out]; rfl)
      have HP : Hid (∀ k, k < 1000 → ∀ W w, _) := hide (fun k hk W w => i_point (k := k) (w := w) h2 hk W)
      have HT : Hid (∀ k, k < 1000 → ∀ W, _) := hide (fun k hk W => lnT_word (k := k) h2 hk W)
      clear hp
      go_enter Try.func48, Try.ntmps48
      go_wp2_with (first
        | (go_at_call 45; refine (i_IsSignal _ _ _ xs _ _ h hn).mono ?_; rintro e w' ⟨rfl, m1, rfl⟩; rw [h1])
        | (go_at_call 64; refine (i_IsFinite _ _).mono ?_; rintro e w' ⟨rfl, m2, rfl⟩; rw [h2]))
      clear h1 h2
      go_loopw [6, 19] (fun s i wr => ∃ k a b m : Nat, k ≤ n ∧ i = .int .i64 k ∧ s = .complex .f32 a b ∧ Hid (cn .f32 a = (lnS t xs k).1) ∧ Hid (cn .f32 b = (lnS t xs k).2) ∧ wr = w.drewN m) (fun _ i _ => n - (intOf i).toNat)
      case atStart => exact ⟨0, 0, 0, _, Nat.zero_le _, rfl, rfl, hide cn_zero, hide cn_zero, rfl⟩
      case round =>
        obtain ⟨k, a, b, m, hk, rfl, rfl, ha, hb, rfl⟩ := hrel
        by_cases hk2 : k < n
        · obtain ⟨ad, x, rfl, _, hx, hc⟩ := h.map_at hk2
          have hkI : (k : Int) < (n : Int) := by omega
          have HS := hide (ln_step (t := t) hx)
          have HTk := hide (HT.out k (by omega))
          have HPk := hide (HP.out k (by omega))
          clear hx
          go_wp2_with (first
            | (go_at_call 85; rw [HTk.out]; refine (HPk.out _ _).mono ?_; rintro e w' ⟨p, q, rfl, h3, h4, m3, rfl⟩)
            | (go_at_call 100; refine (i_ScaleComplex h3.out h4.out).mono ?_; rintro e w' ⟨p2, q2, rfl, h5, h6, m4, rfl⟩)
            | (go_at_call 98; refine (i_plus ha.out hb.out h5.out h6.out).mono ?_; rintro e w' ⟨p3, q3, rfl, h7, h8, m5, rfl⟩))
          go_roundw
          case rel => exact ⟨k + 1, p3, q3, _, by omega, by go_num, rfl, hide (by rw [HS.out]; exact h7.out), hide (by rw [HS.out]; exact h8.out), rfl⟩
          case measure => (simp [intOf]; try omega)
        · obtain rfl : k = n := by omega
          have hkI : ¬ (k : Int) < (k : Int) := by omega
          have hcf : cfin a b = lnO xs t := by rw [HO.out]; unfold cfin; rw [← fin_cn .f32 a, ← fin_cn .f32 b, ha.out, hb.out]
          cases ho : lnO xs t with
          | false =>
            rw [ho] at hcf
            have HN := hide ho
            go_wp2_with (go_at_call 101; refine i_IsFiniteComplex.mono ?_; rintro e w' ⟨rfl, m6, rfl⟩; rw [hcf])
            go_ret2
            exact ⟨LnR.no HN.out, _, rfl⟩
          | true =>
            rw [ho] at hcf
            have HN := hide ho
            go_wp2_with (go_at_call 101; refine i_IsFiniteComplex.mono ?_; rintro e w' ⟨rfl, m6, rfl⟩; rw [hcf])
            go_ret2
            exact ⟨LnR.yes HN.out (by rw [Hl.out]; exact ha.out) (by rw [Hl.out]; exact hb.out), _, rfl⟩
end Go.Proofs.Ytolbibpmngmpdaa

/-
  The line of a signal at some turns: the reference's walk.
-/
namespace Go.Proofs.Ytolbibpmngmpdaa
open Go.RowKit Mem Fl
set_option linter.unusedVariables false
set_option maxRecDepth 100000

/-- The reference's point at a place whose turns are a number. -/
theorem s_point {t k : Nat} {w : World} (hf : fin .f32 (lnT t k) = true) (W : World) : Calls Try.prog 140 #[.float .f64 (Op.negFloat .f64 (cvR .f32 .f64 (lnT t k) W))] w fun e w' => ∃ a b, e = .returned (.complex .f32 a b) ∧ Hid (cn .f32 a = lnR t k) ∧ Hid (cn .f32 b = lnI t k) ∧ ∃ m, w' = w.drewN m := by
  rw [cvR_fin hf]
  obtain ⟨s, r, hw, hr⟩ := neg_turn hf
  refine (s_PhN hw hr).mono ?_
  rintro e w' ⟨a, b, h1, h2, h3, h4⟩
  exact ⟨a, b, h1, hide (by unfold lnR; rw [hf, if_pos rfl]; exact h2.out), hide (by unfold lnI; rw [hf, if_pos rfl]; exact h3.out), h4⟩
end Go.Proofs.Ytolbibpmngmpdaa
