/-
  The line of a signal at some turns: the plain law.
-/
import Derived.Test.YteabfkgbakoljaaPhN
import Derived.Test.YteabfkgbakoljaaSeqI
namespace Go.Proofs.Yteabfkgbakoljaa
open Go.RowKit Mem Fl
set_option linter.unusedVariables false
set_option maxRecDepth 100000

/-- The turns at a place. -/
def lnT (t k : Nat) : Nat := fb .mul .f32 t (floatOfInt .f32 (k : Int))
/-- What the point at these turns is, told. -/
def lnR (t k : Nat) : Nat := if fin .f32 (lnT t k) = true then ph1 (Op.negFloat .f64 (wide (lnT t k))) else nanOf .f32
def lnI (t k : Nat) : Nat := if fin .f32 (lnT t k) = true then ph2 (Op.negFloat .f64 (wide (lnT t k))) else nanOf .f32
def lnS (t : Nat) (xs : List Nat) : Nat → Nat × Nat
  | 0 => (0, 0)
  | k + 1 => (fb .add .f32 (lnS t xs k).1 (fb .mul .f32 (lnR t k) (xs.getD k 0)), fb .add .f32 (lnS t xs k).2 (fb .mul .f32 (lnI t k) (xs.getD k 0)))
theorem fb_nan_l {op : BinOp} {k : FloatKind} {x y : Nat} (h : isNan k x = true) : fb op k x y = nanOf k := by
  unfold fb; rw [floatBits_nan_left h]; exact cn_nan (isNan_nanOf k)
theorem fb_nan_r {op : BinOp} {k : FloatKind} {x y : Nat} (h : isNan k y = true) : fb op k x y = nanOf k := by
  unfold fb; rw [floatBits_nan_right h]; exact cn_nan (isNan_nanOf k)
/-- What is no number once stays so. -/
theorem lnS_nan {t : Nat} {xs : List Nat} {j : Nat} (h : fin .f32 (lnT t j) = false) : ∀ k, j < k → (lnS t xs k).1 = nanOf .f32
  | 0, hk => absurd hk (Nat.not_lt_zero _)
  | k + 1, hk => by
    simp only [lnS]
    rcases Nat.lt_or_ge j k with h1 | h1
    · rw [lnS_nan h k h1]; exact fb_nan_l (isNan_nanOf _)
    · obtain rfl : j = k := by omega
      have hr : lnR t j = nanOf .f32 := by unfold lnR; rw [h, if_neg (by simp)]
      rw [hr, fb_nan_l (isNan_nanOf _)]
      exact fb_nan_r (isNan_nanOf _)
theorem nan_notfin : fin .f32 (nanOf .f32) = false := by decide +kernel
theorem lnS_bad {t : Nat} {xs : List Nat} {j n : Nat} (h : fin .f32 (lnT t j) = false) (hj : j < n) : cfin (lnS t xs n).1 (lnS t xs n).2 = false := by
  unfold cfin; rw [lnS_nan h n hj, nan_notfin]; rfl
/-- A product of numbers is a number, or too great. -/
theorem mul_nonan {k : FloatKind} {a b : Nat} (ha : fin k a = true) (hb : fin k b = true) : isNan k (fb .mul k a b) = false := by
  obtain ⟨s, m, i, ra⟩ := (fin_iff k a).1 ha
  obtain ⟨t, n, j, rb⟩ := (fin_iff k b).1 hb
  rw [mul_read ra rb, isNan_cn]
  exact isNan_nearest' _ _ _ _
theorem int_fin32 : ∀ k : Nat, k < 1000 → fin .f32 (floatOfInt .f32 ((k : Nat) : Int)) = true := by decide +kernel
theorem lnT_word {t k : Nat} (ht : fin .f32 t = true) (hk : k < 1000) (w : World) : flR .mul .f32 t (floatOfInt .f32 (k : Int)) w = lnT t k :=
  flR_bd rfl (mul_nonan ht (int_fin32 k hk)) w
/-- The turns, negated, as a word. -/
theorem neg_turn {a : Nat} (h : fin .f32 a = true) : ∃ s r, Op.negFloat .f64 (wide a) = FloatKind.f64.format.word s r ∧ r < 9218868437227405312 := by
  obtain ⟨s, r, hw, hr⟩ := wide_word h
  exact ⟨!s, r, by rw [hw]; exact neg_word hr, hr⟩
def lnO (xs : List Nat) (t : Nat) : Bool := (isSig xs && fin .f32 t) && cfin (lnS t xs xs.length).1 (lnS t xs xs.length).2
end Go.Proofs.Yteabfkgbakoljaa

/-
  The point at turns that are no number: the program's walk.
-/
namespace Go.Proofs.Yteabfkgbakoljaa
open Go.RowKit Mem Fl
set_option linter.unusedVariables false
set_option maxRecDepth 100000

theorem nan_calls {w : World} : Calls Try.prog 112 #[] w fun e w' => e = .returned (.float .f64 9221120237041090561) ∧ w = w' := by
  have hs2 : ∀ w : World, (callFunc 143 #[.int .u64 9221120237041090561]).run Try.prog w = .ok (.value (.float .f64 9221120237041090561)) w := fun w => by
    have h := run_call_frombits64 (P := Try.prog) (f := 143) Try.func143 (by kernel_rfl) (by kernel_rfl) (by kernel_rfl) (by rfl) 9221120237041090561 w
    rwa [show ((9221120237041090561 : Nat) : Int) = 9221120237041090561 from rfl] at h
  go_enter Try.func112, Try.ntmps112
  go_wp2
  go_ret
  exact ⟨rfl, rfl⟩
theorem cvR_nan (W : World) : cn .f32 (cvR .f64 .f32 9221120237041090561 W) = nanOf .f32 := by
  have h : isNan .f64 9221120237041090561 = true := by decide +kernel
  rw [cn_cvR64 (.inl h)]
  unfold nar
  rw [cvBits_nan64 h]
  exact cn_nan (isNan_nanOf _)
theorem i_PhasorOf_nan {z : Nat} {w : World} (h : fin .f64 z = false) :
    Calls Try.prog 85 #[.float .f64 z] w fun e w' => ∃ a b, e = .returned (.complex .f32 a b) ∧ Hid (cn .f32 a = nanOf .f32) ∧ Hid (cn .f32 b = nanOf .f32) ∧ ∃ m, w' = w.drewN m := by
  go_enter Try.func85, Try.ntmps85
  go_wp2_with (first
    | (go_at_call 123; refine (i_isFinite64 _ _).mono ?_; rintro e w' ⟨rfl, m1, rfl⟩; rw [h])
    | (go_at_call 112; refine nan_calls.mono ?_; rintro e w' ⟨rfl, rfl⟩))
  go_ret
  exact ⟨_, _, rfl, hide (cvR_nan _), hide (cvR_nan _), _, rfl⟩
/-- What is neither a number nor no number is infinite, in both widths. -/
theorem wide_notfin {x : Nat} (h : fin .f32 x = false) (hn : isNan .f32 x = false) (W : World) : fin .f64 (Op.negFloat .f64 (cvR .f32 .f64 x W)) = false := by
  have hr : ∃ s, FloatKind.f32.format.read x = .infinity s := by
    cases hr : FloatKind.f32.format.read x with
    | nan s t => unfold isNan at hn; rw [hr] at hn; cases hn
    | number s m i =>
      have := (fin_iff .f32 x).2 ⟨_, _, _, hr⟩
      rw [h] at this; cases this
    | infinity s => exact ⟨s, rfl⟩
  obtain ⟨s, hr⟩ := hr
  have hd : FloatKind.f32.decode x = .infinity s := hr
  have hc : cvR .f32 .f64 x W = FloatKind.f64.encode (.infinity s) := by
    have : cvBits .f32 .f64 x = some (FloatKind.f64.encode (.infinity s)) := by simp [cvBits, hd]
    unfold cvR; rw [this]; rfl
  rw [hc]
  cases s <;> decide +kernel
end Go.Proofs.Yteabfkgbakoljaa

/-
  The line of a signal at some turns: the program's walk.
-/
namespace Go.Proofs.Yteabfkgbakoljaa
open Go.RowKit Mem Fl
set_option linter.unusedVariables false
set_option maxRecDepth 100000

/-- What a line looks like. -/
def LnR (xs : List Nat) (t : Nat) (e : Ending) : Prop := ∃ a b, e = .returned (.tuple #[.complex .f32 a b, .bool (lnO xs t)]) ∧ cn .f32 a = (if lnO xs t = true then (lnS t xs xs.length).1 else 0) ∧ cn .f32 b = (if lnO xs t = true then (lnS t xs xs.length).2 else 0)
theorem LnR.no {xs : List Nat} {t : Nat} (h : lnO xs t = false) : LnR xs t (.returned (.tuple #[.complex .f32 0 0, .bool false])) := by
  unfold LnR; rw [h, if_neg (by simp), if_neg (by simp)]; exact ⟨0, 0, rfl, cn_zero, cn_zero⟩
theorem LnR.yes {xs : List Nat} {t a b : Nat} (h : lnO xs t = true) (ha : cn .f32 a = (lnS t xs xs.length).1) (hb : cn .f32 b = (lnS t xs xs.length).2) : LnR xs t (.returned (.tuple #[.complex .f32 a b, .bool true])) := by
  unfold LnR; rw [h, if_pos rfl, if_pos rfl]; exact ⟨a, b, rfl, ha, hb⟩
theorem ln_step {t : Nat} {xs : List Nat} {k x : Nat} (hx : xs[k]? = some x) : lnS t xs (k + 1) = (fb .add .f32 (lnS t xs k).1 (fb .mul .f32 (lnR t k) x), fb .add .f32 (lnS t xs k).2 (fb .mul .f32 (lnI t k) x)) := by
  have : xs.getD k 0 = x := by rw [List.getD_eq_getElem?_getD, hx]; rfl
  rw [lnS, this]
/-- The program's point at a place. -/
theorem i_point {t k : Nat} {w : World} (ht : fin .f32 t = true) (hk : k < 1000) (W : World) : Calls Try.prog 85 #[.float .f64 (Op.negFloat .f64 (cvR .f32 .f64 (lnT t k) W))] w fun e w' => ∃ a b, e = .returned (.complex .f32 a b) ∧ Hid (cn .f32 a = lnR t k) ∧ Hid (cn .f32 b = lnI t k) ∧ ∃ m, w' = w.drewN m := by
  cases hf : fin .f32 (lnT t k) with
  | true =>
    rw [cvR_fin hf]
    obtain ⟨s, r, hw, hr⟩ := neg_turn hf
    refine (i_PhN hw hr).mono ?_
    rintro e w' ⟨a, b, h1, h2, h3, h4⟩
    exact ⟨a, b, h1, hide (by unfold lnR; rw [hf, if_pos rfl]; exact h2.out), hide (by unfold lnI; rw [hf, if_pos rfl]; exact h3.out), h4⟩
  | false =>
    refine (i_PhasorOf_nan (wide_notfin hf (mul_nonan ht (int_fin32 k hk)) W)).mono ?_
    rintro e w' ⟨a, b, h1, h2, h3, h4⟩
    exact ⟨a, b, h1, hide (by unfold lnR; rw [hf, if_neg (by simp)]; exact h2.out), hide (by unfold lnI; rw [hf, if_neg (by simp)]; exact h3.out), h4⟩
set_option maxHeartbeats 2000000 in
theorem i_LineAt {A : Option Addr} {n c : Nat} {xs : List Nat} {t : Nat} {w : World} (h : Reads w w.heap.size 1 A n (fl .f32 xs)) (hn : n ≤ maxLen) :
    Calls Try.prog 48 #[.slice A n c, .float .f32 t] w fun e w' => LnR xs t e ∧ ∃ m, w' = w.drewN m := by
  have Hl := hide h.map_len
  have hp : Hid (lnO xs t = ((isSig xs && fin .f32 t) && cfin (lnS t xs xs.length).1 (lnS t xs xs.length).2)) := hide rfl
  cases h1 : isSig xs with
  | false =>
    have HN : Hid (lnO xs t = false) := hide (by rw [hp.out, h1]; rfl)
    go_enter Try.func48, Try.ntmps48
    go_wp2_with (go_at_call 45; refine (i_IsSignal _ _ _ xs _ _ h hn).mono ?_; rintro e w' ⟨rfl, m1, rfl⟩; rw [h1])
    go_ret2
    exact ⟨LnR.no HN.out, _, rfl⟩
  | true =>
    cases h2 : fin .f32 t with
    | false =>
      have HN : Hid (lnO xs t = false) := hide (by rw [hp.out, h1, h2]; rfl)
      go_enter Try.func48, Try.ntmps48
      go_wp2_with (first
        | (go_at_call 45; refine (i_IsSignal _ _ _ xs _ _ h hn).mono ?_; rintro e w' ⟨rfl, m1, rfl⟩; rw [h1])
        | (go_at_call 64; refine (i_IsFinite _ _).mono ?_; rintro e w' ⟨rfl, m2, rfl⟩; rw [h2]))
      go_ret2
      exact ⟨LnR.no HN.out, _, rfl⟩
    | true =>
      have hlen := (isSig_len h1).2
      rw [Hl.out] at hlen
      have HO : Hid (lnO xs t = cfin (lnS t xs n).1 (lnS t xs n).2) := hide (by rw [hp.out, h1, h2, Hl.out]; rfl)
      have HP : Hid (∀ k, k < 1000 → ∀ W w, _) := hide (fun k hk W w => i_point (k := k) (w := w) h2 hk W)
      have HT : Hid (∀ k, k < 1000 → ∀ W, _) := hide (fun k hk W => lnT_word (k := k) h2 hk W)
      clear hp
      go_enter Try.func48, Try.ntmps48
      go_wp2_with (first
        | (go_at_call 45; refine (i_IsSignal _ _ _ xs _ _ h hn).mono ?_; rintro e w' ⟨rfl, m1, rfl⟩; rw [h1])
        | (go_at_call 64; refine (i_IsFinite _ _).mono ?_; rintro e w' ⟨rfl, m2, rfl⟩; rw [h2]))
      clear h1 h2
      go_loopw [6, 19] (fun s i wr => ∃ k a b m : Nat, k ≤ n ∧ i = .int .i64 k ∧ s = .complex .f32 a b ∧ Hid (cn .f32 a = (lnS t xs k).1) ∧ Hid (cn .f32 b = (lnS t xs k).2) ∧ wr = w.drewN m) (fun _ i _ => n - (intOf i).toNat)
      case atStart => exact ⟨0, 0, 0, _, Nat.zero_le _, rfl, rfl, hide cn_zero, hide cn_zero, rfl⟩
      case round =>
        obtain ⟨k, a, b, m, hk, rfl, rfl, ha, hb, rfl⟩ := hrel
        by_cases hk2 : k < n
        · obtain ⟨ad, x, rfl, _, hx, hc⟩ := h.map_at hk2
          have hkI : (k : Int) < (n : Int) := by omega
          have HS := hide (ln_step (t := t) hx)
          have HTk := hide (HT.out k (by omega))
          have HPk := hide (HP.out k (by omega))
          clear hx
          go_wp2_with (first
            | (go_at_call 85; rw [HTk.out]; refine (HPk.out _ _).mono ?_; rintro e w' ⟨p, q, rfl, h3, h4, m3, rfl⟩)
            | (go_at_call 100; refine (i_ScaleComplex h3.out h4.out).mono ?_; rintro e w' ⟨p2, q2, rfl, h5, h6, m4, rfl⟩)
            | (go_at_call 98; refine (i_plus ha.out hb.out h5.out h6.out).mono ?_; rintro e w' ⟨p3, q3, rfl, h7, h8, m5, rfl⟩))
          go_roundw
          case rel => exact ⟨k + 1, p3, q3, _, by omega, by go_num, rfl, hide (by rw [HS.out]; exact h7.out), hide (by rw [HS.out]; exact h8.out), rfl⟩
          case measure => (simp [intOf]; try omega)
        · obtain rfl : k = n := by omega
          have hkI : ¬ (k : Int) < (k : Int) := by omega
          have hcf : cfin a b = lnO xs t := by rw [HO.out]; unfold cfin; rw [← fin_cn .f32 a, ← fin_cn .f32 b, ha.out, hb.out]
          cases ho : lnO xs t with
          | false =>
            rw [ho] at hcf
            have HN := hide ho
            go_wp2_with (go_at_call 101; refine i_IsFiniteComplex.mono ?_; rintro e w' ⟨rfl, m6, rfl⟩; rw [hcf])
            go_ret2
            exact ⟨LnR.no HN.out, _, rfl⟩
          | true =>
            rw [ho] at hcf
            have HN := hide ho
            go_wp2_with (go_at_call 101; refine i_IsFiniteComplex.mono ?_; rintro e w' ⟨rfl, m6, rfl⟩; rw [hcf])
            go_ret2
            exact ⟨LnR.yes HN.out (by rw [Hl.out]; exact ha.out) (by rw [Hl.out]; exact hb.out), _, rfl⟩
end Go.Proofs.Yteabfkgbakoljaa

/-
  The line of a signal at some turns: the reference's walk.
-/
namespace Go.Proofs.Yteabfkgbakoljaa
open Go.RowKit Mem Fl
set_option linter.unusedVariables false
set_option maxRecDepth 100000

/-- The reference's point at a place whose turns are a number. -/
theorem s_point {t k : Nat} {w : World} (hf : fin .f32 (lnT t k) = true) (W : World) : Calls Try.prog 140 #[.float .f64 (Op.negFloat .f64 (cvR .f32 .f64 (lnT t k) W))] w fun e w' => ∃ a b, e = .returned (.complex .f32 a b) ∧ Hid (cn .f32 a = lnR t k) ∧ Hid (cn .f32 b = lnI t k) ∧ ∃ m, w' = w.drewN m := by
  rw [cvR_fin hf]
  obtain ⟨s, r, hw, hr⟩ := neg_turn hf
  refine (s_PhN hw hr).mono ?_
  rintro e w' ⟨a, b, h1, h2, h3, h4⟩
  exact ⟨a, b, h1, hide (by unfold lnR; rw [hf, if_pos rfl]; exact h2.out), hide (by unfold lnI; rw [hf, if_pos rfl]; exact h3.out), h4⟩
end Go.Proofs.Yteabfkgbakoljaa

/-
  Lists of complex numbers: are they all finite.
-/
namespace Go.Proofs.Yteabfkgbakoljaa
open Go.RowKit Mem Fl
set_option linter.unusedVariables false
set_option maxRecDepth 100000

/-- The cells of a list of complex numbers. -/
abbrev cl (xs : List (Nat × Nat)) : List Value := xs.map (fun p => Value.complex .f32 p.1 p.2)
def cfp (p : Nat × Nat) : Bool := cfin p.1 p.2
def cnp (p : Nat × Nat) : Nat × Nat := (cn .f32 p.1, cn .f32 p.2)
theorem cfp_cnp (p : Nat × Nat) : cfp (cnp p) = cfp p := by unfold cfp cnp cfin; rw [fin_cn, fin_cn]
theorem all_cfp_cn {zs ys : List (Nat × Nat)} (h : zs.map cnp = ys) : zs.all cfp = ys.all cfp := by
  rw [← h, List.all_map]
  congr 1
  funext x
  exact (cfp_cnp x).symm
theorem own_snocC {w : World} {b : Nat} {t : TypeId} {v : Value} {k x y : Nat} {zs : List (Nat × Nat)} (h : w.ownsRow b t 1 v k (cl zs ++ [.complex .f32 x y])) : w.ownsRow b t 1 v k (cl (zs ++ [(x, y)])) := by
  rw [cl, List.map_append]; exact h

set_option maxHeartbeats 400000 in
theorem s_l02CFinite {A : Option Addr} {n c : Nat} {xs : List (Nat × Nat)} {B : Nat} {w : World} (h : Reads w B 1 A n (cl xs)) (hn : n ≤ maxLen) :
    Calls Try.prog 105 #[.slice A n c] w fun e w' => e = .returned (.bool (xs.all cfp)) ∧ ∃ n, w' = w.drewN n := by
  unfold maxLen at hn
  have Hlen := hide h.map_len
  go_enter Try.func105, Try.ntmps105
  go_wp2
  go_loopw [3] (fun i wr => ∃ k m : Nat, k ≤ n ∧ i = .int .i64 k ∧ wr = w.drewN m ∧ Hid ((xs.drop k).all cfp = xs.all cfp)) (fun i _ => n - (intOf i).toNat)
  case atStart => exact ⟨0, 0, Nat.zero_le _, rfl, rfl, rfl⟩
  case round =>
    obtain ⟨k, m, hk, rfl, rfl, ha⟩ := hrel
    by_cases hlt : k < n
    · obtain ⟨ad, x, rfl, _, hx, hc⟩ := h.map_at hlt
      have Hx := hide hx
      clear hx
      obtain ⟨x, y⟩ := x
      simp only at hc
      have Hp : Hid (cfp (x, y) = cfin x y) := hide rfl
      cases hf : cfin x y with
      | false =>
        go_wp2_with (go_at_call 138; refine s_l01CFinite.mono ?_; rintro e w' ⟨rfl, m', rfl⟩; rw [hf])
        go_ret
        exact ⟨ret_bool (by rw [← ha.out, drop_eq Hx.out, List.all_cons, Hp.out, hf]; rfl), _, rfl⟩
      | true =>
        go_wp2_with (go_at_call 138; refine s_l01CFinite.mono ?_; rintro e w' ⟨rfl, m', rfl⟩; rw [hf])
        go_roundw
        case rel => exact ⟨k + 1, _, by omega, by go_num, rfl, by have h1 := ha.out; rw [drop_eq Hx.out, List.all_cons, Hp.out, hf] at h1; exact h1⟩
        case measure => simp [intOf]; omega
    · go_wp2
      go_ret
      refine ⟨ret_bool ?_, _, rfl⟩
      rw [← ha.out, List.drop_of_length_le (by rw [Hlen.out]; omega)]; rfl

theorem areLines_1 {x y : Nat} {w : World} : Calls Try.prog 133 #[.complex .f32 x y] w fun e w' => e = .returned (.bool (!cfin x y)) ∧ ∃ n, w' = w.drewN n := by
  go_enter Try.func133, Try.ntmps133
  go_wp2_with (go_at_call 101; refine i_IsFiniteComplex.mono ?_; rintro e w' ⟨rfl, m', rfl⟩)
  go_ret
  exact ⟨rfl, _, rfl⟩

set_option maxHeartbeats 400000 in
theorem indexFunc_areLines {A : Option Addr} {n c : Nat} {xs : List (Nat × Nat)} {B : Nat} {w : World} (h : Reads w B 1 A n (cl xs)) (hn : n ≤ maxLen) :
    Calls Try.prog 152 #[.slice A n c, .func (.func 133) #[] #[]] w fun e w' => e = .returned (.int .i64 (ixf (fun x => !cfp x) xs)) ∧ ∃ n, w' = w.drewN n := by
  unfold maxLen at hn
  have Hlen := hide h.map_len
  go_enter Try.func152, Try.ntmps152
  go_wp2
  go_loopw [5, 8] (fun _ i wr => ∃ k m : Nat, k ≤ n ∧ i = .int .i64 k ∧ wr = w.drewN m ∧ Hid ((xs.take k).all (fun y => !!cfp y) = true)) (fun _ i _ => n - (intOf i).toNat)
  case atStart => exact ⟨0, 0, Nat.zero_le _, rfl, rfl, rfl⟩
  case round =>
    obtain ⟨k, m, hk, rfl, rfl, ha⟩ := hrel
    by_cases hlt : k < n
    · obtain ⟨ad, x, rfl, _, hx, hc⟩ := h.map_at hlt
      have Hx := hide hx
      clear hx
      obtain ⟨x, y⟩ := x
      simp only at hc
      have Hp : Hid (cfp (x, y) = cfin x y) := hide rfl
      go_wp2_with (go_at_call 133; refine areLines_1.mono ?_; rintro e w' ⟨rfl, m', rfl⟩)
      · rename_i h0
        go_ret
        exact ⟨ret_int (ixf_at Hx.out ha.out (by rw [Hp.out]; exact h0)).symm, _, rfl⟩
      · rename_i h0
        go_roundw
        case rel => exact ⟨k + 1, _, by omega, by go_num, rfl, hide (by rw [take_eq Hx.out, List.all_append, ha.out]; simp at h0; simp [Hp.out, h0])⟩
        case measure => simp [intOf]; omega
    · go_wp2
      go_ret
      refine ⟨ret_int (ixf_none ?_).symm, _, rfl⟩
      rw [← ha.out, List.take_of_length_le (by rw [Hlen.out]; omega)]

theorem containsFunc_areLines {A : Option Addr} {n c : Nat} {xs : List (Nat × Nat)} {B : Nat} {w : World} (h : Reads w B 1 A n (cl xs)) (hn : n ≤ maxLen) :
    Calls Try.prog 132 #[.slice A n c, .func (.func 133) #[] #[]] w fun e w' => e = .returned (.bool (xs.any (fun x => !cfp x))) ∧ ∃ n, w' = w.drewN n := by
  go_enter Try.func132, Try.ntmps132
  go_wp2_with (go_at_call 152; refine (indexFunc_areLines h hn).mono ?_; rintro e w' ⟨rfl, m', rfl⟩)
  go_ret
  refine ⟨ret_bool ?_, _, rfl⟩
  rw [← ixf_ge]

theorem i_areLines {A : Option Addr} {n c : Nat} {xs : List (Nat × Nat)} {B : Nat} {w : World} (h : Reads w B 1 A n (cl xs)) (hn : n ≤ maxLen) :
    Calls Try.prog 94 #[.slice A n c] w fun e w' => e = .returned (.bool (xs.all cfp)) ∧ ∃ n, w' = w.drewN n := by
  go_enter Try.func94, Try.ntmps94
  go_wp2_with (go_at_call 132; refine (containsFunc_areLines h hn).mono ?_; rintro e w' ⟨rfl, m', rfl⟩)
  go_ret
  refine ⟨ret_bool ?_, _, rfl⟩
  rw [List.all_eq_not_any_not]
end Go.Proofs.Yteabfkgbakoljaa

/-
  The lines of a signal: the plain law.
-/
namespace Go.Proofs.Yteabfkgbakoljaa
open Go.RowKit Mem Fl
set_option linter.unusedVariables false
set_option maxRecDepth 100000

/-- The turns of a place on a line. -/
def slQ (n k i : Nat) : Nat := fb .quo .f64 (floatOfInt .f64 ((k : Int) * (i : Int))) (floatOfInt .f64 (n : Int))
def slS (n k : Nat) (xs : List Nat) : Nat → Nat × Nat
  | 0 => (0, 0)
  | i + 1 => (fb .add .f32 (slS n k xs i).1 (fb .mul .f32 (ph1 (Op.negFloat .f64 (slQ n k i))) (xs.getD i 0)), fb .add .f32 (slS n k xs i).2 (fb .mul .f32 (ph2 (Op.negFloat .f64 (slQ n k i))) (xs.getD i 0)))
def slL (xs : List Nat) (m : Nat) : List (Nat × Nat) := (List.range m).map fun k => slS xs.length k xs xs.length
theorem slL_succ (xs : List Nat) (m : Nat) : slL xs (m + 1) = slL xs m ++ [slS xs.length m xs xs.length] := by
  unfold slL; rw [List.range_succ, List.map_append]; rfl
theorem slL_len (xs : List Nat) (m : Nat) : (slL xs m).length = m := by simp [slL]
def slO (xs : List Nat) : Bool := isSig xs && (slL xs (xs.length / 2 + 1)).all cfp
def slV (xs : List Nat) : List (Nat × Nat) := if slO xs = true then slL xs (xs.length / 2 + 1) else []
theorem slV_le (xs : List Nat) : (slV xs).length ≤ 100 := by
  unfold slV
  split
  · rename_i h
    unfold slO at h
    rw [Bool.and_eq_true] at h
    have := (isSig_len h.1).2
    rw [slL_len]; omega
  · simp
theorem sl_num : ∀ j : Nat, j < 4700 → floatOfInt .f64 ((j : Nat) : Int) ≤ pw 13 := by decide +kernel
theorem sl_den : ∀ j : Nat, j < 96 → pw 0 ≤ floatOfInt .f64 ((j + 1 : Nat) : Int) ∧ floatOfInt .f64 ((j + 1 : Nat) : Int) < FloatKind.f64.format.infRung := by decide +kernel
theorem slQ_bd {n k i : Nat} (hn : 1 ≤ n) (hn2 : n ≤ 96) (hk : k ≤ 48) (hi : i ≤ 96) : Bd .f64 (pw 13) (slQ n k i) := by
  have hb : k * i ≤ 48 * 96 := Nat.mul_le_mul hk hi
  have e : (k : Int) * (i : Int) = ((k * i : Nat) : Int) := (Int.natCast_mul k i).symm
  obtain ⟨j, rfl⟩ : ∃ j, n = j + 1 := ⟨n - 1, by omega⟩
  obtain ⟨d1, d2⟩ := sl_den j (by omega)
  unfold slQ
  rw [e]
  exact bd_quo (bd_pos (sl_num _ (by omega)) (by decide +kernel)) ⟨_, rfl, d1, d2⟩ (by decide +kernel) (by decide +kernel) (by decide +kernel)
theorem bd_nan64 {R x : Nat} (h : Bd .f64 R x) : isNan .f64 x = false := by
  obtain ⟨s, r, hr, _⟩ := h.read
  exact num_nan hr
theorem slQ_word {n k i : Nat} (hn : 1 ≤ n) (hn2 : n ≤ 96) (hk : k ≤ 48) (hi : i ≤ 96) (w : World) : flR .quo .f64 (floatOfInt .f64 ((k : Int) * (i : Int))) (floatOfInt .f64 (n : Int)) w = slQ n k i :=
  flR_bd rfl (bd_nan64 (slQ_bd hn hn2 hk hi)) w
theorem sl_neg {n k i : Nat} (hn : 1 ≤ n) (hn2 : n ≤ 96) (hk : k ≤ 48) (hi : i ≤ 96) : ∃ s r, Op.negFloat .f64 (slQ n k i) = FloatKind.f64.format.word s r ∧ r < 9218868437227405312 := by
  obtain ⟨hR, s, r, hw, hr⟩ := slQ_bd hn hn2 hk hi
  have hr2 : r < 9218868437227405312 := Nat.lt_of_le_of_lt hr (by decide +kernel)
  exact ⟨!s, r, by rw [hw]; exact neg_word hr2, hr2⟩
theorem sl_step {n k : Nat} {xs : List Nat} {i x : Nat} (hx : xs[i]? = some x) : slS n k xs (i + 1) = (fb .add .f32 (slS n k xs i).1 (fb .mul .f32 (ph1 (Op.negFloat .f64 (slQ n k i))) x), fb .add .f32 (slS n k xs i).2 (fb .mul .f32 (ph2 (Op.negFloat .f64 (slQ n k i))) x)) := by
  have : xs.getD i 0 = x := by rw [List.getD_eq_getElem?_getD, hx]; rfl
  rw [slS, this]
theorem i_slPoint {n k i : Nat} {w : World} (hn : 1 ≤ n) (hn2 : n ≤ 96) (hk : k ≤ 48) (hi : i ≤ 96) (W : World) : Calls Try.prog 85 #[.float .f64 (Op.negFloat .f64 (flR .quo .f64 (floatOfInt .f64 ((k : Int) * (i : Int))) (floatOfInt .f64 (n : Int)) W))] w fun e w' => ∃ a b, e = .returned (.complex .f32 a b) ∧ Hid (cn .f32 a = ph1 (Op.negFloat .f64 (slQ n k i))) ∧ Hid (cn .f32 b = ph2 (Op.negFloat .f64 (slQ n k i))) ∧ ∃ m, w' = w.drewN m := by
  rw [slQ_word hn hn2 hk hi]
  obtain ⟨s, r, hw, hr⟩ := sl_neg hn hn2 hk hi
  exact i_PhN hw hr
theorem s_slPoint {n k i : Nat} {w : World} (hn : 1 ≤ n) (hn2 : n ≤ 96) (hk : k ≤ 48) (hi : i ≤ 96) (W : World) : Calls Try.prog 140 #[.float .f64 (Op.negFloat .f64 (flR .quo .f64 (floatOfInt .f64 ((k : Int) * (i : Int))) (floatOfInt .f64 (n : Int)) W))] w fun e w' => ∃ a b, e = .returned (.complex .f32 a b) ∧ Hid (cn .f32 a = ph1 (Op.negFloat .f64 (slQ n k i))) ∧ Hid (cn .f32 b = ph2 (Op.negFloat .f64 (slQ n k i))) ∧ ∃ m, w' = w.drewN m := by
  rw [slQ_word hn hn2 hk hi]
  obtain ⟨s, r, hw, hr⟩ := sl_neg hn hn2 hk hi
  exact s_PhN hw hr
end Go.Proofs.Yteabfkgbakoljaa

/-
  Marks of complex numbers: written and held.
-/
namespace Go.Proofs.Yteabfkgbakoljaa
open Go.RowKit Fl Mem
set_option linter.unusedVariables false
set_option maxRecDepth 100000

/-- A mark as a complex number. -/
def mkW (k : Int) : Nat := (cvBits .f64 .f32 (floatOfInt .f64 k)).getD 0
def mkC (k : Int) : Value := .complex .f32 (mkW k) 1065353216
theorem mkW_some : ∀ k : Nat, k < 1001 → cvBits .f64 .f32 (floatOfInt .f64 (k : Int)) = some (mkW (k : Int)) := by decide +kernel
theorem mkW_num : ∀ k : Nat, k < 1001 → isNan .f32 (mkW (k : Int)) = false := by decide +kernel
section
variable {P : Program}
theorem run_floatToFloat_some (s d : FloatKind) (b r : Nat) (w : World) (h : cvBits s d b = some r) : (Conv.floatToFloat s b d).run P w = .ok (.float d r) w := by
  rw [run_floatToFloat_any]
  unfold cvR cvN
  rw [h]
  rfl
theorem run_mkC (src dst : TypeId) (k : Nat) (hk : k < 1001) (hs : (P.underlying src).isSome = true) (hd : P.underlying dst = some (.complex .f32)) (w : World) :
    (convert src dst (.complex .f64 (floatOfInt .f64 (k : Int)) 4607182418800017408)).run P w = .ok (mkC (k : Int)) w := by
  obtain ⟨u, hs'⟩ := Option.isSome_iff_exists.1 hs
  have h1 : ∀ w, (Conv.floatToFloat .f64 (floatOfInt .f64 (k : Int)) .f32).run P w = .ok (.float .f32 (mkW (k : Int))) w := fun w => run_floatToFloat_some _ _ _ _ w (mkW_some k hk)
  have h2 : ∀ w, (Conv.floatToFloat .f64 4607182418800017408 .f32).run P w = .ok (.float .f32 1065353216) w := fun w => run_floatToFloat_some _ _ _ _ w (by decide +kernel)
  cases u <;> simp [convert, run_underlying hs', run_underlying hd, Conv.complexToComplex, h1, h2, mkC]
theorem run_cneq (t : TypeId) (k : FloatKind) (a b : Nat) (ha : isNan k a = false) (hb : isNan k b = false) (w : World) : (binOp .neq t (.complex k a b) (.complex k a b)).run P w = .ok (.bool false) w := by
  have h1 : k.format.order a a = some .eq := by rw [order_self, ha]; rfl
  have h2 : k.format.order b b = some .eq := by rw [order_self, hb]; rfl
  simp [binOp, Op.complexOp, Op.Complex.cmp, Op.floatCmp, h1, h2, asBool]
end
theorem info_c64 : (Try.prog.info? 68).map (fun i => (i.zero, i.size, i.bytes)) = some (some (.complex .f32 0 0), 1, 8) := by kernel_rfl

end Go.Proofs.Yteabfkgbakoljaa

/-
  The lines of a signal: the program's walk.
-/
namespace Go.Proofs.Yteabfkgbakoljaa
open Go.RowKit Mem Fl
set_option linter.unusedVariables false
set_option maxRecDepth 100000

set_option maxHeartbeats 4000000 in
theorem i_lines {A : Option Addr} {n c : Nat} {xs : List Nat} {w : World} (h : Reads w w.heap.size 1 A n (fl .f32 xs)) (h1 : 1 ≤ n) (h96 : n ≤ 96) :
    Calls Try.prog 93 #[.slice A n c] w fun e w' => ∃ A' c' zs, e = .returned (.slice A' (n / 2 + 1) c') ∧
      w'.ownsRow w.heap.size 68 1 (.slice A' (n / 2 + 1) c') (n / 2 + 1) (cl zs) ∧ Hid (zs.map cnp = slL xs (n / 2 + 1)) ∧ Below w.heap.size w w' := by
  have Hl := hide h.map_len
  obtain ⟨m, hm⟩ : ∃ m, n / 2 = m := ⟨_, rfl⟩
  rw [hm]
  have hmI : (n : Int).tdiv 2 = (m : Int) := by rw [← hm]; rfl
  have hm2 : m ≤ 48 := by omega
  have HP : Hid (∀ k i, k ≤ 48 → i ≤ 96 → ∀ W w, _) := hide (fun k i hk hi W w => i_slPoint (n := n) (w := w) h1 h96 hk hi W)
  go_enter Try.func93, Try.ntmps93
  go_wp2
  go_loopw [3, 13] (fun v i wr => ∃ (k : Nat) (zs : List (Nat × Nat)), k ≤ m + 1 ∧ i = .int .i64 k ∧ Hid (zs.map cnp = slL xs k) ∧ Hid (zs.length = k) ∧ wr.ownsRow w.heap.size 68 1 v k (cl zs) ∧ Below w.heap.size w wr) (fun _ i _ => m + 1 - (intOf i).toNat)
  case atStart => exact ⟨0, [], Nat.zero_le _, rfl, hide rfl, hide rfl, own_emp rfl (Nat.le_refl _), (by repeat (first | exact Below.refl _ _ | exact below_drewN (by assumption) _ | refine below_drewN ?_ _ | refine Below.alloc ?_ (by first | (simp; done) | (simp; omega)) _ | assumption))⟩
  case round =>
    obtain ⟨k, zs, hk, rfl, hzs, hzl, hown, hbel⟩ := hrel
    rename World => wo
    have Hown := hide hown
    have hsz := hbel.size
    clear hown
    by_cases hlt : k < m + 1
    · have hlt' : (k : Int) < (m : Int) + 1 := by omega
      go_wp2
      go_loopw [5, 18] (fun s i wr => ∃ j a b q : Nat, j ≤ n ∧ i = .int .i64 j ∧ s = .complex .f32 a b ∧ Hid (cn .f32 a = (slS n k xs j).1) ∧ Hid (cn .f32 b = (slS n k xs j).2) ∧ wr = wo.drewN q) (fun _ i _ => n - (intOf i).toNat)
      case atStart => exact ⟨0, 0, 0, 0, Nat.zero_le _, rfl, rfl, hide cn_zero, hide cn_zero, rfl⟩
      case round =>
        obtain ⟨j, a, b, q, hj, rfl, rfl, ha, hb, rfl⟩ := hrel
        by_cases hjt : j < n
        · obtain ⟨ad, x, rfl, _, hx, hc⟩ := (h.below hbel).map_at hjt
          have HS := hide (sl_step (n := n) (k := k) hx)
          have HPk := hide (HP.out k j (by omega) (by omega))
          have b0 : (0 : Int) ≤ (k : Int) * (j : Int) := by rw [← Int.natCast_mul]; omega
          have b1 : (k : Int) * (j : Int) ≤ 4608 := by
            have : k * j ≤ 48 * 96 := Nat.mul_le_mul (by omega) (by omega)
            rw [← Int.natCast_mul]; omega
          clear hx
          go_wp2_with (first
            | (go_at_call 85; refine (HPk.out _ _).mono ?_; rintro e w' ⟨p, q1, rfl, h3, h4, m3, rfl⟩)
            | (go_at_call 100; refine (i_ScaleComplex h3.out h4.out).mono ?_; rintro e w' ⟨p2, q2, rfl, h5, h6, m4, rfl⟩)
            | (go_at_call 98; refine (i_plus ha.out hb.out h5.out h6.out).mono ?_; rintro e w' ⟨p3, q3, rfl, h7, h8, m5, rfl⟩))
          go_roundw
          case rel => exact ⟨j + 1, p3, q3, _, by omega, by go_num, rfl, hide (by rw [HS.out]; exact h7.out), hide (by rw [HS.out]; exact h8.out), rfl⟩
          case measure => (simp [intOf]; try omega)
        · obtain rfl : j = n := by omega
          have HL := hide (slL_succ xs k)
          go_wp2_with (at_builtin; refine wpList_append1 rfl (.tmp 38) (.tmp 40) 60 rfl w.heap.size 68 (.complex .f32 0 0) _ 8 info_c64 Try.underlying60 rfl rfl _ _ _ rfl (own_drewN Hown.out _) rfl rfl (by omega) (by omega) (by simp; omega) ?_)
          intro v' w' hown' hb'
          have hbel' : Below w.heap.size w w' := (below_drewN hbel _).trans hb'
          have HT := hide (own_snocC hown')
          clear hown' hb'
          go_wp2
          go_roundw
          case rel => exact ⟨k + 1, _, by omega, by go_num, hide (by rw [HL.out, List.map_append, hzs.out, List.map_singleton, cnp, ha.out, hb.out, Hl.out]), hide (by rw [List.length_append, hzl.out]; rfl), HT.out, hbel'⟩
          case measure => simp [intOf]; omega
    · obtain rfl : k = m + 1 := by omega
      obtain ⟨OA, oc, hov⟩ := own_shape Hown.out
      subst hov
      go_wp2
      go_ret
      exact ⟨_, _, zs, rfl, Hown.out, hzs, hbel⟩
end Go.Proofs.Yteabfkgbakoljaa

/-
  The lines of a signal: the reference's walk.
-/
namespace Go.Proofs.Yteabfkgbakoljaa
open Go.RowKit Mem Fl
set_option linter.unusedVariables false
set_option maxRecDepth 100000

set_option maxHeartbeats 4000000 in
theorem s_l07Lines {A : Option Addr} {n c : Nat} {xs : List Nat} {w : World} (h : Reads w w.heap.size 1 A n (fl .f32 xs)) (h1 : 1 ≤ n) (h96 : n ≤ 96) :
    Calls Try.prog 129 #[.slice A n c] w fun e w' => ∃ A' c' zs, e = .returned (.slice A' (n / 2 + 1) c') ∧
      w'.ownsRow w.heap.size 68 1 (.slice A' (n / 2 + 1) c') (n / 2 + 1) (cl zs) ∧ Hid (zs.map cnp = slL xs (n / 2 + 1)) ∧ Below w.heap.size w w' := by
  have Hl := hide h.map_len
  obtain ⟨m, hm⟩ : ∃ m, n / 2 = m := ⟨_, rfl⟩
  rw [hm]
  have hmI : (n : Int).tdiv 2 = (m : Int) := by rw [← hm]; rfl
  have hm2 : m ≤ 48 := by omega
  have HP : Hid (∀ k i, k ≤ 48 → i ≤ 96 → ∀ W w, _) := hide (fun k i hk hi W w => s_slPoint (n := n) (w := w) h1 h96 hk hi W)
  go_enter Try.func129, Try.ntmps129
  go_wp2
  go_loopw [4, 5] (fun v i wr => ∃ (k : Nat) (zs : List (Nat × Nat)), k ≤ m + 1 ∧ i = .int .i64 k ∧ Hid (zs.map cnp = slL xs k) ∧ Hid (zs.length = k) ∧ wr.ownsRow w.heap.size 68 1 v k (cl zs) ∧ Below w.heap.size w wr) (fun _ i _ => m + 1 - (intOf i).toNat)
  case atStart => exact ⟨0, [], Nat.zero_le _, rfl, hide rfl, hide rfl, own_emp rfl (Nat.le_refl _), (by repeat (first | exact Below.refl _ _ | exact below_drewN (by assumption) _ | refine below_drewN ?_ _ | refine Below.alloc ?_ (by first | (simp; done) | (simp; omega)) _ | assumption))⟩
  case round =>
    obtain ⟨k, zs, hk, rfl, hzs, hzl, hown, hbel⟩ := hrel
    rename World => wo
    have Hown := hide hown
    have hsz := hbel.size
    clear hown
    by_cases hlt : k < m + 1
    · have hlt' : (k : Int) ≤ (m : Int) := by omega
      go_wp2
      go_loopw [6, 20] (fun s i wr => ∃ j a b q : Nat, j ≤ n ∧ i = .int .i64 j ∧ s = .complex .f32 a b ∧ Hid (cn .f32 a = (slS n k xs j).1) ∧ Hid (cn .f32 b = (slS n k xs j).2) ∧ wr = wo.drewN q) (fun _ i _ => n - (intOf i).toNat)
      case atStart => exact ⟨0, 0, 0, 0, Nat.zero_le _, rfl, rfl, hide cn_zero, hide cn_zero, rfl⟩
      case round =>
        obtain ⟨j, a, b, q, hj, rfl, rfl, ha, hb, rfl⟩ := hrel
        by_cases hjt : j < n
        · obtain ⟨ad, x, rfl, _, hx, hc⟩ := (h.below hbel).map_at hjt
          have HS := hide (sl_step (n := n) (k := k) hx)
          have HPk := hide (HP.out k j (by omega) (by omega))
          have b0 : (0 : Int) ≤ (k : Int) * (j : Int) := by rw [← Int.natCast_mul]; omega
          have b1 : (k : Int) * (j : Int) ≤ 4608 := by
            have : k * j ≤ 48 * 96 := Nat.mul_le_mul (by omega) (by omega)
            rw [← Int.natCast_mul]; omega
          clear hx
          go_wp2
          go_region_with (first
            | (go_at_call 140; refine (HPk.out _ _).mono ?_; rintro e w' ⟨p, q1, rfl, h3, h4, m3, rfl⟩)
            | (go_at_call 151; refine (s_l01Scale h3.out h4.out).mono ?_; rintro e w' ⟨p2, q2, rfl, h5, h6, m4, rfl⟩))
          all_goals
            go_wp2
            go_roundw
            case rel => exact ⟨j + 1, _, _, _, by omega, by go_num, rfl, hide (by rw [HS.out]; exact plus_told ha.out h5.out _), hide (by rw [HS.out]; exact plus_told hb.out h6.out _), rfl⟩
            case measure => (simp [intOf]; try omega)
        · obtain rfl : j = n := by omega
          have HL := hide (slL_succ xs k)
          go_wp2_with (at_builtin; refine wpList_append1 rfl (.tmp 41) (.tmp 43) 60 rfl w.heap.size 68 (.complex .f32 0 0) _ 8 info_c64 Try.underlying60 rfl rfl _ _ _ rfl (own_drewN Hown.out _) rfl rfl (by omega) (by omega) (by simp; omega) ?_)
          intro v' w' hown' hb'
          have hbel' : Below w.heap.size w w' := (below_drewN hbel _).trans hb'
          have HT := hide (own_snocC hown')
          clear hown' hb'
          go_wp2
          go_roundw
          case rel => exact ⟨k + 1, _, by omega, by go_num, hide (by rw [HL.out, List.map_append, hzs.out, List.map_singleton, cnp, ha.out, hb.out, Hl.out]), hide (by rw [List.length_append, hzl.out]; rfl), HT.out, hbel'⟩
          case measure => simp [intOf]; omega
    · obtain rfl : k = m + 1 := by omega
      have hlt' : ¬ ((m + 1 : Nat) : Int) ≤ (m : Int) := by omega
      obtain ⟨OA, oc, hov⟩ := own_shape Hown.out
      subst hov
      go_wp2
      go_ret
      exact ⟨_, _, rfl, zs, Hown.out, hzs, hbel⟩
end Go.Proofs.Yteabfkgbakoljaa

/-
  The lines of a signal: both sides.
-/
namespace Go.Proofs.Yteabfkgbakoljaa
open Go.RowKit Mem Fl
set_option linter.unusedVariables false
set_option maxRecDepth 100000

theorem slV_no {xs : List Nat} (h : slO xs = false) : slV xs = [] := by unfold slV; rw [h]; rfl
theorem map_len_of {w : World} {b n : Nat} {e : TypeId} {v : Value} {zs : List (Nat × Nat)} (h : w.ownsRow b e 1 v n (cl zs)) : zs.length = n := by
  have := own_len h; simpa [cl] using this
set_option maxHeartbeats 4000000 in
theorem i_SignalLines {A : Option Addr} {n c : Nat} {xs : List Nat} {w : World} (h : Reads w w.heap.size 1 A n (fl .f32 xs)) (hn : n ≤ maxLen) :
    Calls Try.prog 40 #[.slice A n c] w fun e w' => ∃ v zs, e = .returned (.tuple #[v, .bool (slO xs)]) ∧
      w'.ownsRow w.heap.size 68 1 v zs.length (cl zs) ∧ Hid (zs.map cnp = slV xs) ∧ Below w.heap.size w w' := by
  have Hl := hide h.map_len
  cases h1 : isSig xs with
  | false =>
    have e : slO xs = false := by unfold slO; rw [h1]; rfl
    go_enter Try.func40, Try.ntmps40
    go_wp2_with (go_at_call 45; refine (i_IsSignal _ _ _ xs _ _ h hn).mono ?_; rintro e w' ⟨rfl, m1, rfl⟩; rw [h1])
    go_ret2
    exact ⟨_, [], by rw [e]; rfl, own_nil _ _ _ _, hide (by rw [slV_no e]; rfl), (by repeat (first | exact Below.refl _ _ | exact below_drewN (by assumption) _ | refine below_drewN ?_ _ | refine Below.alloc ?_ (by first | (simp; done) | (simp; omega)) _ | assumption))⟩
  | true =>
    have hlen := isSig_len h1
    rw [Hl.out] at hlen
    have Hok : Hid (slO xs = (slL xs (n / 2 + 1)).all cfp) := hide (by unfold slO; rw [h1, Hl.out]; rfl)
    have HV : Hid (slO xs = true → slV xs = slL xs (n / 2 + 1)) := hide (fun h => by unfold slV; rw [if_pos h, Hl.out])
    go_enter Try.func40, Try.ntmps40
    cases hok : slO xs with
    | true =>
      have HO := hide hok
      go_wp2_with (first
        | (go_at_call 45; refine (i_IsSignal _ _ _ xs _ _ h hn).mono ?_; rintro e w' ⟨rfl, m1, rfl⟩; rw [h1])
        | (go_at_call 93; refine (i_lines (h.drewN _) hlen.1 hlen.2).mono ?_; rintro e w2 ⟨OA, oc, zs, rfl, ho, hzs, hb⟩; have HR := hide (Reads.of_own ho); have hzl : Hid (zs.length = n / 2 + 1) := hide (map_len_of ho); have hf : zs.all cfp = true := by rw [all_cfp_cn hzs.out, ← Hok.out, HO.out])
        | (go_at_call 94; refine (i_areLines HR.out (by simp [maxLen]; omega)).mono ?_; rintro e w' ⟨rfl, m', rfl⟩; rw [hf]))
      go_ret2
      exact ⟨_, zs, rfl, by rw [hzl.out]; exact own_drewN ho _, hide (by rw [hzs.out, HV.out HO.out]), below_drewN ((below_drewN (Below.refl w.heap.size w) m1).trans hb) _⟩
    | false =>
      have HO := hide hok
      go_wp2_with (first
        | (go_at_call 45; refine (i_IsSignal _ _ _ xs _ _ h hn).mono ?_; rintro e w' ⟨rfl, m1, rfl⟩; rw [h1])
        | (go_at_call 93; refine (i_lines (h.drewN _) hlen.1 hlen.2).mono ?_; rintro e w2 ⟨OA, oc, zs, rfl, ho, hzs, hb⟩; have HR := hide (Reads.of_own ho); have hf : zs.all cfp = false := by rw [all_cfp_cn hzs.out, ← Hok.out, HO.out])
        | (go_at_call 94; refine (i_areLines HR.out (by simp [maxLen]; omega)).mono ?_; rintro e w' ⟨rfl, m', rfl⟩; rw [hf]))
      go_ret2
      exact ⟨_, [], rfl, own_nil _ _ _ _, hide (by rw [slV_no HO.out]; rfl), below_drewN ((below_drewN (Below.refl w.heap.size w) m1).trans hb) _⟩
set_option maxHeartbeats 4000000 in
theorem s_SignalLines {A : Option Addr} {n c : Nat} {xs : List Nat} {w : World} (h : Reads w w.heap.size 1 A n (fl .f32 xs)) (hn : n ≤ maxLen) :
    Calls Try.prog 88 #[.slice A n c] w fun e w' => ∃ v zs, e = .returned (.tuple #[v, .bool (slO xs)]) ∧
      w'.ownsRow w.heap.size 68 1 v zs.length (cl zs) ∧ Hid (zs.map cnp = slV xs) ∧ Below w.heap.size w w' := by
  have Hl := hide h.map_len
  cases h1 : isSig xs with
  | false =>
    have e : slO xs = false := by unfold slO; rw [h1]; rfl
    go_enter Try.func88, Try.ntmps88
    go_wp2_with (go_at_call 82; refine (s_l07Signal _ _ _ xs _ _ h hn).mono ?_; rintro e w' ⟨rfl, m1, rfl⟩; rw [h1])
    go_ret2
    exact ⟨_, [], by rw [e]; rfl, own_nil _ _ _ _, hide (by rw [slV_no e]; rfl), (by repeat (first | exact Below.refl _ _ | exact below_drewN (by assumption) _ | refine below_drewN ?_ _ | refine Below.alloc ?_ (by first | (simp; done) | (simp; omega)) _ | assumption))⟩
  | true =>
    have hlen := isSig_len h1
    rw [Hl.out] at hlen
    have Hok : Hid (slO xs = (slL xs (n / 2 + 1)).all cfp) := hide (by unfold slO; rw [h1, Hl.out]; rfl)
    have HV : Hid (slO xs = true → slV xs = slL xs (n / 2 + 1)) := hide (fun h => by unfold slV; rw [if_pos h, Hl.out])
    go_enter Try.func88, Try.ntmps88
    cases hok : slO xs with
    | true =>
      have HO := hide hok
      go_wp2_with (first
        | (go_at_call 82; refine (s_l07Signal _ _ _ xs _ _ h hn).mono ?_; rintro e w' ⟨rfl, m1, rfl⟩; rw [h1])
        | (go_at_call 129; refine (s_l07Lines (h.drewN _) hlen.1 hlen.2).mono ?_; rintro e w2 ⟨OA, oc, zs, rfl, ho, hzs, hb⟩; have HR := hide (Reads.of_own ho); have hzl : Hid (zs.length = n / 2 + 1) := hide (map_len_of ho); have hf : zs.all cfp = true := by rw [all_cfp_cn hzs.out, ← Hok.out, HO.out])
        | (go_at_call 105; refine (s_l02CFinite HR.out (by simp [maxLen]; omega)).mono ?_; rintro e w' ⟨rfl, m', rfl⟩; rw [hf]))
      go_ret2
      exact ⟨_, zs, rfl, by rw [hzl.out]; exact own_drewN ho _, hide (by rw [hzs.out, HV.out HO.out]), below_drewN ((below_drewN (Below.refl w.heap.size w) m1).trans hb) _⟩
    | false =>
      have HO := hide hok
      go_wp2_with (first
        | (go_at_call 82; refine (s_l07Signal _ _ _ xs _ _ h hn).mono ?_; rintro e w' ⟨rfl, m1, rfl⟩; rw [h1])
        | (go_at_call 129; refine (s_l07Lines (h.drewN _) hlen.1 hlen.2).mono ?_; rintro e w2 ⟨OA, oc, zs, rfl, ho, hzs, hb⟩; have HR := hide (Reads.of_own ho); have hf : zs.all cfp = false := by rw [all_cfp_cn hzs.out, ← Hok.out, HO.out])
        | (go_at_call 105; refine (s_l02CFinite HR.out (by simp [maxLen]; omega)).mono ?_; rintro e w' ⟨rfl, m', rfl⟩; rw [hf]))
      go_ret2
      exact ⟨_, [], rfl, own_nil _ _ _ _, hide (by rw [slV_no HO.out]; rfl), below_drewN ((below_drewN (Below.refl w.heap.size w) m1).trans hb) _⟩
end Go.Proofs.Yteabfkgbakoljaa
