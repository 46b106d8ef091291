/-
  The line of a signal at some turns: the program's walk.
-/
import Derived.Test.YthfdgffgihjglaaLinN
namespace Go.Proofs.Ythfdgffgihjglaa
open Go.RowKit Mem Fl
set_option linter.unusedVariables false
set_option maxRecDepth 100000

/-- What a line looks like. -/
def LnR (xs : List Nat) (t : Nat) (e : Ending) : Prop := ∃ a b, e = .returned (.tuple #[.complex .f32 a b, .bool (lnO xs t)]) ∧ cn .f32 a = (if lnO xs t = true then (lnS t xs xs.length).1 else 0) ∧ cn .f32 b = (if lnO xs t = true then (lnS t xs xs.length).2 else 0)
theorem LnR.no {xs : List Nat} {t : Nat} (h : lnO xs t = false) : LnR xs t (.returned (.tuple #[.complex .f32 0 0, .bool false])) := by
  unfold LnR; rw [h, if_neg (by simp), if_neg (by simp)]; exact ⟨0, 0, rfl, cn_zero, cn_zero⟩
theorem LnR.yes {xs : List Nat} {t a b : Nat} (h : lnO xs t = true) (ha : cn .f32 a = (lnS t xs xs.length).1) (hb : cn .f32 b = (lnS t xs xs.length).2) : LnR xs t (.returned (.tuple #[.complex .f32 a b, .bool true])) := by
  unfold LnR; rw [h, if_pos rfl, if_pos rfl]; exact ⟨a, b, rfl, ha, hb⟩
theorem ln_step {t : Nat} {xs : List Nat} {k x : Nat} (hx : xs[k]? = some x) : lnS t xs (k + 1) = (fb .add .f32 (lnS t xs k).1 (fb .mul .f32 (lnR t k) x), fb .add .f32 (lnS t xs k).2 (fb .mul .f32 (lnI t k) x)) := by
  have : xs.getD k 0 = x := by rw [List.getD_eq_getElem?_getD, hx]; rfl
  rw [lnS, this]
/-- The program's point at a place. -/
theorem i_point {t k : Nat} {w : World} (ht : fin .f32 t = true) (hk : k < 1000) (W : World) : Calls Try.prog 80 #[.float .f64 (Op.negFloat .f64 (cvR .f32 .f64 (lnT t k) W))] w fun e w' => ∃ a b, e = .returned (.complex .f32 a b) ∧ Hid (cn .f32 a = lnR t k) ∧ Hid (cn .f32 b = lnI t k) ∧ ∃ m, w' = w.drewN m := by
  cases hf : fin .f32 (lnT t k) with
  | true =>
    rw [cvR_fin hf]
    obtain ⟨s, r, hw, hr⟩ := neg_turn hf
    refine (i_PhN hw hr).mono ?_
    rintro e w' ⟨a, b, h1, h2, h3, h4⟩
    exact ⟨a, b, h1, hide (by unfold lnR; rw [hf, if_pos rfl]; exact h2.out), hide (by unfold lnI; rw [hf, if_pos rfl]; exact h3.out), h4⟩
  | false =>
    refine (i_PhasorOf_nan (wide_notfin hf (mul_nonan ht (int_fin32 k hk)) W)).mono ?_
    rintro e w' ⟨a, b, h1, h2, h3, h4⟩
    exact ⟨a, b, h1, hide (by unfold lnR; rw [hf, if_neg (by simp)]; exact h2.out), hide (by unfold lnI; rw [hf, if_neg (by simp)]; exact h3.out), h4⟩
set_option maxHeartbeats 2000000 in
theorem i_LineAt {A : Option Addr} {n c : Nat} {xs : List Nat} {t : Nat} {w : World} (h : Reads w w.heap.size 1 A n (fl .f32 xs)) (hn : n ≤ maxLen) :
    Calls Try.prog 31 #[.slice A n c, .float .f32 t] w fun e w' => LnR xs t e ∧ ∃ m, w' = w.drewN m := by
  have Hl := hide h.map_len
  have hp : Hid (lnO xs t = ((isSig xs && fin .f32 t) && cfin (lnS t xs xs.length).1 (lnS t xs xs.length).2)) := hide rfl
  cases h1 : isSig xs with
  | false =>
    have HN : Hid (lnO xs t = false) := hide (by rw [hp.out, h1]; rfl)
    go_enter Try.func31, Try.ntmps31
    go_wp2_with (go_at_call 84; refine (i_IsSignal _ _ _ xs _ _ h hn).mono ?_; rintro e w' ⟨rfl, m1, rfl⟩; rw [h1])
    go_ret2
    exact ⟨LnR.no HN.out, _, rfl⟩
  | true =>
    cases h2 : fin .f32 t with
    | false =>
      have HN : Hid (lnO xs t = false) := hide (by rw [hp.out, h1, h2]; rfl)
      go_enter Try.func31, Try.ntmps31
      go_wp2_with (first
        | (go_at_call 84; refine (i_IsSignal _ _ _ xs _ _ h hn).mono ?_; rintro e w' ⟨rfl, m1, rfl⟩; rw [h1])
        | (go_at_call 79; refine (i_IsFinite _ _).mono ?_; rintro e w' ⟨rfl, m2, rfl⟩; rw [h2]))
      go_ret2
      exact ⟨LnR.no HN.out, _, rfl⟩
    | true =>
      have hlen := (isSig_len h1).2
      rw [Hl.out] at hlen
      have HO : Hid (lnO xs t = cfin (lnS t xs n).1 (lnS t xs n).2) := hide (by rw [hp.out, h1, h2, Hl.out]; rfl)
      have HP : Hid (∀ k, k < 1000 → ∀ W w, _) := hide (fun k hk W w => i_point (k := k) (w := w) h2 hk W)
      have HT : Hid (∀ k, k < 1000 → ∀ W, _) := hide (fun k hk W => lnT_word (k := k) h2 hk W)
      clear hp
      go_enter Try.func31, Try.ntmps31
      go_wp2_with (first
        | (go_at_call 84; refine (i_IsSignal _ _ _ xs _ _ h hn).mono ?_; rintro e w' ⟨rfl, m1, rfl⟩; rw [h1])
        | (go_at_call 79; refine (i_IsFinite _ _).mono ?_; rintro e w' ⟨rfl, m2, rfl⟩; rw [h2]))
      clear h1 h2
      go_loopw [6, 19] (fun s i wr => ∃ k a b m : Nat, k ≤ n ∧ i = .int .i64 k ∧ s = .complex .f32 a b ∧ Hid (cn .f32 a = (lnS t xs k).1) ∧ Hid (cn .f32 b = (lnS t xs k).2) ∧ wr = w.drewN m) (fun _ i _ => n - (intOf i).toNat)
      case atStart => exact ⟨0, 0, 0, _, Nat.zero_le _, rfl, rfl, hide cn_zero, hide cn_zero, rfl⟩
      case round =>
        obtain ⟨k, a, b, m, hk, rfl, rfl, ha, hb, rfl⟩ := hrel
        by_cases hk2 : k < n
        · obtain ⟨ad, x, rfl, _, hx, hc⟩ := h.map_at hk2
          have hkI : (k : Int) < (n : Int) := by omega
          have HS := hide (ln_step (t := t) hx)
          have HTk := hide (HT.out k (by omega))
          have HPk := hide (HP.out k (by omega))
          clear hx
          go_wp2_with (first
            | (go_at_call 80; rw [HTk.out]; refine (HPk.out _ _).mono ?_; rintro e w' ⟨p, q, rfl, h3, h4, m3, rfl⟩)
            | (go_at_call 86; refine (i_ScaleComplex h3.out h4.out).mono ?_; rintro e w' ⟨p2, q2, rfl, h5, h6, m4, rfl⟩)
            | (go_at_call 85; refine (i_plus ha.out hb.out h5.out h6.out).mono ?_; rintro e w' ⟨p3, q3, rfl, h7, h8, m5, rfl⟩))
          go_roundw
          case rel => exact ⟨k + 1, p3, q3, _, by omega, by go_num, rfl, hide (by rw [HS.out]; exact h7.out), hide (by rw [HS.out]; exact h8.out), rfl⟩
          case measure => (simp [intOf]; try omega)
        · obtain rfl : k = n := by omega
          have hkI : ¬ (k : Int) < (k : Int) := by omega
          have hcf : cfin a b = lnO xs t := by rw [HO.out]; unfold cfin; rw [← fin_cn .f32 a, ← fin_cn .f32 b, ha.out, hb.out]
          cases ho : lnO xs t with
          | false =>
            rw [ho] at hcf
            have HN := hide ho
            go_wp2_with (go_at_call 87; refine i_IsFiniteComplex.mono ?_; rintro e w' ⟨rfl, m6, rfl⟩; rw [hcf])
            go_ret2
            exact ⟨LnR.no HN.out, _, rfl⟩
          | true =>
            rw [ho] at hcf
            have HN := hide ho
            go_wp2_with (go_at_call 87; refine i_IsFiniteComplex.mono ?_; rintro e w' ⟨rfl, m6, rfl⟩; rw [hcf])
            go_ret2
            exact ⟨LnR.yes HN.out (by rw [Hl.out]; exact ha.out) (by rw [Hl.out]; exact hb.out), _, rfl⟩
end Go.Proofs.Ythfdgffgihjglaa
