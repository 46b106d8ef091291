/-
  The line of a signal at some turns: the reference's walk.
-/
import Derived.Test.YthfdgffgihjglaaLinI
namespace Go.Proofs.Ythfdgffgihjglaa
open Go.RowKit Mem Fl
set_option linter.unusedVariables false
set_option maxRecDepth 100000

/-- The reference's point at a place whose turns are a number. -/
theorem s_point {t k : Nat} {w : World} (hf : fin .f32 (lnT t k) = true) (W : World) : Calls Try.prog 77 #[.float .f64 (Op.negFloat .f64 (cvR .f32 .f64 (lnT t k) W))] w fun e w' => ∃ a b, e = .returned (.complex .f32 a b) ∧ Hid (cn .f32 a = lnR t k) ∧ Hid (cn .f32 b = lnI t k) ∧ ∃ m, w' = w.drewN m := by
  rw [cvR_fin hf]
  obtain ⟨s, r, hw, hr⟩ := neg_turn hf
  refine (s_PhN hw hr).mono ?_
  rintro e w' ⟨a, b, h1, h2, h3, h4⟩
  exact ⟨a, b, h1, hide (by unfold lnR; rw [hf, if_pos rfl]; exact h2.out), hide (by unfold lnI; rw [hf, if_pos rfl]; exact h3.out), h4⟩
set_option maxHeartbeats 4000000 in
theorem s_LineAt {A : Option Addr} {n c : Nat} {xs : List Nat} {t : Nat} {w : World} (h : Reads w w.heap.size 1 A n (fl .f32 xs)) (hn : n ≤ maxLen) :
    Calls Try.prog 29 #[.slice A n c, .float .f32 t] w fun e w' => LnR xs t e ∧ ∃ m, w' = w.drewN m := by
  have Hl := hide h.map_len
  have hp : Hid (lnO xs t = ((isSig xs && fin .f32 t) && cfin (lnS t xs xs.length).1 (lnS t xs xs.length).2)) := hide rfl
  cases h1 : isSig xs with
  | false =>
    have HN : Hid (lnO xs t = false) := hide (by rw [hp.out, h1]; rfl)
    go_enter Try.func29, Try.ntmps29
    go_wp2_with (go_at_call 81; refine (s_l07Signal _ _ _ xs _ _ h hn).mono ?_; rintro e w' ⟨rfl, m1, rfl⟩; rw [h1])
    go_ret2
    exact ⟨LnR.no HN.out, _, rfl⟩
  | true =>
    cases h2 : fin .f32 t with
    | false =>
      have HN : Hid (lnO xs t = false) := hide (by rw [hp.out, h1, h2]; rfl)
      go_enter Try.func29, Try.ntmps29
      go_wp2_with (first
        | (go_at_call 81; refine (s_l07Signal _ _ _ xs _ _ h hn).mono ?_; rintro e w' ⟨rfl, m1, rfl⟩; rw [h1])
        | (go_at_call 76; refine (s_l01Finite _ _).mono ?_; rintro e w' ⟨rfl, m2, rfl⟩; rw [h2]))
      go_ret2
      exact ⟨LnR.no HN.out, _, rfl⟩
    | true =>
      have hlen := (isSig_len h1).2
      rw [Hl.out] at hlen
      have HO : Hid (lnO xs t = cfin (lnS t xs n).1 (lnS t xs n).2) := hide (by rw [hp.out, h1, h2, Hl.out]; rfl)
      have HT : Hid (∀ k, k < 1000 → ∀ W, _) := hide (fun k hk W => lnT_word (k := k) h2 hk W)
      clear hp
      go_enter Try.func29, Try.ntmps29
      go_wp2_with (first
        | (go_at_call 81; refine (s_l07Signal _ _ _ xs _ _ h hn).mono ?_; rintro e w' ⟨rfl, m1, rfl⟩; rw [h1])
        | (go_at_call 76; refine (s_l01Finite _ _).mono ?_; rintro e w' ⟨rfl, m2, rfl⟩; rw [h2]))
      clear h1 h2
      go_loopw [6, 8, 19] (fun s z i wr => ∃ k a b m : Nat, k ≤ n ∧ i = .int .i64 k ∧ s = .complex .f32 a b ∧ Hid (cn .f32 a = (lnS t xs k).1) ∧ Hid (cn .f32 b = (lnS t xs k).2) ∧ wr = w.drewN m) (fun _ _ i _ => n - (intOf i).toNat)
      case atStart => exact ⟨0, 0, 0, _, Nat.zero_le _, rfl, rfl, hide cn_zero, hide cn_zero, rfl⟩
      case round =>
        obtain ⟨k, a, b, m, hk, rfl, rfl, ha, hb, rfl⟩ := hrel
        by_cases hk2 : k < n
        · obtain ⟨ad, x, rfl, _, hx, hc⟩ := h.map_at hk2
          have hkI : (k : Int) < (n : Int) := by omega
          have HS := hide (ln_step (t := t) hx)
          have HTk := hide (HT.out k (by omega))
          clear hx
          cases hf : fin .f32 (lnT t k) with
          | false =>
            have HN : Hid (lnO xs t = false) := hide (by rw [HO.out]; exact lnS_bad hf hk2)
            clear HS hc
            go_wp2_with (go_at_call 76; rw [HTk.out]; refine (s_l01Finite _ _).mono ?_; rintro e w' ⟨rfl, m2, rfl⟩; rw [hf])
            go_ret2
            exact ⟨LnR.no HN.out, _, rfl⟩
          | true =>
            have HPk := hide (fun W w => s_point (w := w) hf W)
            go_wp2_with (go_at_call 76; rw [HTk.out]; refine (s_l01Finite _ _).mono ?_; rintro e w' ⟨rfl, m2, rfl⟩; rw [hf])
            clear hf
            go_region_with (first
              | (go_at_call 77; refine (HPk.out _ _).mono ?_; rintro e w' ⟨p, q, rfl, h3, h4, m3, rfl⟩)
              | (go_at_call 82; refine (s_l01Scale h3.out h4.out).mono ?_; rintro e w' ⟨p2, q2, rfl, h5, h6, m4, rfl⟩))
            all_goals
              go_wp2
              go_roundw
              case rel => exact ⟨k + 1, _, _, _, by omega, by go_num, rfl, hide (by rw [HS.out]; exact plus_told ha.out h5.out _), hide (by rw [HS.out]; exact plus_told hb.out h6.out _), rfl⟩
              case measure => (simp [intOf]; try omega)
        · obtain rfl : k = n := by omega
          have hkI : ¬ (k : Int) < (k : Int) := by omega
          have hcf : cfin a b = lnO xs t := by rw [HO.out]; unfold cfin; rw [← fin_cn .f32 a, ← fin_cn .f32 b, ha.out, hb.out]
          cases ho : lnO xs t with
          | false =>
            rw [ho] at hcf
            have HN := hide ho
            go_wp2_with (go_at_call 83; refine s_l01CFinite.mono ?_; rintro e w' ⟨rfl, m6, rfl⟩; rw [hcf])
            go_ret2
            exact ⟨LnR.no HN.out, _, rfl⟩
          | true =>
            rw [ho] at hcf
            have HN := hide ho
            go_wp2_with (go_at_call 83; refine s_l01CFinite.mono ?_; rintro e w' ⟨rfl, m6, rfl⟩; rw [hcf])
            go_ret2
            exact ⟨LnR.yes HN.out (by rw [Hl.out]; exact ha.out) (by rw [Hl.out]; exact hb.out), _, rfl⟩
end Go.Proofs.Ythfdgffgihjglaa
