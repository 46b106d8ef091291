/-
  The point of the unit circle at some turns: the reference's walk at turns that are not great.
-/
import Derived.Test.YthfdgffgihjglaaPhY
namespace Go.Proofs.Ythfdgffgihjglaa
open Go.RowKit Mem Fl
set_option linter.unusedVariables false
set_option maxRecDepth 100000

set_option maxHeartbeats 8000000 in
theorem s_l01Phasor {s : Bool} {r y : Nat} {w : World} (hy : y = FloatKind.f64.format.word s r) (h : r < 4841369599423283200) :
    Calls Try.prog 77 #[.float .f64 y] w fun e w' => ∃ a b, e = .returned (.complex .f32 a b) ∧ Hid (cn .f32 a = phRe y) ∧ Hid (cn .f32 b = phIm y) ∧ ∃ m, w' = w.drewN m := by
  obtain ⟨hI, hfr, hfin⟩ := small_facts (s := s) h
  obtain ⟨g1, g2⟩ := small_ord (s := s) h
  rw [← hy] at hI hfr hfin g1 g2
  have hne := fin_ne hfin
  have hcv := conv_int hI
  have hp : frV y = if (FloatKind.f64.format.order (fb .sub .f64 y (floatOfInt .f64 (frT y))) 0 == some .lt) = true then fb .add .f64 (fb .sub .f64 y (floatOfInt .f64 (frT y))) 4607182418800017408 else fb .sub .f64 y (floatOfInt .f64 (frT y)) := rfl
  have hnn := fr_nan hfr (by decide)
  replace hfr := hide hfr
  clear hfin hy h hI
  have hz0 : phI y 0 = frV y := rfl
  generalize frT y = n at *
  cases h1 : (FloatKind.f64.format.order (fb .sub .f64 y (floatOfInt .f64 n)) 0 == some .lt) with
  | true =>
    rw [h1, if_pos rfl] at hp
    have HX : Hid (∀ W1 W2, flR .add .f64 (flR .sub .f64 y (floatOfInt .f64 n) W1) 4607182418800017408 W2 = phI y 0) := hide (fun W1 W2 => exact_word (by rw [hz0, hp, cn_flR, ← fb_cnl, cn_flR]) (by rw [hz0]; exact hnn))
    clear hp hnn hz0
    go_enter Try.func77, Try.ntmps77
    go_wp2
    clear g1 g2 hne h1 hcv
    go_loopw [3, 4] (fun f q wr => ∃ j m : Nat, j ≤ 4 ∧ f = .float .f64 (phI y j) ∧ q = .int .i64 (j : Int) ∧ Hid (∀ i, i < j → gq (phI y i) = true) ∧ wr = w.drewN m) (fun _ q _ => 5 - (intOf q).toNat)
    case atStart => exact ⟨0, _, by omega, by rw [HX.out], rfl, hide (fun i hi => absurd hi (Nat.not_lt_zero _)), rfl⟩
    case round =>
      obtain ⟨j, m, hj, rfl, rfl, hall, rfl⟩ := hrel
      have hjI : (j : Int) ≤ 4 := by omega
      cases hgj : gq (phI y j) with
      | true =>
        have hj4 : j < 4 := by
          rcases Nat.lt_or_ge j 4 with h | h
          · exact h
          · obtain rfl : j = 4 := by omega
            rw [gq_end hfr.out hall.out] at hgj
            cases hgj
        have hA2 : Hid (∀ i, i < j + 1 → gq (phI y i) = true) := hide (fun i hi => by
          rcases Nat.lt_or_ge i j with h | h
          · exact hall.out i h
          · obtain rfl : i = j := by omega
            exact hgj)
        have HN : Hid (∀ W, flR .sub .f64 (phI y j) 4598175219545276416 W = phI y (j + 1)) := hide (fun W => flR_bd rfl (phI_nan hfr.out (by omega) hA2.out) W)
        unfold gq at hgj
        go_wp2
        go_roundw
        case rel => exact ⟨j + 1, _, by omega, by rw [HN.out], by go_num, hA2, rfl⟩
        case measure => (simp [intOf]; try omega)
      | false =>
        have hQ := phQ_of hj hall.out hgj
        obtain ⟨fF, fC⟩ := left_fr (phI_cap hfr.out j hj hall.out) (cap_le j) hgj
        have frF := hide fF
        have frC := hide fC
        have HC : Hid (∀ W, flR .sub .f64 4598175219545276416 (phI y j) W = fb .sub .f64 4598175219545276416 (phI y j)) := hide (fun W => flR_bd rfl (fr_nan fC (by decide)) W)
        have hF : Hid (sinV (phI y j) = phS y ∧ sinV (fb .sub .f64 4598175219545276416 (phI y j)) = phC y) := hide (by unfold phS phC phF; rw [hQ]; exact ⟨rfl, rfl⟩)
        have bS := hide (bd_sin fF)
        have bC := hide (bd_sin fC)
        rw [hF.out.1] at bS
        rw [hF.out.2] at bC
        have hR : Hid (phRe y = (if j = 1 then nar (fb .sub .f64 0 (phS y)) else if j = 2 then nar (fb .sub .f64 0 (phC y)) else if j = 3 then nar (phS y) else nar (phC y)) ∧ phIm y = (if j = 1 then nar (phC y) else if j = 2 then nar (fb .sub .f64 0 (phS y)) else if j = 3 then nar (fb .sub .f64 0 (phC y)) else nar (phS y))) := hide (by unfold phRe phIm; rw [hQ]; exact ⟨rfl, rfl⟩)
        have hgk := hgj
        unfold gq at hgk
        clear hgj fF fC hQ hall
        have h5 : j = 0 ∨ j = 1 ∨ j = 2 ∨ j = 3 ∨ j = 4 := by omega
        rcases h5 with rfl | rfl | rfl | rfl | rfl
        · have hA := hR.out.1
          have hB := hR.out.2
          rw [if_neg (by decide), if_neg (by decide), if_neg (by decide)] at hA hB
          replace hA := hide hA
          replace hB := hide hB
          clear hR
          go_wp2_with (first
            | (go_at_call 120; rw [HC.out]; refine (s_l01SineWide frC.out).mono ?_; rintro e w5 ⟨c, rfl, hc, m5, rfl⟩)
            | (go_at_call 120; refine (s_l01SineWide frF.out).mono ?_; rintro e w6 ⟨sv, rfl, hs, m6, rfl⟩)
            | (go_at_call 108; refine s_Narrow.mono ?_; rintro e w7 ⟨rfl, m7, rfl⟩))
          go_ret
          exact ⟨_, _, rfl, hide ((nar_t (hc.out.trans hF.out.2) (nar_sin bC.out) _).trans hA.out.symm), hide ((nar_t (hs.out.trans hF.out.1) (nar_sin bS.out) _).trans hB.out.symm), _, rfl⟩
        · have hA := hR.out.1
          have hB := hR.out.2
          rw [if_pos rfl] at hA hB
          replace hA := hide hA
          replace hB := hide hB
          clear hR
          go_wp2_with (first
            | (go_at_call 120; rw [HC.out]; refine (s_l01SineWide frC.out).mono ?_; rintro e w5 ⟨c, rfl, hc, m5, rfl⟩)
            | (go_at_call 120; refine (s_l01SineWide frF.out).mono ?_; rintro e w6 ⟨sv, rfl, hs, m6, rfl⟩)
            | (go_at_call 108; refine s_Narrow.mono ?_; rintro e w7 ⟨rfl, m7, rfl⟩))
          go_ret
          exact ⟨_, _, rfl, hide ((nar_t (neg_t (hs.out.trans hF.out.1) _) (nar_small (bd_neg bS.out)) _).trans hA.out.symm), hide ((nar_t (hc.out.trans hF.out.2) (nar_sin bC.out) _).trans hB.out.symm), _, rfl⟩
        · have hA := hR.out.1
          have hB := hR.out.2
          rw [if_neg (by decide), if_pos rfl] at hA hB
          replace hA := hide hA
          replace hB := hide hB
          clear hR
          go_wp2_with (first
            | (go_at_call 120; rw [HC.out]; refine (s_l01SineWide frC.out).mono ?_; rintro e w5 ⟨c, rfl, hc, m5, rfl⟩)
            | (go_at_call 120; refine (s_l01SineWide frF.out).mono ?_; rintro e w6 ⟨sv, rfl, hs, m6, rfl⟩)
            | (go_at_call 108; refine s_Narrow.mono ?_; rintro e w7 ⟨rfl, m7, rfl⟩))
          go_ret
          exact ⟨_, _, rfl, hide ((nar_t (neg_t (hc.out.trans hF.out.2) _) (nar_small (bd_neg bC.out)) _).trans hA.out.symm), hide ((nar_t (neg_t (hs.out.trans hF.out.1) _) (nar_small (bd_neg bS.out)) _).trans hB.out.symm), _, rfl⟩
        · have hA := hR.out.1
          have hB := hR.out.2
          rw [if_neg (by decide), if_neg (by decide), if_pos rfl] at hA hB
          replace hA := hide hA
          replace hB := hide hB
          clear hR
          go_wp2_with (first
            | (go_at_call 120; rw [HC.out]; refine (s_l01SineWide frC.out).mono ?_; rintro e w5 ⟨c, rfl, hc, m5, rfl⟩)
            | (go_at_call 120; refine (s_l01SineWide frF.out).mono ?_; rintro e w6 ⟨sv, rfl, hs, m6, rfl⟩)
            | (go_at_call 108; refine s_Narrow.mono ?_; rintro e w7 ⟨rfl, m7, rfl⟩))
          go_ret
          exact ⟨_, _, rfl, hide ((nar_t (hs.out.trans hF.out.1) (nar_sin bS.out) _).trans hA.out.symm), hide ((nar_t (neg_t (hc.out.trans hF.out.2) _) (nar_small (bd_neg bC.out)) _).trans hB.out.symm), _, rfl⟩
        · have hA := hR.out.1
          have hB := hR.out.2
          rw [if_neg (by decide), if_neg (by decide), if_neg (by decide)] at hA hB
          replace hA := hide hA
          replace hB := hide hB
          clear hR
          go_wp2_with (first
            | (go_at_call 120; rw [HC.out]; refine (s_l01SineWide frC.out).mono ?_; rintro e w5 ⟨c, rfl, hc, m5, rfl⟩)
            | (go_at_call 120; refine (s_l01SineWide frF.out).mono ?_; rintro e w6 ⟨sv, rfl, hs, m6, rfl⟩)
            | (go_at_call 108; refine s_Narrow.mono ?_; rintro e w7 ⟨rfl, m7, rfl⟩))
          go_ret
          exact ⟨_, _, rfl, hide ((nar_t (hc.out.trans hF.out.2) (nar_sin bC.out) _).trans hA.out.symm), hide ((nar_t (hs.out.trans hF.out.1) (nar_sin bS.out) _).trans hB.out.symm), _, rfl⟩
  | false =>
    rw [h1, if_neg (by simp)] at hp
    have HX : Hid (∀ W1, flR .sub .f64 y (floatOfInt .f64 n) W1 = phI y 0) := hide (fun W1 => exact_word (by rw [hz0, hp, cn_flR]) (by rw [hz0]; exact hnn))
    clear hp hnn hz0
    go_enter Try.func77, Try.ntmps77
    go_wp2
    clear g1 g2 hne h1 hcv
    go_loopw [3, 4] (fun f q wr => ∃ j m : Nat, j ≤ 4 ∧ f = .float .f64 (phI y j) ∧ q = .int .i64 (j : Int) ∧ Hid (∀ i, i < j → gq (phI y i) = true) ∧ wr = w.drewN m) (fun _ q _ => 5 - (intOf q).toNat)
    case atStart => exact ⟨0, _, by omega, by rw [HX.out], rfl, hide (fun i hi => absurd hi (Nat.not_lt_zero _)), rfl⟩
    case round =>
      obtain ⟨j, m, hj, rfl, rfl, hall, rfl⟩ := hrel
      have hjI : (j : Int) ≤ 4 := by omega
      cases hgj : gq (phI y j) with
      | true =>
        have hj4 : j < 4 := by
          rcases Nat.lt_or_ge j 4 with h | h
          · exact h
          · obtain rfl : j = 4 := by omega
            rw [gq_end hfr.out hall.out] at hgj
            cases hgj
        have hA2 : Hid (∀ i, i < j + 1 → gq (phI y i) = true) := hide (fun i hi => by
          rcases Nat.lt_or_ge i j with h | h
          · exact hall.out i h
          · obtain rfl : i = j := by omega
            exact hgj)
        have HN : Hid (∀ W, flR .sub .f64 (phI y j) 4598175219545276416 W = phI y (j + 1)) := hide (fun W => flR_bd rfl (phI_nan hfr.out (by omega) hA2.out) W)
        unfold gq at hgj
        go_wp2
        go_roundw
        case rel => exact ⟨j + 1, _, by omega, by rw [HN.out], by go_num, hA2, rfl⟩
        case measure => (simp [intOf]; try omega)
      | false =>
        have hQ := phQ_of hj hall.out hgj
        obtain ⟨fF, fC⟩ := left_fr (phI_cap hfr.out j hj hall.out) (cap_le j) hgj
        have frF := hide fF
        have frC := hide fC
        have HC : Hid (∀ W, flR .sub .f64 4598175219545276416 (phI y j) W = fb .sub .f64 4598175219545276416 (phI y j)) := hide (fun W => flR_bd rfl (fr_nan fC (by decide)) W)
        have hF : Hid (sinV (phI y j) = phS y ∧ sinV (fb .sub .f64 4598175219545276416 (phI y j)) = phC y) := hide (by unfold phS phC phF; rw [hQ]; exact ⟨rfl, rfl⟩)
        have bS := hide (bd_sin fF)
        have bC := hide (bd_sin fC)
        rw [hF.out.1] at bS
        rw [hF.out.2] at bC
        have hR : Hid (phRe y = (if j = 1 then nar (fb .sub .f64 0 (phS y)) else if j = 2 then nar (fb .sub .f64 0 (phC y)) else if j = 3 then nar (phS y) else nar (phC y)) ∧ phIm y = (if j = 1 then nar (phC y) else if j = 2 then nar (fb .sub .f64 0 (phS y)) else if j = 3 then nar (fb .sub .f64 0 (phC y)) else nar (phS y))) := hide (by unfold phRe phIm; rw [hQ]; exact ⟨rfl, rfl⟩)
        have hgk := hgj
        unfold gq at hgk
        clear hgj fF fC hQ hall
        have h5 : j = 0 ∨ j = 1 ∨ j = 2 ∨ j = 3 ∨ j = 4 := by omega
        rcases h5 with rfl | rfl | rfl | rfl | rfl
        · have hA := hR.out.1
          have hB := hR.out.2
          rw [if_neg (by decide), if_neg (by decide), if_neg (by decide)] at hA hB
          replace hA := hide hA
          replace hB := hide hB
          clear hR
          go_wp2_with (first
            | (go_at_call 120; rw [HC.out]; refine (s_l01SineWide frC.out).mono ?_; rintro e w5 ⟨c, rfl, hc, m5, rfl⟩)
            | (go_at_call 120; refine (s_l01SineWide frF.out).mono ?_; rintro e w6 ⟨sv, rfl, hs, m6, rfl⟩)
            | (go_at_call 108; refine s_Narrow.mono ?_; rintro e w7 ⟨rfl, m7, rfl⟩))
          go_ret
          exact ⟨_, _, rfl, hide ((nar_t (hc.out.trans hF.out.2) (nar_sin bC.out) _).trans hA.out.symm), hide ((nar_t (hs.out.trans hF.out.1) (nar_sin bS.out) _).trans hB.out.symm), _, rfl⟩
        · have hA := hR.out.1
          have hB := hR.out.2
          rw [if_pos rfl] at hA hB
          replace hA := hide hA
          replace hB := hide hB
          clear hR
          go_wp2_with (first
            | (go_at_call 120; rw [HC.out]; refine (s_l01SineWide frC.out).mono ?_; rintro e w5 ⟨c, rfl, hc, m5, rfl⟩)
            | (go_at_call 120; refine (s_l01SineWide frF.out).mono ?_; rintro e w6 ⟨sv, rfl, hs, m6, rfl⟩)
            | (go_at_call 108; refine s_Narrow.mono ?_; rintro e w7 ⟨rfl, m7, rfl⟩))
          go_ret
          exact ⟨_, _, rfl, hide ((nar_t (neg_t (hs.out.trans hF.out.1) _) (nar_small (bd_neg bS.out)) _).trans hA.out.symm), hide ((nar_t (hc.out.trans hF.out.2) (nar_sin bC.out) _).trans hB.out.symm), _, rfl⟩
        · have hA := hR.out.1
          have hB := hR.out.2
          rw [if_neg (by decide), if_pos rfl] at hA hB
          replace hA := hide hA
          replace hB := hide hB
          clear hR
          go_wp2_with (first
            | (go_at_call 120; rw [HC.out]; refine (s_l01SineWide frC.out).mono ?_; rintro e w5 ⟨c, rfl, hc, m5, rfl⟩)
            | (go_at_call 120; refine (s_l01SineWide frF.out).mono ?_; rintro e w6 ⟨sv, rfl, hs, m6, rfl⟩)
            | (go_at_call 108; refine s_Narrow.mono ?_; rintro e w7 ⟨rfl, m7, rfl⟩))
          go_ret
          exact ⟨_, _, rfl, hide ((nar_t (neg_t (hc.out.trans hF.out.2) _) (nar_small (bd_neg bC.out)) _).trans hA.out.symm), hide ((nar_t (neg_t (hs.out.trans hF.out.1) _) (nar_small (bd_neg bS.out)) _).trans hB.out.symm), _, rfl⟩
        · have hA := hR.out.1
          have hB := hR.out.2
          rw [if_neg (by decide), if_neg (by decide), if_pos rfl] at hA hB
          replace hA := hide hA
          replace hB := hide hB
          clear hR
          go_wp2_with (first
            | (go_at_call 120; rw [HC.out]; refine (s_l01SineWide frC.out).mono ?_; rintro e w5 ⟨c, rfl, hc, m5, rfl⟩)
            | (go_at_call 120; refine (s_l01SineWide frF.out).mono ?_; rintro e w6 ⟨sv, rfl, hs, m6, rfl⟩)
            | (go_at_call 108; refine s_Narrow.mono ?_; rintro e w7 ⟨rfl, m7, rfl⟩))
          go_ret
          exact ⟨_, _, rfl, hide ((nar_t (hs.out.trans hF.out.1) (nar_sin bS.out) _).trans hA.out.symm), hide ((nar_t (neg_t (hc.out.trans hF.out.2) _) (nar_small (bd_neg bC.out)) _).trans hB.out.symm), _, rfl⟩
        · have hA := hR.out.1
          have hB := hR.out.2
          rw [if_neg (by decide), if_neg (by decide), if_neg (by decide)] at hA hB
          replace hA := hide hA
          replace hB := hide hB
          clear hR
          go_wp2_with (first
            | (go_at_call 120; rw [HC.out]; refine (s_l01SineWide frC.out).mono ?_; rintro e w5 ⟨c, rfl, hc, m5, rfl⟩)
            | (go_at_call 120; refine (s_l01SineWide frF.out).mono ?_; rintro e w6 ⟨sv, rfl, hs, m6, rfl⟩)
            | (go_at_call 108; refine s_Narrow.mono ?_; rintro e w7 ⟨rfl, m7, rfl⟩))
          go_ret
          exact ⟨_, _, rfl, hide ((nar_t (hc.out.trans hF.out.2) (nar_sin bC.out) _).trans hA.out.symm), hide ((nar_t (hs.out.trans hF.out.1) (nar_sin bS.out) _).trans hB.out.symm), _, rfl⟩
end Go.Proofs.Ythfdgffgihjglaa
