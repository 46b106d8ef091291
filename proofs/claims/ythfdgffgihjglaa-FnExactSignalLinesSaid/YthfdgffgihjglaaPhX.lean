/-
  The point of the unit circle at some turns: the program's walk.
-/
import Derived.Test.YthfdgffgihjglaaPhW
import Derived.Test.YthfdgffgihjglaaSame
namespace Go.Proofs.Ythfdgffgihjglaa
open Go.RowKit Mem Fl
set_option linter.unusedVariables false
set_option maxRecDepth 100000

theorem abs_bits {y : Nat} (hy : y < 18446744073709551616) : bits .andNot .u64 (y : Int) 9223372036854775808 = ((y % 9223372036854775808 : Nat) : Int) := by
  have e1 : (BitVec.ofInt 64 (y : Int)).toNat = y := by
    rw [BitVec.toNat_ofInt]; omega
  have e2 : (~~~(BitVec.ofInt 64 9223372036854775808)).toNat = 2 ^ 63 - 1 := by decide +kernel
  have e3 : ((BitVec.ofInt 64 (y : Int)) &&& ~~~(BitVec.ofInt 64 9223372036854775808)).toNat = y % 9223372036854775808 := by
    rw [BitVec.toNat_and, e1, e2, Nat.and_two_pow_sub_one_eq_mod]
  unfold bits
  show IntKind.u64.wrap (((BitVec.ofInt 64 (y : Int)) &&& ~~~(BitVec.ofInt 64 9223372036854775808)).toNat : Int) = _
  rw [e3]
  have := Nat.mod_lt y (show 0 < 9223372036854775808 by omega)
  show ((y % 9223372036854775808 : Nat) : Int) % 18446744073709551616 = _
  omega
section
variable {P : Program} {f : FuncId} {fn : Func}
theorem run_call_frombits64 (hf : P.funcs[f]? = some fn) (hname : (fn.name == "runtime.NumGoroutine") = false) (hb : fn.body.isNone = true) (hn : Extern.findNext fn = none) (he : Extern.find fn = some Extern.MathFloatBits.float64frombits) (y : Nat) (w : World) :
    (callFunc f #[.int .u64 (y : Int)]).run P w = .ok (.value (.float .f64 y)) w := by
  rw [run_callFunc_extern hf hname hb hn he]
  rfl
end
theorem abs_calls {y : Nat} {w : World} (hy : y < 18446744073709551616) : Calls Try.prog 122 #[.float .f64 y] w fun e w' => e = .returned (.float .f64 (y % 9223372036854775808)) ∧ w = w' := by
  have hs := fun (y : Nat) (w : World) => run_call_bits64 (P := Try.prog) (f := 144) Try.func144 (by kernel_rfl) (by kernel_rfl) (by kernel_rfl) (by rfl) y w
  have hs2 := fun (y : Nat) (w : World) => run_call_frombits64 (P := Try.prog) (f := 138) Try.func138 (by kernel_rfl) (by kernel_rfl) (by kernel_rfl) (by rfl) y w
  have hb := abs_bits hy
  have hs3 := fun w => hs2 (y % 9223372036854775808) w
  generalize y % 9223372036854775808 = r at *
  go_enter Try.func122, Try.ntmps122
  go_wp2
  go_ret
  exact ⟨rfl, rfl⟩
theorem i_isFinite64 (x : Nat) (w : World) : Calls Try.prog 121 #[.float .f64 x] w fun e w' => e = .returned (.bool (fin .f64 x)) ∧ ∃ n, w' = w.drewN n := by
  go_enter Try.func121, Try.ntmps121
  go_wp2
  go_ret
  exact ⟨rfl, _, rfl⟩
theorem nar_t {z S : Nat} (h : cn .f64 z = S) (hS : narOk S) (w : World) : cn .f32 (cvR .f64 .f32 z w) = nar S := by
  rw [cn_cvR64 (narOk_cn.1 (by rw [h]; exact hS)), ← nar_cn, h]
theorem neg_t {z S : Nat} (h : cn .f64 z = S) (w : World) : cn .f64 (flR .sub .f64 0 z w) = fb .sub .f64 0 S := by rw [cn_flR, ← fb_cnr, h]
theorem two52_vv : ∃ d : Nat, vv .f64 4841369599423283200 = 2 ^ d ∧ d = 52 + 1074 := ⟨1126, by decide +kernel, rfl⟩
/-- A number below 2 to the 52 in size. -/
theorem small_facts {s : Bool} {r : Nat} (h : r < 4841369599423283200) : floatToIntVal .f64 (FloatKind.f64.format.word s r) .i64 = some (frT (FloatKind.f64.format.word s r)) ∧ Fr 4607182418800017408 (frV (FloatKind.f64.format.word s r)) ∧ fin .f64 (FloatKind.f64.format.word s r) = true := by
  have hi : r < FloatKind.f64.format.infRung := by rw [d64_inf]; omega
  have rx := read_word (k := .f64) (s := s) hi
  have pr := place_ge FloatKind.f64.format r
  rw [d64_least] at pr
  obtain ⟨d, hd1, hd2⟩ := two52_vv
  have hv := vv_lt (k := .f64) h
  have hf : floorv (magOf FloatKind.f64.format r) (placeOf FloatKind.f64.format r) < 2 ^ 52 := by
    obtain ⟨c, hc⟩ : ∃ c : Nat, c = 1074 := ⟨_, rfl⟩
    refine floor_lt (c := c) (by omega) ?_
    have h2 : vv .f64 r = magOf FloatKind.f64.format r * 2 ^ (placeOf FloatKind.f64.format r + c).toNat := by
      unfold vv; rw [d64_least, hc]; congr 2
    rw [← h2, hc, ← hd2, ← hd1]
    exact hv
  obtain ⟨h1, h2⟩ := fr0_bd rx pr (Nat.lt_of_lt_of_le hf (Nat.pow_le_pow_right (by omega) (by omega)))
  exact ⟨h1, frV_fr h2, (fin_iff .f64 _).2 ⟨_, _, _, rx⟩⟩
theorem word_mod {s : Bool} {r : Nat} (h : r < 9218868437227405312) : FloatKind.f64.format.word s r % 9223372036854775808 = r ∧ FloatKind.f64.format.word s r < 18446744073709551616 := by
  have hsw : FloatKind.f64.format.signWeight = 9223372036854775808 := by decide +kernel
  unfold Ieee.Format.word
  rw [hsw]
  cases s
  · rw [if_neg (by simp)]; omega
  · rw [if_pos rfl]; omega
theorem phI_nan {y j : Nat} (h : Fr 4607182418800017408 (frV y)) (hj : j ≤ 4) (hg : ∀ i, i < j → gq (phI y i) = true) : isNan .f64 (phI y j) = false := fr_nan (phI_cap h j hj hg) (cap_le j)
set_option maxHeartbeats 4000000 in
theorem i_PhasorOf {s : Bool} {r y : Nat} {w : World} (hy : y = FloatKind.f64.format.word s r) (h : r < 4841369599423283200) :
    Calls Try.prog 80 #[.float .f64 y] w fun e w' => ∃ a b, e = .returned (.complex .f32 a b) ∧ Hid (cn .f32 a = phRe y) ∧ Hid (cn .f32 b = phIm y) ∧ ∃ m, w' = w.drewN m := by
  obtain ⟨hI, hfr, hfin⟩ := small_facts (s := s) h
  obtain ⟨hm1, hm2⟩ := word_mod (s := s) (r := r) (by omega)
  have hg := ge_pos (k := .f64) (c := r) (q := 4841369599423283200) (by rw [d64_inf]; omega) (by rw [d64_inf]; omega)
  rw [decide_eq_false (by omega)] at hg
  rw [← hy] at hI hfr hfin hm1 hm2
  have HA : ∀ W, Calls Try.prog 122 #[.float .f64 y] W fun e w' => e = .returned (.float .f64 r) ∧ W = w' := fun W => by
    have := abs_calls (w := W) hm2
    rwa [hm1] at this
  have HFr : ∀ W, Calls Try.prog 123 #[.float .f64 y] W fun e w' => e = .returned (.float .f64 (phI y 0)) ∧ ∃ m, w' = W.drewN m := fun W => by
    refine (i_fraction hI).mono ?_
    rintro e w' ⟨z, rfl, hz, hw⟩
    have : z = phI y 0 := exact_word hz.out (fr_nan hfr (by decide))
    subst this
    exact ⟨rfl, hw⟩
  replace HA := hide HA
  replace HFr := hide HFr
  replace hfr := hide hfr
  clear hI hm1 hm2 hy h
  go_enter Try.func80, Try.ntmps80
  go_wp2_with (first
    | (go_at_call 121; refine (i_isFinite64 _ _).mono ?_; rintro e w' ⟨rfl, m1, rfl⟩; rw [hfin])
    | (go_at_call 122; refine (HA.out _).mono ?_; rintro e w' ⟨rfl, rfl⟩)
    | (go_at_call 123; refine (HFr.out _).mono ?_; rintro e w' ⟨rfl, m2, rfl⟩))
  clear hg hfin
  go_loopw [4, 5] (fun f q wr => ∃ j m : Nat, j ≤ 4 ∧ f = .float .f64 (phI y j) ∧ q = .int .i64 (j : Int) ∧ Hid (∀ i, i < j → gq (phI y i) = true) ∧ wr = w.drewN m) (fun _ q _ => 5 - (intOf q).toNat)
  case atStart => exact ⟨0, _, by omega, rfl, rfl, hide (fun i hi => absurd hi (Nat.not_lt_zero _)), rfl⟩
  case round =>
    obtain ⟨j, m, hj, rfl, rfl, hall, rfl⟩ := hrel
    have hjI : (j : Int) ≤ 4 := by omega
    cases hgj : gq (phI y j) with
    | true =>
      have hj4 : j < 4 := by
        rcases Nat.lt_or_ge j 4 with h | h
        · exact h
        · obtain rfl : j = 4 := by omega
          rw [gq_end hfr.out hall.out] at hgj
          cases hgj
      have hA2 : Hid (∀ i, i < j + 1 → gq (phI y i) = true) := hide (fun i hi => by
        rcases Nat.lt_or_ge i j with h | h
        · exact hall.out i h
        · obtain rfl : i = j := by omega
          exact hgj)
      have HN : Hid (∀ W, flR .sub .f64 (phI y j) 4598175219545276416 W = phI y (j + 1)) := hide (fun W => flR_bd rfl (phI_nan hfr.out (by omega) hA2.out) W)
      unfold gq at hgj
      go_wp2
      go_roundw
      case rel => exact ⟨j + 1, _, by omega, by rw [HN.out], by go_num, hA2, rfl⟩
      case measure => (simp [intOf]; try omega)
    | false =>
      have hQ := phQ_of hj hall.out hgj
      obtain ⟨fF, fC⟩ := left_fr (phI_cap hfr.out j hj hall.out) (cap_le j) hgj
      have frF := hide fF
      have frC := hide fC
      have HC : Hid (∀ W, flR .sub .f64 4598175219545276416 (phI y j) W = fb .sub .f64 4598175219545276416 (phI y j)) := hide (fun W => flR_bd rfl (fr_nan fC (by decide)) W)
      have hF : Hid (sinV (phI y j) = phS y ∧ sinV (fb .sub .f64 4598175219545276416 (phI y j)) = phC y) := hide (by unfold phS phC phF; rw [hQ]; exact ⟨rfl, rfl⟩)
      have bS := hide (bd_sin fF)
      have bC := hide (bd_sin fC)
      rw [hF.out.1] at bS
      rw [hF.out.2] at bC
      have hR : Hid (phRe y = (if j = 1 then nar (fb .sub .f64 0 (phS y)) else if j = 2 then nar (fb .sub .f64 0 (phC y)) else if j = 3 then nar (phS y) else nar (phC y)) ∧ phIm y = (if j = 1 then nar (phC y) else if j = 2 then nar (fb .sub .f64 0 (phS y)) else if j = 3 then nar (fb .sub .f64 0 (phC y)) else nar (phS y))) := hide (by unfold phRe phIm; rw [hQ]; exact ⟨rfl, rfl⟩)
      have hgk := hgj
      unfold gq at hgk
      clear hgj fF fC hQ hall
      have h5 : j = 0 ∨ j = 1 ∨ j = 2 ∨ j = 3 ∨ j = 4 := by omega
      rcases h5 with rfl | rfl | rfl | rfl | rfl
      · have hA := hR.out.1
        have hB := hR.out.2
        rw [if_neg (by decide), if_neg (by decide), if_neg (by decide)] at hA hB
        replace hA := hide hA
        replace hB := hide hB
        clear hR
        go_wp2_with (first
          | (go_at_call 124; rw [HC.out]; refine (i_sine frC.out).mono ?_; rintro e w5 ⟨c, rfl, hc, m5, rfl⟩)
          | (go_at_call 124; refine (i_sine frF.out).mono ?_; rintro e w6 ⟨sv, rfl, hs, m6, rfl⟩))
        go_ret
        exact ⟨_, _, rfl, hide ((nar_t (hc.out.trans hF.out.2) (nar_sin bC.out) _).trans hA.out.symm), hide ((nar_t (hs.out.trans hF.out.1) (nar_sin bS.out) _).trans hB.out.symm), _, rfl⟩
      · have hA := hR.out.1
        have hB := hR.out.2
        rw [if_pos rfl] at hA hB
        replace hA := hide hA
        replace hB := hide hB
        clear hR
        go_wp2_with (first
          | (go_at_call 124; rw [HC.out]; refine (i_sine frC.out).mono ?_; rintro e w5 ⟨c, rfl, hc, m5, rfl⟩)
          | (go_at_call 124; refine (i_sine frF.out).mono ?_; rintro e w6 ⟨sv, rfl, hs, m6, rfl⟩))
        go_ret
        exact ⟨_, _, rfl, hide ((nar_t (neg_t (hs.out.trans hF.out.1) _) (nar_small (bd_neg bS.out)) _).trans hA.out.symm), hide ((nar_t (hc.out.trans hF.out.2) (nar_sin bC.out) _).trans hB.out.symm), _, rfl⟩
      · have hA := hR.out.1
        have hB := hR.out.2
        rw [if_neg (by decide), if_pos rfl] at hA hB
        replace hA := hide hA
        replace hB := hide hB
        clear hR
        go_wp2_with (first
          | (go_at_call 124; rw [HC.out]; refine (i_sine frC.out).mono ?_; rintro e w5 ⟨c, rfl, hc, m5, rfl⟩)
          | (go_at_call 124; refine (i_sine frF.out).mono ?_; rintro e w6 ⟨sv, rfl, hs, m6, rfl⟩))
        go_ret
        exact ⟨_, _, rfl, hide ((nar_t (neg_t (hc.out.trans hF.out.2) _) (nar_small (bd_neg bC.out)) _).trans hA.out.symm), hide ((nar_t (neg_t (hs.out.trans hF.out.1) _) (nar_small (bd_neg bS.out)) _).trans hB.out.symm), _, rfl⟩
      · have hA := hR.out.1
        have hB := hR.out.2
        rw [if_neg (by decide), if_neg (by decide), if_pos rfl] at hA hB
        replace hA := hide hA
        replace hB := hide hB
        clear hR
        go_wp2_with (first
          | (go_at_call 124; rw [HC.out]; refine (i_sine frC.out).mono ?_; rintro e w5 ⟨c, rfl, hc, m5, rfl⟩)
          | (go_at_call 124; refine (i_sine frF.out).mono ?_; rintro e w6 ⟨sv, rfl, hs, m6, rfl⟩))
        go_ret
        exact ⟨_, _, rfl, hide ((nar_t (hs.out.trans hF.out.1) (nar_sin bS.out) _).trans hA.out.symm), hide ((nar_t (neg_t (hc.out.trans hF.out.2) _) (nar_small (bd_neg bC.out)) _).trans hB.out.symm), _, rfl⟩
      · have hA := hR.out.1
        have hB := hR.out.2
        rw [if_neg (by decide), if_neg (by decide), if_neg (by decide)] at hA hB
        replace hA := hide hA
        replace hB := hide hB
        clear hR
        go_wp2_with (first
          | (go_at_call 124; rw [HC.out]; refine (i_sine frC.out).mono ?_; rintro e w5 ⟨c, rfl, hc, m5, rfl⟩)
          | (go_at_call 124; refine (i_sine frF.out).mono ?_; rintro e w6 ⟨sv, rfl, hs, m6, rfl⟩))
        go_ret
        exact ⟨_, _, rfl, hide ((nar_t (hc.out.trans hF.out.2) (nar_sin bC.out) _).trans hA.out.symm), hide ((nar_t (hs.out.trans hF.out.1) (nar_sin bS.out) _).trans hB.out.symm), _, rfl⟩
end Go.Proofs.Ythfdgffgihjglaa
