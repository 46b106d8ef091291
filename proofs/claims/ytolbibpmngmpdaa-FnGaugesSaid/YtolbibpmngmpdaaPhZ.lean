/-
  The point of the unit circle at some turns: the program's walk.
-/
import Derived.Test.YtolbibpmngmpdaaPhW
import Derived.Test.YtolbibpmngmpdaaSame
namespace Go.Proofs.Ytolbibpmngmpdaa
open Go.RowKit Mem Fl
set_option linter.unusedVariables false
set_option maxRecDepth 100000

theorem abs_bits {y : Nat} (hy : y < 18446744073709551616) : bits .andNot .u64 (y : Int) 9223372036854775808 = ((y % 9223372036854775808 : Nat) : Int) := by
  have e1 : (BitVec.ofInt 64 (y : Int)).toNat = y := by
    rw [BitVec.toNat_ofInt]; omega
  have e2 : (~~~(BitVec.ofInt 64 9223372036854775808)).toNat = 2 ^ 63 - 1 := by decide +kernel
  have e3 : ((BitVec.ofInt 64 (y : Int)) &&& ~~~(BitVec.ofInt 64 9223372036854775808)).toNat = y % 9223372036854775808 := by
    rw [BitVec.toNat_and, e1, e2, Nat.and_two_pow_sub_one_eq_mod]
  unfold bits
  show IntKind.u64.wrap (((BitVec.ofInt 64 (y : Int)) &&& ~~~(BitVec.ofInt 64 9223372036854775808)).toNat : Int) = _
  rw [e3]
  have := Nat.mod_lt y (show 0 < 9223372036854775808 by omega)
  show ((y % 9223372036854775808 : Nat) : Int) % 18446744073709551616 = _
  omega
section
variable {P : Program} {f : FuncId} {fn : Func}
theorem run_call_frombits64 (hf : P.funcs[f]? = some fn) (hname : (fn.name == "runtime.NumGoroutine") = false) (hb : fn.body.isNone = true) (hn : Extern.findNext fn = none) (he : Extern.find fn = some Extern.MathFloatBits.float64frombits) (y : Nat) (w : World) :
    (callFunc f #[.int .u64 (y : Int)]).run P w = .ok (.value (.float .f64 y)) w := by
  rw [run_callFunc_extern hf hname hb hn he]
  rfl
end
theorem abs_calls {y : Nat} {w : World} (hy : y < 18446744073709551616) : Calls Try.prog 124 #[.float .f64 y] w fun e w' => e = .returned (.float .f64 (y % 9223372036854775808)) ∧ w = w' := by
  have hs := fun (y : Nat) (w : World) => run_call_bits64 (P := Try.prog) (f := 150) Try.func150 (by kernel_rfl) (by kernel_rfl) (by kernel_rfl) (by rfl) y w
  have hs2 := fun (y : Nat) (w : World) => run_call_frombits64 (P := Try.prog) (f := 143) Try.func143 (by kernel_rfl) (by kernel_rfl) (by kernel_rfl) (by rfl) y w
  have hb := abs_bits hy
  have hs3 := fun w => hs2 (y % 9223372036854775808) w
  generalize y % 9223372036854775808 = r at *
  go_enter Try.func124, Try.ntmps124
  go_wp2
  go_ret
  exact ⟨rfl, rfl⟩
theorem i_isFinite64 (x : Nat) (w : World) : Calls Try.prog 123 #[.float .f64 x] w fun e w' => e = .returned (.bool (fin .f64 x)) ∧ ∃ n, w' = w.drewN n := by
  go_enter Try.func123, Try.ntmps123
  go_wp2
  go_ret
  exact ⟨rfl, _, rfl⟩
theorem nar_t {z S : Nat} (h : cn .f64 z = S) (hS : narOk S) (w : World) : cn .f32 (cvR .f64 .f32 z w) = nar S := by
  rw [cn_cvR64 (narOk_cn.1 (by rw [h]; exact hS)), ← nar_cn, h]
theorem neg_t {z S : Nat} (h : cn .f64 z = S) (w : World) : cn .f64 (flR .sub .f64 0 z w) = fb .sub .f64 0 S := by rw [cn_flR, ← fb_cnr, h]
theorem two52_vv : ∃ d : Nat, vv .f64 4841369599423283200 = 2 ^ d ∧ d = 52 + 1074 := ⟨1126, by decide +kernel, rfl⟩
/-- A number below 2 to the 52 in size. -/
theorem small_facts {s : Bool} {r : Nat} (h : r < 4841369599423283200) : floatToIntVal .f64 (FloatKind.f64.format.word s r) .i64 = some (frT (FloatKind.f64.format.word s r)) ∧ Fr 4607182418800017408 (frV (FloatKind.f64.format.word s r)) ∧ fin .f64 (FloatKind.f64.format.word s r) = true := by
  have hi : r < FloatKind.f64.format.infRung := by rw [d64_inf]; omega
  have rx := read_word (k := .f64) (s := s) hi
  have pr := place_ge FloatKind.f64.format r
  rw [d64_least] at pr
  obtain ⟨d, hd1, hd2⟩ := two52_vv
  have hv := vv_lt (k := .f64) h
  have hf : floorv (magOf FloatKind.f64.format r) (placeOf FloatKind.f64.format r) < 2 ^ 52 := by
    obtain ⟨c, hc⟩ : ∃ c : Nat, c = 1074 := ⟨_, rfl⟩
    refine floor_lt (c := c) (by omega) ?_
    have h2 : vv .f64 r = magOf FloatKind.f64.format r * 2 ^ (placeOf FloatKind.f64.format r + c).toNat := by
      unfold vv; rw [d64_least, hc]; congr 2
    rw [← h2, hc, ← hd2, ← hd1]
    exact hv
  obtain ⟨h1, h2⟩ := fr0_bd rx pr (Nat.lt_of_lt_of_le hf (Nat.pow_le_pow_right (by omega) (by omega)))
  exact ⟨h1, frV_fr h2, (fin_iff .f64 _).2 ⟨_, _, _, rx⟩⟩
theorem word_mod {s : Bool} {r : Nat} (h : r < 9218868437227405312) : FloatKind.f64.format.word s r % 9223372036854775808 = r ∧ FloatKind.f64.format.word s r < 18446744073709551616 := by
  have hsw : FloatKind.f64.format.signWeight = 9223372036854775808 := by decide +kernel
  unfold Ieee.Format.word
  rw [hsw]
  cases s
  · rw [if_neg (by simp)]; omega
  · rw [if_pos rfl]; omega
theorem phI_nan {y j : Nat} (h : Fr 4607182418800017408 (frV y)) (hj : j ≤ 4) (hg : ∀ i, i < j → gq (phI y i) = true) : isNan .f64 (phI y j) = false := fr_nan (phI_cap h j hj hg) (cap_le j)
set_option maxHeartbeats 4000000 in
theorem i_PhasorOf {s : Bool} {r y : Nat} {w : World} (hy : y = FloatKind.f64.format.word s r) (h : r < 4841369599423283200) :
    Calls Try.prog 85 #[.float .f64 y] w fun e w' => ∃ a b, e = .returned (.complex .f32 a b) ∧ Hid (cn .f32 a = phRe y) ∧ Hid (cn .f32 b = phIm y) ∧ ∃ m, w' = w.drewN m := by
  obtain ⟨hI, hfr, hfin⟩ := small_facts (s := s) h
  obtain ⟨hm1, hm2⟩ := word_mod (s := s) (r := r) (by omega)
  have hg := ge_pos (k := .f64) (c := r) (q := 4841369599423283200) (by rw [d64_inf]; omega) (by rw [d64_inf]; omega)
  rw [decide_eq_false (by omega)] at hg
  rw [← hy] at hI hfr hfin hm1 hm2
  have HA : ∀ W, Calls Try.prog 124 #[.float .f64 y] W fun e w' => e = .returned (.float .f64 r) ∧ W = w' := fun W => by
    have := abs_calls (w := W) hm2
    rwa [hm1] at this
  have HFr : ∀ W, Calls Try.prog 125 #[.float .f64 y] W fun e w' => e = .returned (.float .f64 (phI y 0)) ∧ ∃ m, w' = W.drewN m := fun W => by
    refine (i_fraction hI).mono ?_
    rintro e w' ⟨z, rfl, hz, hw⟩
    have : z = phI y 0 := exact_word hz.out (fr_nan hfr (by decide))
    subst this
    exact ⟨rfl, hw⟩
  replace HA := hide HA
  replace HFr := hide HFr
  replace hfr := hide hfr
  clear hI hm1 hm2 hy h
  go_enter Try.func85, Try.ntmps85
  go_wp2_with (first
    | (go_at_call 123; refine (i_isFinite64 _ _).mono ?_; rintro e w' ⟨rfl, m1, rfl⟩; rw [hfin])
    | (go_at_call 124; refine (HA.out _).mono ?_; rintro e w' ⟨rfl, rfl⟩)
    | (go_at_call 125; refine (HFr.out _).mono ?_; rintro e w' ⟨rfl, m2, rfl⟩))
  clear hg hfin
  go_loopw [4, 5] (fun f q wr => ∃ j m : Nat, j ≤ 4 ∧ f = .float .f64 (phI y j) ∧ q = .int .i64 (j : Int) ∧ Hid (∀ i, i < j → gq (phI y i) = true) ∧ wr = w.drewN m) (fun _ q _ => 5 - (intOf q).toNat)
  case atStart => exact ⟨0, _, by omega, rfl, rfl, hide (fun i hi => absurd hi (Nat.not_lt_zero _)), rfl⟩
  case round =>
    obtain ⟨j, m, hj, rfl, rfl, hall, rfl⟩ := hrel
    have hjI : (j : Int) ≤ 4 := by omega
    cases hgj : gq (phI y j) with
    | true =>
      have hj4 : j < 4 := by
        rcases Nat.lt_or_ge j 4 with h | h
        · exact h
        · obtain rfl : j = 4 := by omega
          rw [gq_end hfr.out hall.out] at hgj
          cases hgj
      have hA2 : Hid (∀ i, i < j + 1 → gq (phI y i) = true) := hide (fun i hi => by
        rcases Nat.lt_or_ge i j with h | h
        · exact hall.out i h
        · obtain rfl : i = j := by omega
          exact hgj)
      have HN : Hid (∀ W, flR .sub .f64 (phI y j) 4598175219545276416 W = phI y (j + 1)) := hide (fun W => flR_bd rfl (phI_nan hfr.out (by omega) hA2.out) W)
      unfold gq at hgj
      go_wp2
      go_roundw
      case rel => exact ⟨j + 1, _, by omega, by rw [HN.out], by go_num, hA2, rfl⟩
      case measure => (simp [intOf]; try omega)
    | false =>
      have hQ := phQ_of hj hall.out hgj
      obtain ⟨fF, fC⟩ := left_fr (phI_cap hfr.out j hj hall.out) (cap_le j) hgj
      have frF := hide fF
      have frC := hide fC
      have HC : Hid (∀ W, flR .sub .f64 4598175219545276416 (phI y j) W = fb .sub .f64 4598175219545276416 (phI y j)) := hide (fun W => flR_bd rfl (fr_nan fC (by decide)) W)
      have hF : Hid (sinV (phI y j) = phS y ∧ sinV (fb .sub .f64 4598175219545276416 (phI y j)) = phC y) := hide (by unfold phS phC phF; rw [hQ]; exact ⟨rfl, rfl⟩)
      have bS := hide (bd_sin fF)
      have bC := hide (bd_sin fC)
      rw [hF.out.1] at bS
      rw [hF.out.2] at bC
      have hR : Hid (phRe y = (if j = 1 then nar (fb .sub .f64 0 (phS y)) else if j = 2 then nar (fb .sub .f64 0 (phC y)) else if j = 3 then nar (phS y) else nar (phC y)) ∧ phIm y = (if j = 1 then nar (phC y) else if j = 2 then nar (fb .sub .f64 0 (phS y)) else if j = 3 then nar (fb .sub .f64 0 (phC y)) else nar (phS y))) := hide (by unfold phRe phIm; rw [hQ]; exact ⟨rfl, rfl⟩)
      have hgk := hgj
      unfold gq at hgk
      clear hgj fF fC hQ hall
      have h5 : j = 0 ∨ j = 1 ∨ j = 2 ∨ j = 3 ∨ j = 4 := by omega
      rcases h5 with rfl | rfl | rfl | rfl | rfl
      · have hA := hR.out.1
        have hB := hR.out.2
        rw [if_neg (by decide), if_neg (by decide), if_neg (by decide)] at hA hB
        replace hA := hide hA
        replace hB := hide hB
        clear hR
        go_wp2_with (first
          | (go_at_call 126; rw [HC.out]; refine (i_sine frC.out).mono ?_; rintro e w5 ⟨c, rfl, hc, m5, rfl⟩)
          | (go_at_call 126; refine (i_sine frF.out).mono ?_; rintro e w6 ⟨sv, rfl, hs, m6, rfl⟩))
        go_ret
        exact ⟨_, _, rfl, hide ((nar_t (hc.out.trans hF.out.2) (nar_sin bC.out) _).trans hA.out.symm), hide ((nar_t (hs.out.trans hF.out.1) (nar_sin bS.out) _).trans hB.out.symm), _, rfl⟩
      · have hA := hR.out.1
        have hB := hR.out.2
        rw [if_pos rfl] at hA hB
        replace hA := hide hA
        replace hB := hide hB
        clear hR
        go_wp2_with (first
          | (go_at_call 126; rw [HC.out]; refine (i_sine frC.out).mono ?_; rintro e w5 ⟨c, rfl, hc, m5, rfl⟩)
          | (go_at_call 126; refine (i_sine frF.out).mono ?_; rintro e w6 ⟨sv, rfl, hs, m6, rfl⟩))
        go_ret
        exact ⟨_, _, rfl, hide ((nar_t (neg_t (hs.out.trans hF.out.1) _) (nar_small (bd_neg bS.out)) _).trans hA.out.symm), hide ((nar_t (hc.out.trans hF.out.2) (nar_sin bC.out) _).trans hB.out.symm), _, rfl⟩
      · have hA := hR.out.1
        have hB := hR.out.2
        rw [if_neg (by decide), if_pos rfl] at hA hB
        replace hA := hide hA
        replace hB := hide hB
        clear hR
        go_wp2_with (first
          | (go_at_call 126; rw [HC.out]; refine (i_sine frC.out).mono ?_; rintro e w5 ⟨c, rfl, hc, m5, rfl⟩)
          | (go_at_call 126; refine (i_sine frF.out).mono ?_; rintro e w6 ⟨sv, rfl, hs, m6, rfl⟩))
        go_ret
        exact ⟨_, _, rfl, hide ((nar_t (neg_t (hc.out.trans hF.out.2) _) (nar_small (bd_neg bC.out)) _).trans hA.out.symm), hide ((nar_t (neg_t (hs.out.trans hF.out.1) _) (nar_small (bd_neg bS.out)) _).trans hB.out.symm), _, rfl⟩
      · have hA := hR.out.1
        have hB := hR.out.2
        rw [if_neg (by decide), if_neg (by decide), if_pos rfl] at hA hB
        replace hA := hide hA
        replace hB := hide hB
        clear hR
        go_wp2_with (first
          | (go_at_call 126; rw [HC.out]; refine (i_sine frC.out).mono ?_; rintro e w5 ⟨c, rfl, hc, m5, rfl⟩)
          | (go_at_call 126; refine (i_sine frF.out).mono ?_; rintro e w6 ⟨sv, rfl, hs, m6, rfl⟩))
        go_ret
        exact ⟨_, _, rfl, hide ((nar_t (hs.out.trans hF.out.1) (nar_sin bS.out) _).trans hA.out.symm), hide ((nar_t (neg_t (hc.out.trans hF.out.2) _) (nar_small (bd_neg bC.out)) _).trans hB.out.symm), _, rfl⟩
      · have hA := hR.out.1
        have hB := hR.out.2
        rw [if_neg (by decide), if_neg (by decide), if_neg (by decide)] at hA hB
        replace hA := hide hA
        replace hB := hide hB
        clear hR
        go_wp2_with (first
          | (go_at_call 126; rw [HC.out]; refine (i_sine frC.out).mono ?_; rintro e w5 ⟨c, rfl, hc, m5, rfl⟩)
          | (go_at_call 126; refine (i_sine frF.out).mono ?_; rintro e w6 ⟨sv, rfl, hs, m6, rfl⟩))
        go_ret
        exact ⟨_, _, rfl, hide ((nar_t (hc.out.trans hF.out.2) (nar_sin bC.out) _).trans hA.out.symm), hide ((nar_t (hs.out.trans hF.out.1) (nar_sin bS.out) _).trans hB.out.symm), _, rfl⟩
end Go.Proofs.Ytolbibpmngmpdaa

/-
  The point of the unit circle at some turns: the reference's walk; both sides at great turns.
-/
namespace Go.Proofs.Ytolbibpmngmpdaa
open Go.RowKit Mem Fl
set_option linter.unusedVariables false
set_option maxRecDepth 100000

def sv (s : Bool) (r : Nat) : Int := if s = true then -((vv .f64 r : Nat) : Int) else ((vv .f64 r : Nat) : Int)
theorem order_words {s t : Bool} {r q : Nat} (hr : r < 9218868437227405312) (hq : q < 9218868437227405312) : FloatKind.f64.format.order (FloatKind.f64.format.word s r) (FloatKind.f64.format.word t q) = some (compare (sv s r) (sv t q)) := by
  have hi := d64_inf
  have rx := read_word (k := .f64) (s := s) (r := r) (by omega)
  have ry := read_word (k := .f64) (s := t) (r := q) (by omega)
  rw [order_num rx ry (b := FloatKind.f64.format.leastPlace) (place_ge _ _) (place_ge _ _)]
  have hs : ∀ (s : Bool) (x : Nat), sval s (magOf FloatKind.f64.format x) (placeOf FloatKind.f64.format x) FloatKind.f64.format.leastPlace = sv s x := by
    intro s x; unfold sval sv Ieee.signed vv; rw [Nat.shiftLeft_eq]
  rw [hs, hs]
theorem word_two : (4841369599423283200 : Nat) = FloatKind.f64.format.word false 4841369599423283200 ∧ (14064741636278059008 : Nat) = FloatKind.f64.format.word true 4841369599423283200 := by decide +kernel
theorem small_ord {s : Bool} {r : Nat} (h : r < 4841369599423283200) : (FloatKind.f64.format.order (FloatKind.f64.format.word s r) 4841369599423283200 == some .gt || FloatKind.f64.format.order (FloatKind.f64.format.word s r) 4841369599423283200 == some .eq) = false ∧ (FloatKind.f64.format.order (FloatKind.f64.format.word s r) 14064741636278059008 == some .lt || FloatKind.f64.format.order (FloatKind.f64.format.word s r) 14064741636278059008 == some .eq) = false := by
  have hv := vv_lt (k := .f64) h
  have h1 := order_words (s := s) (t := false) (r := r) (q := 4841369599423283200) (by omega) (by omega)
  have h2 := order_words (s := s) (t := true) (r := r) (q := 4841369599423283200) (by omega) (by omega)
  rw [← word_two.1] at h1
  rw [← word_two.2] at h2
  rw [h1, h2, compare_int, compare_int]
  have e1 : sv s r < sv false 4841369599423283200 := by unfold sv; cases s <;> simp <;> omega
  have e2 : sv true 4841369599423283200 < sv s r := by unfold sv; cases s <;> simp <;> omega
  rw [if_pos e1, if_neg (by omega), if_neg (by omega)]
  exact ⟨rfl, rfl⟩
set_option maxHeartbeats 1000000 in
theorem i_PhasorOf_big {s : Bool} {r y : Nat} {w : World} (hy : y = FloatKind.f64.format.word s r) (h : 4841369599423283200 ≤ r) (hr : r < 9218868437227405312) :
    Calls Try.prog 85 #[.float .f64 y] w fun e w' => e = .returned (.complex .f32 1065353216 0) ∧ ∃ m, w' = w.drewN m := by
  obtain ⟨hm1, hm2⟩ := word_mod (s := s) (r := r) hr
  have hg := ge_pos (k := .f64) (c := r) (q := 4841369599423283200) (by rw [d64_inf]; omega) (by rw [d64_inf]; omega)
  rw [decide_eq_true h] at hg
  have hfin : fin .f64 y = true := by rw [hy]; exact (fin_iff .f64 _).2 ⟨_, _, _, read_word (k := .f64) (by rw [d64_inf]; exact hr)⟩
  rw [← hy] at hm1 hm2
  have HA : ∀ W, Calls Try.prog 124 #[.float .f64 y] W fun e w' => e = .returned (.float .f64 r) ∧ W = w' := fun W => by
    have := abs_calls (w := W) hm2
    rwa [hm1] at this
  replace HA := hide HA
  clear hm1 hm2 hy h hr
  go_enter Try.func85, Try.ntmps85
  go_wp2_with (first
    | (go_at_call 123; refine (i_isFinite64 _ _).mono ?_; rintro e w' ⟨rfl, m1, rfl⟩; rw [hfin])
    | (go_at_call 124; refine (HA.out _).mono ?_; rintro e w' ⟨rfl, rfl⟩))
  go_ret
  exact ⟨rfl, _, rfl⟩
theorem big_ord {s : Bool} {r : Nat} (h : 4841369599423283200 ≤ r) (hr : r < 9218868437227405312) : (s = false → (FloatKind.f64.format.order (FloatKind.f64.format.word s r) 4841369599423283200 == some .gt || FloatKind.f64.format.order (FloatKind.f64.format.word s r) 4841369599423283200 == some .eq) = true) ∧ (s = true → (FloatKind.f64.format.order (FloatKind.f64.format.word s r) 4841369599423283200 == some .gt || FloatKind.f64.format.order (FloatKind.f64.format.word s r) 4841369599423283200 == some .eq) = false ∧ (FloatKind.f64.format.order (FloatKind.f64.format.word s r) 14064741636278059008 == some .lt || FloatKind.f64.format.order (FloatKind.f64.format.word s r) 14064741636278059008 == some .eq) = true) := by
  have hv := vv_le (k := .f64) h
  have h1 := order_words (s := s) (t := false) (r := r) (q := 4841369599423283200) hr (by omega)
  have h2 := order_words (s := s) (t := true) (r := r) (q := 4841369599423283200) hr (by omega)
  rw [← word_two.1] at h1
  rw [← word_two.2] at h2
  rw [h1, h2, compare_int, compare_int]
  obtain ⟨d, hd, _⟩ := two52_vv
  have hp := Nat.two_pow_pos d
  rw [← hd] at hp
  constructor
  · rintro rfl
    have e1 : sv false 4841369599423283200 ≤ sv false r := by unfold sv; simp; omega
    rw [if_neg (by omega)]
    split <;> rfl
  · rintro rfl
    have e1 : sv true r < sv false 4841369599423283200 := by unfold sv; simp; omega
    have e2 : sv true r ≤ sv true 4841369599423283200 := by unfold sv; simp; omega
    rw [if_pos e1]
    refine ⟨rfl, ?_⟩
    by_cases h3 : sv true r < sv true 4841369599423283200
    · rw [if_pos h3]; rfl
    · rw [if_neg h3, if_pos (by omega)]; rfl
theorem fin_ne {y : Nat} (h : fin .f64 y = true) : (FloatKind.f64.format.order (fb .sub .f64 y y) 0 != some .eq) = false := by
  unfold fin at h
  rw [bne, h]; rfl
set_option maxHeartbeats 1000000 in
theorem s_l01Phasor_big {s : Bool} {r y : Nat} {w : World} (hy : y = FloatKind.f64.format.word s r) (h : 4841369599423283200 ≤ r) (hr : r < 9218868437227405312) :
    Calls Try.prog 140 #[.float .f64 y] w fun e w' => e = .returned (.complex .f32 1065353216 0) ∧ ∃ m, w' = w.drewN m := by
  have hfin : fin .f64 y = true := by rw [hy]; exact (fin_iff .f64 _).2 ⟨_, _, _, read_word (k := .f64) (by rw [d64_inf]; exact hr)⟩
  have hne := fin_ne hfin
  obtain ⟨b1, b2⟩ := big_ord (s := s) h hr
  rw [← hy] at b1 b2
  clear hy h hr hfin
  cases s with
  | false =>
    have g1 := b1 rfl
    clear b1 b2
    go_enter Try.func140, Try.ntmps140
    go_wp2
    go_ret
    exact ⟨rfl, _, rfl⟩
  | true =>
    obtain ⟨g1, g2⟩ := b2 rfl
    clear b1 b2
    go_enter Try.func140, Try.ntmps140
    go_wp2
    go_ret
    exact ⟨rfl, _, rfl⟩
end Go.Proofs.Ytolbibpmngmpdaa

/-
  The point of the unit circle at some turns: the reference's walk at turns that are not great.
-/
namespace Go.Proofs.Ytolbibpmngmpdaa
open Go.RowKit Mem Fl
set_option linter.unusedVariables false
set_option maxRecDepth 100000

set_option maxHeartbeats 8000000 in
theorem s_l01Phasor {s : Bool} {r y : Nat} {w : World} (hy : y = FloatKind.f64.format.word s r) (h : r < 4841369599423283200) :
    Calls Try.prog 140 #[.float .f64 y] w fun e w' => ∃ a b, e = .returned (.complex .f32 a b) ∧ Hid (cn .f32 a = phRe y) ∧ Hid (cn .f32 b = phIm y) ∧ ∃ m, w' = w.drewN m := by
  obtain ⟨hI, hfr, hfin⟩ := small_facts (s := s) h
  obtain ⟨g1, g2⟩ := small_ord (s := s) h
  rw [← hy] at hI hfr hfin g1 g2
  have hne := fin_ne hfin
  have hcv := conv_int hI
  have hp : frV y = if (FloatKind.f64.format.order (fb .sub .f64 y (floatOfInt .f64 (frT y))) 0 == some .lt) = true then fb .add .f64 (fb .sub .f64 y (floatOfInt .f64 (frT y))) 4607182418800017408 else fb .sub .f64 y (floatOfInt .f64 (frT y)) := rfl
  have hnn := fr_nan hfr (by decide)
  replace hfr := hide hfr
  clear hfin hy h hI
  have hz0 : phI y 0 = frV y := rfl
  generalize frT y = n at *
  cases h1 : (FloatKind.f64.format.order (fb .sub .f64 y (floatOfInt .f64 n)) 0 == some .lt) with
  | true =>
    rw [h1, if_pos rfl] at hp
    have HX : Hid (∀ W1 W2, flR .add .f64 (flR .sub .f64 y (floatOfInt .f64 n) W1) 4607182418800017408 W2 = phI y 0) := hide (fun W1 W2 => exact_word (by rw [hz0, hp, cn_flR, ← fb_cnl, cn_flR]) (by rw [hz0]; exact hnn))
    clear hp hnn hz0
    go_enter Try.func140, Try.ntmps140
    go_wp2
    clear g1 g2 hne h1 hcv
    go_loopw [3, 4] (fun f q wr => ∃ j m : Nat, j ≤ 4 ∧ f = .float .f64 (phI y j) ∧ q = .int .i64 (j : Int) ∧ Hid (∀ i, i < j → gq (phI y i) = true) ∧ wr = w.drewN m) (fun _ q _ => 5 - (intOf q).toNat)
    case atStart => exact ⟨0, _, by omega, by rw [HX.out], rfl, hide (fun i hi => absurd hi (Nat.not_lt_zero _)), rfl⟩
    case round =>
      obtain ⟨j, m, hj, rfl, rfl, hall, rfl⟩ := hrel
      have hjI : (j : Int) ≤ 4 := by omega
      cases hgj : gq (phI y j) with
      | true =>
        have hj4 : j < 4 := by
          rcases Nat.lt_or_ge j 4 with h | h
          · exact h
          · obtain rfl : j = 4 := by omega
            rw [gq_end hfr.out hall.out] at hgj
            cases hgj
        have hA2 : Hid (∀ i, i < j + 1 → gq (phI y i) = true) := hide (fun i hi => by
          rcases Nat.lt_or_ge i j with h | h
          · exact hall.out i h
          · obtain rfl : i = j := by omega
            exact hgj)
        have HN : Hid (∀ W, flR .sub .f64 (phI y j) 4598175219545276416 W = phI y (j + 1)) := hide (fun W => flR_bd rfl (phI_nan hfr.out (by omega) hA2.out) W)
        unfold gq at hgj
        go_wp2
        go_roundw
        case rel => exact ⟨j + 1, _, by omega, by rw [HN.out], by go_num, hA2, rfl⟩
        case measure => (simp [intOf]; try omega)
      | false =>
        have hQ := phQ_of hj hall.out hgj
        obtain ⟨fF, fC⟩ := left_fr (phI_cap hfr.out j hj hall.out) (cap_le j) hgj
        have frF := hide fF
        have frC := hide fC
        have HC : Hid (∀ W, flR .sub .f64 4598175219545276416 (phI y j) W = fb .sub .f64 4598175219545276416 (phI y j)) := hide (fun W => flR_bd rfl (fr_nan fC (by decide)) W)
        have hF : Hid (sinV (phI y j) = phS y ∧ sinV (fb .sub .f64 4598175219545276416 (phI y j)) = phC y) := hide (by unfold phS phC phF; rw [hQ]; exact ⟨rfl, rfl⟩)
        have bS := hide (bd_sin fF)
        have bC := hide (bd_sin fC)
        rw [hF.out.1] at bS
        rw [hF.out.2] at bC
        have hR : Hid (phRe y = (if j = 1 then nar (fb .sub .f64 0 (phS y)) else if j = 2 then nar (fb .sub .f64 0 (phC y)) else if j = 3 then nar (phS y) else nar (phC y)) ∧ phIm y = (if j = 1 then nar (phC y) else if j = 2 then nar (fb .sub .f64 0 (phS y)) else if j = 3 then nar (fb .sub .f64 0 (phC y)) else nar (phS y))) := hide (by unfold phRe phIm; rw [hQ]; exact ⟨rfl, rfl⟩)
        have hgk := hgj
        unfold gq at hgk
        clear hgj fF fC hQ hall
        have h5 : j = 0 ∨ j = 1 ∨ j = 2 ∨ j = 3 ∨ j = 4 := by omega
        rcases h5 with rfl | rfl | rfl | rfl | rfl
        · have hA := hR.out.1
          have hB := hR.out.2
          rw [if_neg (by decide), if_neg (by decide), if_neg (by decide)] at hA hB
          replace hA := hide hA
          replace hB := hide hB
          clear hR
          go_wp2_with (first
            | (go_at_call 157; rw [HC.out]; refine (s_l01SineWide frC.out).mono ?_; rintro e w5 ⟨c, rfl, hc, m5, rfl⟩)
            | (go_at_call 157; refine (s_l01SineWide frF.out).mono ?_; rintro e w6 ⟨sv, rfl, hs, m6, rfl⟩)
            | (go_at_call 130; refine s_Narrow.mono ?_; rintro e w7 ⟨rfl, m7, rfl⟩))
          go_ret
          exact ⟨_, _, rfl, hide ((nar_t (hc.out.trans hF.out.2) (nar_sin bC.out) _).trans hA.out.symm), hide ((nar_t (hs.out.trans hF.out.1) (nar_sin bS.out) _).trans hB.out.symm), _, rfl⟩
        · have hA := hR.out.1
          have hB := hR.out.2
          rw [if_pos rfl] at hA hB
          replace hA := hide hA
          replace hB := hide hB
          clear hR
          go_wp2_with (first
            | (go_at_call 157; rw [HC.out]; refine (s_l01SineWide frC.out).mono ?_; rintro e w5 ⟨c, rfl, hc, m5, rfl⟩)
            | (go_at_call 157; refine (s_l01SineWide frF.out).mono ?_; rintro e w6 ⟨sv, rfl, hs, m6, rfl⟩)
            | (go_at_call 130; refine s_Narrow.mono ?_; rintro e w7 ⟨rfl, m7, rfl⟩))
          go_ret
          exact ⟨_, _, rfl, hide ((nar_t (neg_t (hs.out.trans hF.out.1) _) (nar_small (bd_neg bS.out)) _).trans hA.out.symm), hide ((nar_t (hc.out.trans hF.out.2) (nar_sin bC.out) _).trans hB.out.symm), _, rfl⟩
        · have hA := hR.out.1
          have hB := hR.out.2
          rw [if_neg (by decide), if_pos rfl] at hA hB
          replace hA := hide hA
          replace hB := hide hB
          clear hR
          go_wp2_with (first
            | (go_at_call 157; rw [HC.out]; refine (s_l01SineWide frC.out).mono ?_; rintro e w5 ⟨c, rfl, hc, m5, rfl⟩)
            | (go_at_call 157; refine (s_l01SineWide frF.out).mono ?_; rintro e w6 ⟨sv, rfl, hs, m6, rfl⟩)
            | (go_at_call 130; refine s_Narrow.mono ?_; rintro e w7 ⟨rfl, m7, rfl⟩))
          go_ret
          exact ⟨_, _, rfl, hide ((nar_t (neg_t (hc.out.trans hF.out.2) _) (nar_small (bd_neg bC.out)) _).trans hA.out.symm), hide ((nar_t (neg_t (hs.out.trans hF.out.1) _) (nar_small (bd_neg bS.out)) _).trans hB.out.symm), _, rfl⟩
        · have hA := hR.out.1
          have hB := hR.out.2
          rw [if_neg (by decide), if_neg (by decide), if_pos rfl] at hA hB
          replace hA := hide hA
          replace hB := hide hB
          clear hR
          go_wp2_with (first
            | (go_at_call 157; rw [HC.out]; refine (s_l01SineWide frC.out).mono ?_; rintro e w5 ⟨c, rfl, hc, m5, rfl⟩)
            | (go_at_call 157; refine (s_l01SineWide frF.out).mono ?_; rintro e w6 ⟨sv, rfl, hs, m6, rfl⟩)
            | (go_at_call 130; refine s_Narrow.mono ?_; rintro e w7 ⟨rfl, m7, rfl⟩))
          go_ret
          exact ⟨_, _, rfl, hide ((nar_t (hs.out.trans hF.out.1) (nar_sin bS.out) _).trans hA.out.symm), hide ((nar_t (neg_t (hc.out.trans hF.out.2) _) (nar_small (bd_neg bC.out)) _).trans hB.out.symm), _, rfl⟩
        · have hA := hR.out.1
          have hB := hR.out.2
          rw [if_neg (by decide), if_neg (by decide), if_neg (by decide)] at hA hB
          replace hA := hide hA
          replace hB := hide hB
          clear hR
          go_wp2_with (first
            | (go_at_call 157; rw [HC.out]; refine (s_l01SineWide frC.out).mono ?_; rintro e w5 ⟨c, rfl, hc, m5, rfl⟩)
            | (go_at_call 157; refine (s_l01SineWide frF.out).mono ?_; rintro e w6 ⟨sv, rfl, hs, m6, rfl⟩)
            | (go_at_call 130; refine s_Narrow.mono ?_; rintro e w7 ⟨rfl, m7, rfl⟩))
          go_ret
          exact ⟨_, _, rfl, hide ((nar_t (hc.out.trans hF.out.2) (nar_sin bC.out) _).trans hA.out.symm), hide ((nar_t (hs.out.trans hF.out.1) (nar_sin bS.out) _).trans hB.out.symm), _, rfl⟩
  | false =>
    rw [h1, if_neg (by simp)] at hp
    have HX : Hid (∀ W1, flR .sub .f64 y (floatOfInt .f64 n) W1 = phI y 0) := hide (fun W1 => exact_word (by rw [hz0, hp, cn_flR]) (by rw [hz0]; exact hnn))
    clear hp hnn hz0
    go_enter Try.func140, Try.ntmps140
    go_wp2
    clear g1 g2 hne h1 hcv
    go_loopw [3, 4] (fun f q wr => ∃ j m : Nat, j ≤ 4 ∧ f = .float .f64 (phI y j) ∧ q = .int .i64 (j : Int) ∧ Hid (∀ i, i < j → gq (phI y i) = true) ∧ wr = w.drewN m) (fun _ q _ => 5 - (intOf q).toNat)
    case atStart => exact ⟨0, _, by omega, by rw [HX.out], rfl, hide (fun i hi => absurd hi (Nat.not_lt_zero _)), rfl⟩
    case round =>
      obtain ⟨j, m, hj, rfl, rfl, hall, rfl⟩ := hrel
      have hjI : (j : Int) ≤ 4 := by omega
      cases hgj : gq (phI y j) with
      | true =>
        have hj4 : j < 4 := by
          rcases Nat.lt_or_ge j 4 with h | h
          · exact h
          · obtain rfl : j = 4 := by omega
            rw [gq_end hfr.out hall.out] at hgj
            cases hgj
        have hA2 : Hid (∀ i, i < j + 1 → gq (phI y i) = true) := hide (fun i hi => by
          rcases Nat.lt_or_ge i j with h | h
          · exact hall.out i h
          · obtain rfl : i = j := by omega
            exact hgj)
        have HN : Hid (∀ W, flR .sub .f64 (phI y j) 4598175219545276416 W = phI y (j + 1)) := hide (fun W => flR_bd rfl (phI_nan hfr.out (by omega) hA2.out) W)
        unfold gq at hgj
        go_wp2
        go_roundw
        case rel => exact ⟨j + 1, _, by omega, by rw [HN.out], by go_num, hA2, rfl⟩
        case measure => (simp [intOf]; try omega)
      | false =>
        have hQ := phQ_of hj hall.out hgj
        obtain ⟨fF, fC⟩ := left_fr (phI_cap hfr.out j hj hall.out) (cap_le j) hgj
        have frF := hide fF
        have frC := hide fC
        have HC : Hid (∀ W, flR .sub .f64 4598175219545276416 (phI y j) W = fb .sub .f64 4598175219545276416 (phI y j)) := hide (fun W => flR_bd rfl (fr_nan fC (by decide)) W)
        have hF : Hid (sinV (phI y j) = phS y ∧ sinV (fb .sub .f64 4598175219545276416 (phI y j)) = phC y) := hide (by unfold phS phC phF; rw [hQ]; exact ⟨rfl, rfl⟩)
        have bS := hide (bd_sin fF)
        have bC := hide (bd_sin fC)
        rw [hF.out.1] at bS
        rw [hF.out.2] at bC
        have hR : Hid (phRe y = (if j = 1 then nar (fb .sub .f64 0 (phS y)) else if j = 2 then nar (fb .sub .f64 0 (phC y)) else if j = 3 then nar (phS y) else nar (phC y)) ∧ phIm y = (if j = 1 then nar (phC y) else if j = 2 then nar (fb .sub .f64 0 (phS y)) else if j = 3 then nar (fb .sub .f64 0 (phC y)) else nar (phS y))) := hide (by unfold phRe phIm; rw [hQ]; exact ⟨rfl, rfl⟩)
        have hgk := hgj
        unfold gq at hgk
        clear hgj fF fC hQ hall
        have h5 : j = 0 ∨ j = 1 ∨ j = 2 ∨ j = 3 ∨ j = 4 := by omega
        rcases h5 with rfl | rfl | rfl | rfl | rfl
        · have hA := hR.out.1
          have hB := hR.out.2
          rw [if_neg (by decide), if_neg (by decide), if_neg (by decide)] at hA hB
          replace hA := hide hA
          replace hB := hide hB
          clear hR
          go_wp2_with (first
            | (go_at_call 157; rw [HC.out]; refine (s_l01SineWide frC.out).mono ?_; rintro e w5 ⟨c, rfl, hc, m5, rfl⟩)
            | (go_at_call 157; refine (s_l01SineWide frF.out).mono ?_; rintro e w6 ⟨sv, rfl, hs, m6, rfl⟩)
            | (go_at_call 130; refine s_Narrow.mono ?_; rintro e w7 ⟨rfl, m7, rfl⟩))
          go_ret
          exact ⟨_, _, rfl, hide ((nar_t (hc.out.trans hF.out.2) (nar_sin bC.out) _).trans hA.out.symm), hide ((nar_t (hs.out.trans hF.out.1) (nar_sin bS.out) _).trans hB.out.symm), _, rfl⟩
        · have hA := hR.out.1
          have hB := hR.out.2
          rw [if_pos rfl] at hA hB
          replace hA := hide hA
          replace hB := hide hB
          clear hR
          go_wp2_with (first
            | (go_at_call 157; rw [HC.out]; refine (s_l01SineWide frC.out).mono ?_; rintro e w5 ⟨c, rfl, hc, m5, rfl⟩)
            | (go_at_call 157; refine (s_l01SineWide frF.out).mono ?_; rintro e w6 ⟨sv, rfl, hs, m6, rfl⟩)
            | (go_at_call 130; refine s_Narrow.mono ?_; rintro e w7 ⟨rfl, m7, rfl⟩))
          go_ret
          exact ⟨_, _, rfl, hide ((nar_t (neg_t (hs.out.trans hF.out.1) _) (nar_small (bd_neg bS.out)) _).trans hA.out.symm), hide ((nar_t (hc.out.trans hF.out.2) (nar_sin bC.out) _).trans hB.out.symm), _, rfl⟩
        · have hA := hR.out.1
          have hB := hR.out.2
          rw [if_neg (by decide), if_pos rfl] at hA hB
          replace hA := hide hA
          replace hB := hide hB
          clear hR
          go_wp2_with (first
            | (go_at_call 157; rw [HC.out]; refine (s_l01SineWide frC.out).mono ?_; rintro e w5 ⟨c, rfl, hc, m5, rfl⟩)
            | (go_at_call 157; refine (s_l01SineWide frF.out).mono ?_; rintro e w6 ⟨sv, rfl, hs, m6, rfl⟩)
            | (go_at_call 130; refine s_Narrow.mono ?_; rintro e w7 ⟨rfl, m7, rfl⟩))
          go_ret
          exact ⟨_, _, rfl, hide ((nar_t (neg_t (hc.out.trans hF.out.2) _) (nar_small (bd_neg bC.out)) _).trans hA.out.symm), hide ((nar_t (neg_t (hs.out.trans hF.out.1) _) (nar_small (bd_neg bS.out)) _).trans hB.out.symm), _, rfl⟩
        · have hA := hR.out.1
          have hB := hR.out.2
          rw [if_neg (by decide), if_neg (by decide), if_pos rfl] at hA hB
          replace hA := hide hA
          replace hB := hide hB
          clear hR
          go_wp2_with (first
            | (go_at_call 157; rw [HC.out]; refine (s_l01SineWide frC.out).mono ?_; rintro e w5 ⟨c, rfl, hc, m5, rfl⟩)
            | (go_at_call 157; refine (s_l01SineWide frF.out).mono ?_; rintro e w6 ⟨sv, rfl, hs, m6, rfl⟩)
            | (go_at_call 130; refine s_Narrow.mono ?_; rintro e w7 ⟨rfl, m7, rfl⟩))
          go_ret
          exact ⟨_, _, rfl, hide ((nar_t (hs.out.trans hF.out.1) (nar_sin bS.out) _).trans hA.out.symm), hide ((nar_t (neg_t (hc.out.trans hF.out.2) _) (nar_small (bd_neg bC.out)) _).trans hB.out.symm), _, rfl⟩
        · have hA := hR.out.1
          have hB := hR.out.2
          rw [if_neg (by decide), if_neg (by decide), if_neg (by decide)] at hA hB
          replace hA := hide hA
          replace hB := hide hB
          clear hR
          go_wp2_with (first
            | (go_at_call 157; rw [HC.out]; refine (s_l01SineWide frC.out).mono ?_; rintro e w5 ⟨c, rfl, hc, m5, rfl⟩)
            | (go_at_call 157; refine (s_l01SineWide frF.out).mono ?_; rintro e w6 ⟨sv, rfl, hs, m6, rfl⟩)
            | (go_at_call 130; refine s_Narrow.mono ?_; rintro e w7 ⟨rfl, m7, rfl⟩))
          go_ret
          exact ⟨_, _, rfl, hide ((nar_t (hc.out.trans hF.out.2) (nar_sin bC.out) _).trans hA.out.symm), hide ((nar_t (hs.out.trans hF.out.1) (nar_sin bS.out) _).trans hB.out.symm), _, rfl⟩
end Go.Proofs.Ytolbibpmngmpdaa
