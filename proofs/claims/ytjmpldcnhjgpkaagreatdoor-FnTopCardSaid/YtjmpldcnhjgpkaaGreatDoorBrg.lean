/-
  The sine of a number of turns from 0 to a quarter: both sides' walks.
-/
import Derived.Test.YtjmpldcnhjgpkaaGreatDoorPhQ
import Derived.Test.YtjmpldcnhjgpkaaGreatDoorSeqB
import Derived.Test.YtjmpldcnhjgpkaaGreatDoorBd
import Derived.Test.YtjmpldcnhjgpkaaGreatDoorLogP
import Derived.Test.YtjmpldcnhjgpkaaGreatDoorChP
import Derived.RegionTactic
import Derived.BigRegion
import Derived.Deep.RegionWith
namespace Go.Proofs.YtjmpldcnhjgpkaaGreatDoor
open Go.RowKit Mem Fl
set_option linter.unusedVariables false
set_option maxRecDepth 100000

theorem fr_half {x : Nat} (h : Fr 4598175219545276416 x) : (FloatKind.f64.format.order x 4602678819172646912 == some .gt || FloatKind.f64.format.order x 4602678819172646912 == some .eq) = false := by
  rcases h with h | h
  · rw [ge_pos (by rw [d64_inf]; omega) (by rw [d64_inf]; omega), decide_eq_false (by omega)]
  · subst h; decide +kernel
theorem fr_quart {x : Nat} (h : Fr 4598175219545276416 x) : (FloatKind.f64.format.order x 4598175219545276416 == some .gt) = false := by
  rcases h with h | h
  · rw [gt_pos (by rw [d64_inf]; omega) (by rw [d64_inf]; omega), decide_eq_false (by omega)]
  · subst h; decide +kernel
theorem fr_neg {x C : Nat} (h : Fr C x) (hC : C ≤ 4607182418800017408) : (FloatKind.f64.format.order x 0 == some .lt) = false := by
  rcases h with h | h
  · rw [lt_pos (by rw [d64_inf]; omega) (by rw [d64_inf]; omega), decide_eq_false (Nat.not_lt_zero _)]
  · subst h; decide +kernel
theorem fr_nan {x C : Nat} (h : Fr C x) (hC : C ≤ 4607182418800017408) : isNan .f64 x = false := by
  rcases h with h | h
  · exact num_nan (read_pos (by rw [d64_inf]; omega))
  · subst h; decide +kernel
theorem fr_big {x : Nat} (h : Fr 4598175219545276416 x) : (FloatKind.f64.format.order x 4841369599423283200 == some .gt || FloatKind.f64.format.order x 4841369599423283200 == some .eq) = false := by
  rcases h with h | h
  · rw [ge_pos (by rw [d64_inf]; omega) (by rw [d64_inf]; omega), decide_eq_false (by omega)]
  · subst h; decide +kernel
theorem pos_gt_neg {r : Nat} (h : r < 9218868437227405312) : FloatKind.f64.format.order r 14064741636278059008 = some .gt := by
  have rx := read_pos (k := .f64) (r := r) (by rw [d64_inf]; exact h)
  have ry : FloatKind.f64.format.read 14064741636278059008 = .number true 4503599627370496 0 := by decide +kernel
  unfold Ieee.Format.order
  rw [rx, ry]
  simp only [Ieee.Datum.order]
  rw [sgn_f, sgn_t, compare_int]
  have hp := Nat.mul_pos (show 0 < 4503599627370496 by omega) (Nat.two_pow_pos (0 - min (placeOf FloatKind.f64.format r) 0).toNat)
  rw [if_neg (by omega), if_neg (by omega)]
theorem fr_low {x : Nat} (h : Fr 4598175219545276416 x) : (FloatKind.f64.format.order x 14064741636278059008 == some .lt || FloatKind.f64.format.order x 14064741636278059008 == some .eq) = false := by
  rcases h with h | h
  · rw [pos_gt_neg (by omega)]; rfl
  · subst h; decide +kernel
theorem fr_fin {x : Nat} (h : Fr 4598175219545276416 x) : (FloatKind.f64.format.order (fb .sub .f64 x x) 0 != some .eq) = false := by
  have : fin .f64 x = true := by
    obtain ⟨s, r, hr, _⟩ := (fr_bd h).read
    exact (fin_iff .f64 x).2 ⟨_, _, _, hr⟩
  unfold fin at this
  rw [bne, this]; rfl
theorem frV_id {x : Nat} (h : Fr 4598175219545276416 x) : frV x = x := by
  have hT : frT x = 0 := by unfold frT; rw [fr_int h]; rfl
  have h0 : fr0 x = x := by unfold fr0; rw [hT]; exact fr_sub h (by decide)
  unfold frV
  rw [h0, fr_neg h (by decide), if_neg (by simp)]
theorem exact_word {k : FloatKind} {z x : Nat} (h : cn k z = x) (hx : isNan k x = false) : z = x := (eq_of_cn (k := k) (a := x) (by rw [cn_num hx, h]) hx).symm
theorem conv_int {x : Nat} {n : Int} (h : floatToIntVal .f64 x .i64 = some n) (W : World) : (convert 172 2 (.float .f64 x)).run Tryz.prog W = .ok (.int .i64 n) W :=
  run_convert_float_int (P := Tryz.prog) (w := W) 172 2 .f64 .i64 _ _ (by rw [Tryz.underlying172]; rfl) Tryz.underlying2 h
theorem k8_ge : ∀ j : Nat, j < 9 → (FloatKind.f64.format.order (floatOfInt .f64 (8 - ((j : Nat) : Int))) 4607182418800017408 == some .gt || FloatKind.f64.format.order (floatOfInt .f64 (8 - ((j : Nat) : Int))) 4607182418800017408 == some .eq) = decide (j < 8) := by decide +kernel
theorem k8_next : ∀ j : Nat, j < 8 → fb .sub .f64 (floatOfInt .f64 (8 - ((j : Nat) : Int))) 4607182418800017408 = floatOfInt .f64 (8 - ((j + 1 : Nat) : Int)) := by decide +kernel
theorem k8_dec : ∀ j : Nat, j < 8 → kM (floatOfInt .f64 (8 - ((j + 1 : Nat) : Int))) < kM (floatOfInt .f64 (8 - ((j : Nat) : Int))) := by decide +kernel
theorem k8_den : ∀ j : Nat, j < 8 → fb .mul .f64 (fb .mul .f64 4611686018427387904 (floatOfInt .f64 (8 - ((j : Nat) : Int)))) (fb .add .f64 (fb .mul .f64 4611686018427387904 (floatOfInt .f64 (8 - ((j : Nat) : Int)))) 4607182418800017408) = floatOfInt .f64 (2 * (8 - ((j : Nat) : Int)) * (2 * (8 - ((j : Nat) : Int)) + 1)) := by decide +kernel
theorem k8_rng : ∀ j : Nat, j < 8 → 0 ≤ 2 * (8 - ((j : Nat) : Int)) * (2 * (8 - ((j : Nat) : Int)) + 1) ∧ 2 * (8 - ((j : Nat) : Int)) * (2 * (8 - ((j : Nat) : Int)) + 1) ≤ 272 := by decide +kernel
theorem k8_zero : (4620693217682128896 : Nat) = floatOfInt .f64 (8 - ((0 : Nat) : Int)) := by decide +kernel
theorem one_cn : cn .f64 4607182418800017408 = 4607182418800017408 := by decide +kernel
/-- One round, with the divisor told. -/
theorem p_step {U u p D d : Nat} {j : Nat} (hu : cn .f64 u = U) (hp : cn .f64 p = sinP U j) (hd : cn .f64 d = D) (hD : D = floatOfInt .f64 (2 * (8 - (j : Int)) * (2 * (8 - (j : Int)) + 1))) (w1 w2 w3 : World) :
    cn .f64 (flR .sub .f64 4607182418800017408 (flR .quo .f64 (flR .mul .f64 u p w1) d w2) w3) = sinP U (j + 1) := by
  have h1 : fb .mul .f64 u p = fb .mul .f64 U (sinP U j) := by rw [← fb_cn .mul .f64 u p, hu, hp]
  rw [cn_flR, ← fb_cnr, cn_flR, ← fb_cn .quo, cn_flR, hd, h1, hD]
  rfl
theorem den_step (K : Nat) (w1 w2 w3 w4 : World) : cn .f64 (flR .mul .f64 (flR .mul .f64 4611686018427387904 K w1) (flR .add .f64 (flR .mul .f64 4611686018427387904 K w2) 4607182418800017408 w3) w4) = fb .mul .f64 (fb .mul .f64 4611686018427387904 K) (fb .add .f64 (fb .mul .f64 4611686018427387904 K) 4607182418800017408) := by
  rw [cn_flR, ← fb_cn, cn_flR, cn_flR, ← fb_cnl .add, cn_flR]
theorem z_step {x : Nat} (w : World) : cn .f64 (flR .mul .f64 x 4618760256179416344 w) = sinZ x := by rw [cn_flR]; rfl
theorem z_step2 {x : Nat} (h : ∀ W, flR .sub .f64 x (floatOfInt .f64 0) W = x) (w1 w2 : World) : cn .f64 (flR .mul .f64 (flR .sub .f64 x (floatOfInt .f64 0) w1) 4618760256179416344 w2) = sinZ x := by rw [h, cn_flR]; rfl
theorem sin_end {x z p : Nat} (hz : cn .f64 z = sinZ x) (hp : cn .f64 p = sinP (fb .mul .f64 (sinZ x) (sinZ x)) 8) (w : World) : cn .f64 (flR .mul .f64 z p w) = sinV x := by
  rw [cn_flR, ← fb_cn, hz, hp]; rfl
end Go.Proofs.YtjmpldcnhjgpkaaGreatDoor

/-
  Contracts of 'the same number', for one and for lists: the program's and the reference's.
-/
namespace Go.Proofs.YtjmpldcnhjgpkaaGreatDoor
open Go.RowKit Fl Mem
set_option linter.unusedVariables false
set_option maxRecDepth 100000

/-- Are two words the same number. -/
def sameN (a b : Nat) : Bool := decide (cn .f32 a = cn .f32 b)
def sgn (a : Nat) : Bool := a / 2147483648 % 2 == 1
/-- 'float64(x)' of what is no not-a-number. -/
def wideS (a : Nat) : Nat := (cvBits .f32 .f64 a).getD 0
theorem f64_sw : FloatKind.f64.format.signWeight = 9223372036854775808 := by decide +kernel
theorem wideS_ok {a : Nat} (h : isNan .f32 a = false) : (∀ W, cvR .f32 .f64 a W = wideS a) ∧ cvN .f32 .f64 a = 0 ∧ decide (9223372036854775808 ≤ wideS a) = sgn a ∧ wideS a < 18446744073709551616 := by
  have hw : ∀ s r, r < 9223372036854775808 → decide (9223372036854775808 ≤ FloatKind.f64.format.word s r) = s ∧ FloatKind.f64.format.word s r < 18446744073709551616 := by
    intro s r hr
    unfold Ieee.Format.word
    rw [f64_sw]
    cases s
    · rw [if_neg (by simp)]; exact ⟨decide_eq_false (by omega), by omega⟩
    · rw [if_pos rfl]; exact ⟨decide_eq_true (by omega), by omega⟩
  have hsw : FloatKind.f32.format.signWeight = 2147483648 := by decide +kernel
  cases hd : FloatKind.f32.decode a with
  | nan s t =>
    exfalso
    have : FloatKind.f32.format.read a = .nan s t := hd
    unfold isNan at h
    rw [this] at h; cases h
  | infinity s =>
    have hc : cvBits .f32 .f64 a = some (FloatKind.f64.encode (.infinity s)) := by simp [cvBits, hd]
    have hs := (read_inf (k := .f32) (x := a) hd).1
    rw [hsw] at hs
    have h1 := hw s FloatKind.f64.format.infRung (by decide +kernel)
    refine ⟨fun W => by unfold cvR wideS; rw [hc]; rfl, by unfold cvN; rw [hc]; rfl, ?_, ?_⟩
    · unfold wideS sgn; rw [hc, ← hs]; exact h1.1
    · unfold wideS; rw [hc]; exact h1.2
  | number s m e =>
    have hc := cvBits_num hd
    have hs := (read_of_rung (k := .f32) (x := a) hd).1
    rw [hsw] at hs
    obtain ⟨b1, b2, b3⟩ := read32 hd
    obtain ⟨r, hr, hlt⟩ := nearest64_lt s m e b1 b2 b3
    have hi : FloatKind.f64.format.infRung = 9218868437227405312 := by decide +kernel
    rw [hi] at hlt
    have h1 := hw s r (by omega)
    have he : FloatKind.f64.encode (.number s m e) = FloatKind.f64.format.word s r := hr
    refine ⟨fun W => by unfold cvR wideS; rw [hc]; rfl, by unfold cvN; rw [hc]; rfl, ?_, ?_⟩
    · unfold wideS sgn; rw [hc, ← hs, Option.getD_some, he]; exact h1.1
    · unfold wideS; rw [hc, Option.getD_some, he]; exact h1.2

theorem nan_iff (a : Nat) : (FloatKind.f32.format.order a a != some Ordering.eq) = isNan .f32 a := by
  rw [order_self]
  cases isNan .f32 a <;> rfl
theorem sameN_nan {a b : Nat} (ha : isNan .f32 a = true) : sameN a b = isNan .f32 b := by
  unfold sameN
  rw [cn_nan ha]
  cases hb : isNan .f32 b
  · rw [cn_num hb]
    refine decide_eq_false (fun he => ?_)
    rw [← he, isNan_nanOf] at hb
    cases hb
  · rw [cn_nan hb]; exact decide_eq_true rfl
theorem sameN_nan' {a b : Nat} (ha : isNan .f32 a = false) (hb : isNan .f32 b = true) : sameN a b = false := by
  unfold sameN
  rw [cn_num ha, cn_nan hb]
  refine decide_eq_false (fun he => ?_)
  rw [he, isNan_nanOf] at ha
  cases ha
theorem sameN_num {a b : Nat} (wa : Wf .f32 a) (wb : Wf .f32 b) (ha : isNan .f32 a = false) (hb : isNan .f32 b = false) :
    sameN a b = ((FloatKind.f32.format.order a b == some Ordering.eq) && (sgn a == sgn b)) := by
  unfold sameN
  rw [cn_num ha, cn_num hb, Bool.eq_iff_iff, decide_eq_true_iff, Bool.and_eq_true]
  constructor
  · rintro rfl
    rw [order_self, ha]
    simp
  · rintro ⟨h1, h2⟩
    rcases order_eq wa wb (by simpa using h1) with h | ⟨s, i, t, j, ra, rb⟩
    · exact h
    · obtain ⟨a1, _, a3, _⟩ := read_of_rung ra
      obtain ⟨b1, _, b3, _⟩ := read_of_rung rb
      have za := mag_zero a3.symm
      have zb := mag_zero b3.symm
      rw [wf_word wa, wf_word wb, za, zb]
      have hsw : FloatKind.f32.format.signWeight = 2147483648 := by decide +kernel
      unfold sgn at h2
      rw [← hsw, beq_iff_eq] at h2
      rw [h2]

section
variable {P : Program} {f : FuncId} {fn : Func}
theorem run_call_bits64 (hf : P.funcs[f]? = some fn) (hname : (fn.name == "runtime.NumGoroutine") = false) (hb : fn.body.isNone = true) (hn : Extern.findNext fn = none) (he : Extern.find fn = some Extern.MathFloatBits.float64bits) (y : Nat) (w : World) :
    (callFunc f #[.float .f64 y]).run P w = .ok (.value (.int .u64 (y : Int))) w := by
  rw [run_callFunc_extern hf hname hb hn he]
  rfl
theorem run_call_bits32 (hf : P.funcs[f]? = some fn) (hname : (fn.name == "runtime.NumGoroutine") = false) (hb : fn.body.isNone = true) (hn : Extern.findNext fn = none) (he : Extern.find fn = some Extern.MathFloatBits.float32bits) (y : Nat) (w : World) :
    (callFunc f #[.float .f32 y]).run P w = .ok (.value (.int .u32 (y : Int))) w := by
  rw [run_callFunc_extern hf hname hb hn he]
  rfl
end

theorem signbit_calls {y : Nat} {w : World} (hy : y < 18446744073709551616) : Calls Tryz.prog 128 #[.float .f64 y] w fun e w' => e = .returned (.bool (decide (9223372036854775808 ≤ y))) ∧ w = w' := by
  have hs := fun (y : Nat) (w : World) => run_call_bits64 (P := Tryz.prog) (f := 165) Tryz.func165 (by kernel_rfl) (by kernel_rfl) (by kernel_rfl) (by rfl) y w
  go_enter Tryz.func128, Tryz.ntmps128
  go_wp2
  go_ret
  refine ⟨ret_bool ?_, rfl⟩
  rw [Bool.eq_iff_iff, decide_eq_true_iff, decide_eq_true_iff]
  unfold wrap64
  omega

set_option maxHeartbeats 1000000 in
theorem i_SameNumber {a b : Nat} {w : World} (wa : Wf .f32 a) (wb : Wf .f32 b) : Calls Tryz.prog 98 #[.float .f32 a, .float .f32 b] w fun e w' => e = .returned (.bool (sameN a b)) ∧ w = w' := by
  have hna := nan_iff a
  have hnb := nan_iff b
  cases ha : isNan .f32 a with
  | true =>
    have Hs := hide (sameN_nan (b := b) ha)
    rw [ha] at hna
    clear ha
    cases hb : isNan .f32 b with
    | true =>
      rw [hb] at hnb Hs
      clear hb
      go_enter Tryz.func98, Tryz.ntmps98
      go_wp2
      go_ret
      exact ⟨ret_bool Hs.out.symm, rfl⟩
    | false =>
      rw [hb] at hnb Hs
      clear hb
      go_enter Tryz.func98, Tryz.ntmps98
      go_wp2
      go_ret
      exact ⟨ret_bool Hs.out.symm, rfl⟩
  | false =>
    cases hb : isNan .f32 b with
    | true =>
      have Hs := hide (sameN_nan' ha hb)
      rw [hb] at hnb
      rw [ha] at hna
      clear ha hb
      go_enter Tryz.func98, Tryz.ntmps98
      go_wp2
      go_ret
      exact ⟨ret_bool Hs.out.symm, rfl⟩
    | false =>
      have Hs := hide (sameN_num wa wb ha hb)
      rw [hb] at hnb
      rw [ha] at hna
      obtain ⟨a1, a2, a3, a4⟩ := wideS_ok ha
      obtain ⟨b1, b2, b3, b4⟩ := wideS_ok hb
      have Ha3 := hide a3
      have Hb3 := hide b3
      clear ha hb a3 b3
      cases ho : (FloatKind.f32.format.order a b == some Ordering.eq) with
      | false =>
        rw [ho] at Hs
        go_enter Tryz.func98, Tryz.ntmps98
        go_wp2
        go_ret
        exact ⟨ret_bool Hs.out.symm, rfl⟩
      | true =>
        rw [ho] at Hs
        go_enter Tryz.func98, Tryz.ntmps98
        go_wp2_with (first | (have _t := HA2; go_at_call 128; refine (signbit_calls b4).mono ?_; rintro e w' ⟨rfl, rfl⟩) | (go_at_call 128; refine (signbit_calls a4).mono ?_; rintro e w' ⟨rfl, rfl⟩; have HA2 : True := trivial))
        go_ret
        refine ⟨ret_bool ?_, rfl⟩
        rw [Hs.out, ← Ha3.out, ← Hb3.out]
        rfl
end Go.Proofs.YtjmpldcnhjgpkaaGreatDoor

/-
  The point of the unit circle at some turns: the program's walk.
-/
namespace Go.Proofs.YtjmpldcnhjgpkaaGreatDoor
open Go.RowKit Mem Fl
set_option linter.unusedVariables false
set_option maxRecDepth 100000

theorem abs_bits {y : Nat} (hy : y < 18446744073709551616) : bits .andNot .u64 (y : Int) 9223372036854775808 = ((y % 9223372036854775808 : Nat) : Int) := by
  have e1 : (BitVec.ofInt 64 (y : Int)).toNat = y := by
    rw [BitVec.toNat_ofInt]; omega
  have e2 : (~~~(BitVec.ofInt 64 9223372036854775808)).toNat = 2 ^ 63 - 1 := by decide +kernel
  have e3 : ((BitVec.ofInt 64 (y : Int)) &&& ~~~(BitVec.ofInt 64 9223372036854775808)).toNat = y % 9223372036854775808 := by
    rw [BitVec.toNat_and, e1, e2, Nat.and_two_pow_sub_one_eq_mod]
  unfold bits
  show IntKind.u64.wrap (((BitVec.ofInt 64 (y : Int)) &&& ~~~(BitVec.ofInt 64 9223372036854775808)).toNat : Int) = _
  rw [e3]
  have := Nat.mod_lt y (show 0 < 9223372036854775808 by omega)
  show ((y % 9223372036854775808 : Nat) : Int) % 18446744073709551616 = _
  omega
section
variable {P : Program} {f : FuncId} {fn : Func}
theorem run_call_frombits64 (hf : P.funcs[f]? = some fn) (hname : (fn.name == "runtime.NumGoroutine") = false) (hb : fn.body.isNone = true) (hn : Extern.findNext fn = none) (he : Extern.find fn = some Extern.MathFloatBits.float64frombits) (y : Nat) (w : World) :
    (callFunc f #[.int .u64 (y : Int)]).run P w = .ok (.value (.float .f64 y)) w := by
  rw [run_callFunc_extern hf hname hb hn he]
  rfl
end
theorem nar_t {z S : Nat} (h : cn .f64 z = S) (hS : narOk S) (w : World) : cn .f32 (cvR .f64 .f32 z w) = nar S := by
  rw [cn_cvR64 (narOk_cn.1 (by rw [h]; exact hS)), ← nar_cn, h]
theorem neg_t {z S : Nat} (h : cn .f64 z = S) (w : World) : cn .f64 (flR .sub .f64 0 z w) = fb .sub .f64 0 S := by rw [cn_flR, ← fb_cnr, h]
theorem two52_vv : ∃ d : Nat, vv .f64 4841369599423283200 = 2 ^ d ∧ d = 52 + 1074 := ⟨1126, by decide +kernel, rfl⟩
/-- A number below 2 to the 52 in size. -/
theorem small_facts {s : Bool} {r : Nat} (h : r < 4841369599423283200) : floatToIntVal .f64 (FloatKind.f64.format.word s r) .i64 = some (frT (FloatKind.f64.format.word s r)) ∧ Fr 4607182418800017408 (frV (FloatKind.f64.format.word s r)) ∧ fin .f64 (FloatKind.f64.format.word s r) = true := by
  have hi : r < FloatKind.f64.format.infRung := by rw [d64_inf]; omega
  have rx := read_word (k := .f64) (s := s) hi
  have pr := place_ge FloatKind.f64.format r
  rw [d64_least] at pr
  obtain ⟨d, hd1, hd2⟩ := two52_vv
  have hv := vv_lt (k := .f64) h
  have hf : floorv (magOf FloatKind.f64.format r) (placeOf FloatKind.f64.format r) < 2 ^ 52 := by
    obtain ⟨c, hc⟩ : ∃ c : Nat, c = 1074 := ⟨_, rfl⟩
    refine floor_lt (c := c) (by omega) ?_
    have h2 : vv .f64 r = magOf FloatKind.f64.format r * 2 ^ (placeOf FloatKind.f64.format r + c).toNat := by
      unfold vv; rw [d64_least, hc]; congr 2
    rw [← h2, hc, ← hd2, ← hd1]
    exact hv
  obtain ⟨h1, h2⟩ := fr0_bd rx pr (Nat.lt_of_lt_of_le hf (Nat.pow_le_pow_right (by omega) (by omega)))
  exact ⟨h1, frV_fr h2, (fin_iff .f64 _).2 ⟨_, _, _, rx⟩⟩
theorem word_mod {s : Bool} {r : Nat} (h : r < 9218868437227405312) : FloatKind.f64.format.word s r % 9223372036854775808 = r ∧ FloatKind.f64.format.word s r < 18446744073709551616 := by
  have hsw : FloatKind.f64.format.signWeight = 9223372036854775808 := by decide +kernel
  unfold Ieee.Format.word
  rw [hsw]
  cases s
  · rw [if_neg (by simp)]; omega
  · rw [if_pos rfl]; omega
theorem phI_nan {y j : Nat} (h : Fr 4607182418800017408 (frV y)) (hj : j ≤ 4) (hg : ∀ i, i < j → gq (phI y i) = true) : isNan .f64 (phI y j) = false := fr_nan (phI_cap h j hj hg) (cap_le j)
end Go.Proofs.YtjmpldcnhjgpkaaGreatDoor

/-
  Contracts of the helpers of the laws, continued: marks that are written and held, comparisons of whole numbers and of truths.
-/
namespace Go.Proofs.YtjmpldcnhjgpkaaGreatDoor
open Go.RowKit Fl Mem
set_option linter.unusedVariables false
set_option maxRecDepth 100000

theorem isNan_word {k : FloatKind} {s : Bool} {r : Nat} (h : r ≤ k.format.infRung) : isNan k (k.format.word s r) = false := by
  unfold isNan Ieee.Format.read Ieee.Format.word
  have hlt := Ieee.Format.infRung_lt k.format
  have hw : 0 < k.format.signWeight := by omega
  have hm : (if s = true then k.format.signWeight + r else r) % k.format.signWeight = r := by
    split
    · rw [Nat.add_mod_left, Nat.mod_eq_of_lt (by omega)]
    · exact Nat.mod_eq_of_lt (by omega)
  simp only [hm]
  split
  · rfl
  · split
    · rfl
    · rw [if_pos (by omega)]; rfl
theorem isNan_nearest (k : FloatKind) (s : Bool) (m : Nat) (e : Int) : isNan k (k.format.nearest s m e) = false := by
  unfold Ieee.Format.nearest
  split
  · exact isNan_word (Nat.zero_le _)
  · exact isNan_word (Nat.min_le_right _ _)
theorem isNan_ofInt (k : FloatKind) (n : Int) : isNan k (floatOfInt k n) = false := isNan_nearest _ _ _ _

/-- The marks of n places, from k on. -/
def marksOf {α : Type} (F : Int → α) (k n : Nat) : List α := (List.range n).map fun i => F ((k + i : Nat) : Int)
theorem marksOf_len {α : Type} (F : Int → α) (k n : Nat) : (marksOf F k n).length = n := by simp [marksOf]
theorem marksOf_at {α : Type} {F : Int → α} {k n i : Nat} (h : i < n) : (marksOf F k n)[i]? = some (F ((k + i : Nat) : Int)) := by
  simp [marksOf, h]

/-- The cells of a row of which the first i are marks. -/
def half (F : Int → Value) (k i : Nat) (cs : List Value) : List Value := marksOf F k i ++ cs.drop i
theorem half_len {F : Int → Value} {k i : Nat} {cs : List Value} (h : i ≤ cs.length) : (half F k i cs).length = cs.length := by
  simp [half, marksOf_len]; omega
theorem half_set {F : Int → Value} {k i : Nat} {cs : List Value} (h : i < cs.length) : (half F k i cs).set i (F ((k + i : Nat) : Int)) = half F k (i + 1) cs := by
  unfold half
  apply List.ext_getElem?
  intro j
  rw [List.getElem?_set]
  simp only [List.length_append, marksOf_len, List.length_drop]
  by_cases hj : i = j
  · subst hj
    rw [if_pos rfl, if_pos (by omega), List.getElem?_append_left (by rw [marksOf_len]; omega), marksOf_at (by omega)]
  · rw [if_neg hj]
    rcases Nat.lt_or_ge j i with h1 | h1
    · rw [List.getElem?_append_left (by rw [marksOf_len]; omega), List.getElem?_append_left (by rw [marksOf_len]; omega), marksOf_at h1, marksOf_at (by omega)]
    · rw [List.getElem?_append_right (by rw [marksOf_len]; omega), List.getElem?_append_right (by rw [marksOf_len]; omega)]
      simp only [marksOf_len, List.getElem?_drop]
      congr 1
      omega
theorem half_all {F : Int → Value} {k : Nat} {cs : List Value} : half F k cs.length cs = marksOf F k cs.length := by
  unfold half; simp

/-- One cell of an owned row is written. -/
theorem own_set {w : World} {base : Nat} {e : TypeId} {g n c : Nat} {xs : List Value} (h : w.ownsRow base e 1 (.slice (some ⟨g, 0, none⟩) n c) n xs) {i : Nat} (hi : i < n) (u : Value) :
    (w.setCell ⟨g, i, none⟩ u).ownsRow base e 1 (.slice (some ⟨g, 0, none⟩) n c) n (xs.set i u) := by
  obtain ⟨h1, h2⟩ := h
  refine ⟨by simpa using h1, ?_⟩
  rcases h2 with ⟨h2, _⟩ | ⟨g', cap, cur, hv, hb, hg, hnc, hcm, hcs, htake⟩
  · cases h2
  · injection hv with hv1 _ hv2
    injection hv1 with hv1
    injection hv1 with hv1
    subst hv1
    subst hv2
    refine .inr ⟨g, c, cur.setIfInBounds i u, rfl, hb, ?_, hnc, hcm, by simpa using hcs, ?_⟩
    · have := Blk.set_ (w := w) (g := g) (t := e) (cs := cur) hg i u
      exact this
    · rw [← htake, Array.toList_setIfInBounds]
      simp only [Nat.mul_one]
      rw [List.take_set]
theorem own_cell {w : World} {base : Nat} {e : TypeId} {g n c : Nat} {xs : List Value} (h : w.ownsRow base e 1 (.slice (some ⟨g, 0, none⟩) n c) n xs) {i : Nat} {u : Value} (hu : xs[i]? = some u) :
    w.cell? ⟨g, i, none⟩ = some u ∧ w.frozen? ⟨g, i, none⟩ = false := by
  refine ⟨by have := h.cells (g := g) rfl i u hu; simpa [Addr.add_lit] using this, ?_⟩
  rcases h.2 with ⟨h2, _⟩ | ⟨g', cap, cur, hv, hb, hg, _⟩
  · cases h2
  · injection hv with hv1 _ _
    injection hv1 with hv1
    injection hv1 with hv1
    subst hv1
    exact Blk.frozen (w := w) (t := e) (cs := cur) hg i
theorem own_addr {w : World} {base : Nat} {e : TypeId} {size n : Nat} {v : Value} {xs : List Value} (h : w.ownsRow base e size v n xs) (hn : 0 < n) : ∃ g c, v = .slice (some ⟨g, 0, none⟩) n c := by
  rcases h.2 with ⟨_, h0⟩ | ⟨g, cap, cur, rfl, _⟩
  · omega
  · exact ⟨g, cap, rfl⟩
theorem own_len {w : World} {base : Nat} {e : TypeId} {n : Nat} {v : Value} {xs : List Value} (h : w.ownsRow base e 1 v n xs) : xs.length = n := by have := h.1; omega

/-- Two owned rows of which the second one's base lies beyond the first one's block. -/
theorem own_apart {w w2 : World} {b1 b2 : Nat} {e1 e2 : TypeId} {s1 s2 n1 n2 : Nat} {v1 v2 : Value} {xs1 xs2 : List Value} (h1 : w.ownsRow b1 e1 s1 v1 n1 xs1) (h2 : w2.ownsRow b2 e2 s2 v2 n2 xs2)
    (hs : w.heap.size ≤ b2) : v1.ownBlock = none ∨ v1.ownBlock ≠ v2.ownBlock := by
  cases hv : v1.ownBlock with
  | none => exact .inl rfl
  | some k =>
    refine .inr (fun he => ?_)
    have := (h1.lt k hv).2
    have := (h2.lt k he.symm).1
    omega


/-- A mark as a number, a whole number, a truth. -/
def mkF (k : Int) : Value := .float .f32 (floatOfInt .f32 k)
def mkI (k : Int) : Value := .int .i64 k
def mkB (k : Int) : Value := .bool (k % 3 == 0)

end Go.Proofs.YtjmpldcnhjgpkaaGreatDoor

/-
  Contracts of the helpers of the laws on lives, laws, chains, plans and desks.
-/
namespace Go.Proofs.YtjmpldcnhjgpkaaGreatDoor
open Go.RowKit Fl Mem
set_option linter.unusedVariables false
set_option maxRecDepth 100000

/-- The cells of lives. -/
def ll : List (Nat × Bool) → List Value
  | [] => []
  | p :: r => .float .f32 p.1 :: .bool p.2 :: ll r
theorem ll_len (xs : List (Nat × Bool)) : (ll xs).length = xs.length * 2 := by
  induction xs with
  | nil => rfl
  | cons p r ih => simp only [ll, List.length_cons, ih]; omega
theorem ll_at {xs : List (Nat × Bool)} {k : Nat} {p : Nat × Bool} (h : xs[k]? = some p) : (ll xs)[k * 2]? = some (.float .f32 p.1) ∧ (ll xs)[k * 2 + 1]? = some (.bool p.2) := by
  induction xs generalizing k with
  | nil => simp at h
  | cons q r ih =>
    cases k with
    | zero => simp at h; subst h; exact ⟨rfl, rfl⟩
    | succ k =>
      simp only [List.getElem?_cons_succ] at h
      have := ih h
      simp only [ll]
      rw [show (k + 1) * 2 = k * 2 + 1 + 1 by omega, List.getElem?_cons_succ, List.getElem?_cons_succ, List.getElem?_cons_succ, List.getElem?_cons_succ]
      exact this
theorem reads_ll {w : World} {B n k : Nat} {A : Option Addr} {xs : List (Nat × Bool)} (h : Reads w B 2 A n (ll xs)) (hk : k < n) :
    ∃ ad p, A = some ad ∧ ad.block < B ∧ xs[k]? = some p ∧ w.cell? (ad.add (k * 2)) = some (.float .f32 p.1) ∧ w.cell? ((ad.add (k * 2)).add 1) = some (.bool p.2) := by
  obtain ⟨ad, e, hb, hc⟩ := h.2 (by omega)
  have hl := h.1
  rw [ll_len] at hl
  have hx : xs[k]? = some xs[k] := List.getElem?_eq_getElem (by omega)
  obtain ⟨h1, h2⟩ := ll_at hx
  exact ⟨ad, xs[k], e, hb, hx, hc _ _ h1, by rw [add_of_add]; exact hc _ _ h2⟩

/-- A desk as a value. -/
abbrev deskV (LA : Option Addr) (ln lc : Nat) (kd : Int) (sh sc : Nat) (st : Int) (RA : Option Addr) (rn rc : Nat) (sz ac : Int) : Value :=
  .agg #[.slice LA ln lc, .int .i64 kd, .float .f32 sh, .float .f32 sc, .int .i64 st, .slice RA rn rc, .int .i64 sz, .int .i64 ac]
/-- Two blocks that were laid last hold what they held. -/
theorem box_cells {w w3 : World} {c1 c2 : Array Value} {t1 t2 : TypeId} (hb : Below ((w.alloc (.cells c1 t1)).alloc (.cells c2 t2)).heap.size ((w.alloc (.cells c1 t1)).alloc (.cells c2 t2)) w3) :
    (∀ i, w3.cell? ⟨w.heap.size, i, none⟩ = c1[i]?) ∧ (∀ i, w3.cell? ⟨w.heap.size + 1, i, none⟩ = c2[i]?) := by
  constructor
  · intro i
    rw [hb.cell (by simp; omega)]
    exact Blk.cell ((Blk.new w t1 c1).alloc _) i
  · intro i
    rw [hb.cell (by simp)]
    have := Blk.cell (Blk.new (w.alloc (.cells c1 t1)) t2 c2) i
    rw [show (w.alloc (.cells c1 t1)).heap.size = w.heap.size + 1 by simp] at this
    exact this
theorem below_step {w a b : World} {B : Nat} (h : Below w.heap.size w a) (hB : B ≤ w.heap.size) (h2 : Below a.heap.size a b) : Below w.heap.size w b := h.trans (h2.mono h.size)

/-- One cell of an owned row of elements of two cells is written. -/
theorem own_set2 {w : World} {base : Nat} {e : TypeId} {g n c : Nat} {xs : List Value} (h : w.ownsRow base e 2 (.slice (some ⟨g, 0, none⟩) n c) n xs) {i : Nat} (hi : i < n * 2) (u : Value) :
    (w.setCell ⟨g, i, none⟩ u).ownsRow base e 2 (.slice (some ⟨g, 0, none⟩) n c) n (xs.set i u) := by
  obtain ⟨h1, h2⟩ := h
  refine ⟨by simpa using h1, ?_⟩
  rcases h2 with ⟨h2, _⟩ | ⟨g', cap, cur, hv, hb, hg, hnc, hcm, hcs, htake⟩
  · cases h2
  · injection hv with hv1 _ hv2
    injection hv1 with hv1
    injection hv1 with hv1
    subst hv1
    subst hv2
    refine .inr ⟨g, c, cur.setIfInBounds i u, rfl, hb, ?_, hnc, hcm, by simpa using hcs, ?_⟩
    · have := Blk.set_ (w := w) (g := g) (t := e) (cs := cur) hg i u
      exact this
    · rw [← htake, Array.toList_setIfInBounds]
      rw [List.take_set]
theorem own_cell2 {w : World} {base : Nat} {e : TypeId} {g n c : Nat} {xs : List Value} (h : w.ownsRow base e 2 (.slice (some ⟨g, 0, none⟩) n c) n xs) {i : Nat} {u : Value} (hu : xs[i]? = some u) :
    w.cell? ⟨g, i, none⟩ = some u ∧ w.frozen? ⟨g, i, none⟩ = false := by
  refine ⟨by have := h.cells (g := g) rfl i u hu; simpa [Addr.add_lit] using this, ?_⟩
  rcases h.2 with ⟨h2, _⟩ | ⟨g', cap, cur, hv, hb, hg, _⟩
  · cases h2
  · injection hv with hv1 _ _
    injection hv1 with hv1
    injection hv1 with hv1
    subst hv1
    exact Blk.frozen (w := w) (t := e) (cs := cur) hg i
/-- The marks of a list of lives. -/
def marksL (k : Nat) : Nat → List Value
  | 0 => []
  | n + 1 => mkF (k : Int) :: mkB ((k : Int) + 1) :: marksL (k + 2) n
theorem marksL_len (k n : Nat) : (marksL k n).length = n * 2 := by
  induction n generalizing k with
  | zero => rfl
  | succ n ih => simp only [marksL, List.length_cons, ih]; omega
theorem marksL_at {k n i : Nat} (h : i < n) : (marksL k n)[i * 2]? = some (mkF ((k + 2 * i : Nat) : Int)) ∧ (marksL k n)[i * 2 + 1]? = some (mkB ((k + 2 * i + 1 : Nat) : Int)) := by
  induction n generalizing k i with
  | zero => omega
  | succ n ih =>
    cases i with
    | zero => exact ⟨by simp [marksL], by simp [marksL]⟩
    | succ i =>
      have := ih (k := k + 2) (i := i) (by omega)
      simp only [marksL]
      rw [show (i + 1) * 2 = i * 2 + 1 + 1 by omega, List.getElem?_cons_succ, List.getElem?_cons_succ, List.getElem?_cons_succ, List.getElem?_cons_succ]
      rw [show k + 2 + 2 * i = k + 2 * (i + 1) by omega] at this
      exact this
/-- The cells of a row of which the first i are told otherwise. -/
def mix (ms cs : List Value) (i : Nat) : List Value := ms.take i ++ cs.drop i
theorem mix_len {ms cs : List Value} {i : Nat} (hl : ms.length = cs.length) (hi : i ≤ cs.length) : (mix ms cs i).length = cs.length := by simp [mix]; omega
theorem mix_set {ms cs : List Value} {i : Nat} {u : Value} (hl : ms.length = cs.length) (hu : ms[i]? = some u) : (mix ms cs i).set i u = mix ms cs (i + 1) := by
  have hi : i < cs.length := by rw [← hl]; exact (List.getElem?_eq_some_iff.1 hu).1
  unfold mix
  apply List.ext_getElem?
  intro j
  rw [List.getElem?_set]
  by_cases hj : i = j
  · subst hj
    rw [if_pos rfl, if_pos (by simp; omega), List.getElem?_append_left (by simp; omega), List.getElem?_take, if_pos (by omega), hu]
  · rw [if_neg hj]
    rcases Nat.lt_or_ge j i with h1 | h1
    · rw [List.getElem?_append_left (by simp; omega), List.getElem?_append_left (by simp; omega), List.getElem?_take, List.getElem?_take, if_pos h1, if_pos (by omega)]
    · rw [List.getElem?_append_right (by simp; omega), List.getElem?_append_right (by simp; omega)]
      simp only [List.getElem?_drop, List.length_take]
      congr 1
      omega
theorem mix_all {ms cs : List Value} (hl : ms.length = cs.length) : mix ms cs cs.length = ms := by unfold mix; rw [List.take_of_length_le (by omega), List.drop_length, List.append_nil]
theorem mix_none (ms cs : List Value) : mix ms cs 0 = cs := by simp [mix]

end Go.Proofs.YtjmpldcnhjgpkaaGreatDoor

/-
  Contracts of the helpers of the laws on desks: marks; NewDesk, the program's and the reference's.
-/
namespace Go.Proofs.YtjmpldcnhjgpkaaGreatDoor
open Go.RowKit Fl Mem
set_option linter.unusedVariables false
set_option maxRecDepth 100000

theorem own_of_blk2 {w : World} {base g n : Nat} {t : TypeId} {xs : List Value} (h : Blk w g t xs.toArray) (hb : base ≤ g) (hl : xs.length = n * 2) (hn : n ≤ maxLen) : w.ownsRow base t 2 (.slice (some ⟨g, 0, none⟩) n n) n xs :=
  ⟨by omega, .inr ⟨g, n, xs.toArray, rfl, hb, h, Nat.le_refl _, hn, by simp [hl], by rw [List.take_of_length_le (by simp; omega)]⟩⟩

theorem blk_new' (w : World) (g : Nat) (t : TypeId) (cs : Array Value) (hg : g = w.heap.size) : Blk (w.alloc (.cells cs t)) g t cs := by subst hg; exact Blk.new w t cs
def desk0L : List (Nat × Bool) := [(1065353216, true), (1073741824, false), (1082130432, true)]
def desk0R : List Nat := [0, 1065353216, 1077936128, 0]
abbrev desk0 (g1 g2 : Nat) : Value := deskV (some ⟨g1, 0, none⟩) 3 3 0 1065353216 1082130432 2 (some ⟨g2, 0, none⟩) 4 4 2 0

set_option maxHeartbeats 1000000 in
theorem i_NewDesk (w : World) : Calls Tryz.prog 14 #[] w fun e w' => ∃ g1 g2, g1 ≠ g2 ∧ e = .returned (desk0 g1 g2) ∧ w'.ownsRow w.heap.size 69 2 (.slice (some ⟨g1, 0, none⟩) 3 3) 3 (ll desk0L) ∧
    w'.ownsRow w.heap.size 25 1 (.slice (some ⟨g2, 0, none⟩) 4 4) 4 (fl .f32 desk0R) ∧ Below w.heap.size w w' := by
  go_enter Tryz.func14, Tryz.ntmps14
  go_wp2
  refine bodyPost_ret (results_cell_row (P := Tryz.prog) rfl _ _ w.heap.size 34 _ (0, 0) _ rfl (((Blk.new w _ _).alloc _).alloc _) Tryz.underlying34 rfl (by kernel_rfl)) rfl ?_
  exact ⟨w.heap.size + 1, w.heap.size + 1 + 1, by omega, rfl, own_of_blk2 ((blk_new' _ _ _ _ (by simp)).alloc _) (by omega) (by rfl) (by simp [maxLen]), own_of_blk (blk_new' _ _ _ _ (by simp)) (by omega) (by rfl) (by simp [maxLen]), (by repeat (first | exact Below.refl _ _ | exact below_drewN (by assumption) _ | refine below_drewN ?_ _ | refine Below.alloc ?_ (by first | (simp; done) | (simp; omega)) _ | assumption))⟩
theorem grown_al {w w2 : World} {o : Obj} {row : Option Nat} (hg : (w.alloc o).grownBy w2 row) : w.grownBy w2 row :=
  ⟨hg.os, hg.tape, hg.output, Nat.le_trans (by simp) hg.size, fun i hi hne => (hg.block i (by simp; omega) hne).trans (Below.heap_alloc w o i hi)⟩

theorem blk_below {w w' : World} {g : Nat} {t : TypeId} {cs : Array Value} (h : Blk w g t cs) (hb : Below w.heap.size w w') : Blk w' g t cs := Blk.below h hb h.lt
end Go.Proofs.YtjmpldcnhjgpkaaGreatDoor

/-
  BearingRates: both sides.
-/
namespace Go.Proofs.YtjmpldcnhjgpkaaGreatDoor
open Go.RowKit Mem Fl
set_option linter.unusedVariables false
set_option maxRecDepth 100000

theorem wide_word {a : Nat} (h : fin .f32 a = true) : ∃ s r, wide a = FloatKind.f64.format.word s r ∧ r < 9218868437227405312 := by
  obtain ⟨s, m, e, hr⟩ := (fin_iff .f32 a).1 h
  obtain ⟨hm, h1, h2⟩ := read32 hr
  obtain ⟨r, hw, hi⟩ := nearest64_lt s m e hm h1 h2
  refine ⟨s, r, ?_, by rw [d64_inf] at hi; exact hi⟩
  unfold wide
  rw [cvBits_num hr]
  show cn .f64 (FloatKind.f64.format.nearest s m e) = _
  rw [hw, cn_num (isNan_word' (Nat.le_of_lt hi))]
theorem cvR_fin {a : Nat} (h : fin .f32 a = true) (w : World) : cvR .f32 .f64 a w = wide a := by
  obtain ⟨s, r, hw, hr⟩ := wide_word h
  exact exact_word (cn_cvR a w) (by rw [hw]; exact isNan_word' (by rw [d64_inf]; omega))
/-- The real part of the point at some turns, told. -/
def phX (a : Nat) : Nat := if 4841369599423283200 ≤ wide a % 9223372036854775808 then 1065353216 else phRe (wide a)
def brC (R a : Nat) : Nat := fb .mul .f32 R (phX a)
def brG (R a : Nat) : Nat := fb .mul .f32 1056964608 (fb .sub .f32 1065353216 (brC R a))
def brV (n : Int) (R a : Nat) : List Nat := [brG R a, fb .mul .f32 (floatOfInt .f32 n) (brG R a), fb .mul .f32 (fb .mul .f32 1056964608 (floatOfInt .f32 n)) (fb .add .f32 1065353216 (brC R a)), fb .quo .f32 (fb .sub .f32 1065353216 (fb .mul .f32 (brC R a) (brC R a))) (fb .mul .f32 1073741824 R)]
def brIn (n : Int) (R a : Nat) : Bool := (inB n 1 32 && shB R) && ((FloatKind.f32.format.order R 0 == some .gt) && fin .f32 a)
def brO (n : Int) (R a : Nat) : Bool := brIn n R a && (brV n R a).all (fin .f32)
def brR (n : Int) (R a : Nat) : List Nat := if brO n R a = true then brV n R a else []
theorem brR_len (n : Int) (R a : Nat) : (brR n R a).length ≤ 1000 := by
  unfold brR; split
  · simp [brV]
  · simp
def BrR (base : Nat) (n : Int) (R a : Nat) (e : Ending) (w' : World) : Prop := ∃ v zs, e = .returned (.tuple #[v, .bool (brO n R a)]) ∧ w'.ownsRow base 25 1 v zs.length (fl .f32 zs) ∧ Hid (zs.map (cn .f32) = brR n R a)
theorem BrR.no {base : Nat} {n : Int} {R a : Nat} {w' : World} (h : brO n R a = false) : BrR base n R a (.returned (.tuple #[.slice none 0 0, .bool false])) w' := by
  unfold BrR brR; rw [h, if_neg (by simp)]; exact ⟨_, [], rfl, own_nil _ _ _ _, hide rfl⟩
theorem BrR.yes {base : Nat} {n : Int} {R a : Nat} {w' : World} {v : Value} {zs : List Nat} (h : brO n R a = true) (ho : w'.ownsRow base 25 1 v zs.length (fl .f32 zs)) (hz : zs.map (cn .f32) = brV n R a) : BrR base n R a (.returned (.tuple #[v, .bool true])) w' := by
  unfold BrR brR; rw [h, if_pos rfl]; exact ⟨_, zs, rfl, ho, hide hz⟩
theorem c_told {R re X : Nat} (h : cn .f32 re = X) (w : World) : cn .f32 (flR .mul .f32 R re w) = fb .mul .f32 R X := by rw [cn_flR, ← fb_cnr, h]
theorem g_told {z C : Nat} (h : cn .f32 z = C) (w1 w2 : World) : cn .f32 (flR .mul .f32 1056964608 (flR .sub .f32 1065353216 z w1) w2) = fb .mul .f32 1056964608 (fb .sub .f32 1065353216 C) := by
  rw [cn_flR, ← fb_cnr, cn_flR, ← fb_cnr .sub, h]
theorem br_told {n : Int} {R a zc cg : Nat} (hc : cn .f32 zc = brC R a) (hg : cn .f32 cg = brG R a) (w1 w2 w3 w4 w5 w6 w7 w8 : World) :
    [cg, flR .mul .f32 (floatOfInt .f32 n) cg w1, flR .mul .f32 (flR .mul .f32 1056964608 (floatOfInt .f32 n) w2) (flR .add .f32 1065353216 zc w3) w4, flR .quo .f32 (flR .sub .f32 1065353216 (flR .mul .f32 zc zc w5) w6) (flR .mul .f32 1073741824 R w7) w8].map (cn .f32) = brV n R a := by
  have e2 : cn .f32 (flR .mul .f32 (floatOfInt .f32 n) cg w1) = fb .mul .f32 (floatOfInt .f32 n) (brG R a) := by rw [cn_flR, ← fb_cnr, hg]
  have e3 : cn .f32 (flR .mul .f32 (flR .mul .f32 1056964608 (floatOfInt .f32 n) w2) (flR .add .f32 1065353216 zc w3) w4) = fb .mul .f32 (fb .mul .f32 1056964608 (floatOfInt .f32 n)) (fb .add .f32 1065353216 (brC R a)) := by
    rw [cn_flR, ← fb_cn, cn_flR, cn_flR, ← fb_cnr .add, hc]
  have e4 : cn .f32 (flR .quo .f32 (flR .sub .f32 1065353216 (flR .mul .f32 zc zc w5) w6) (flR .mul .f32 1073741824 R w7) w8) = fb .quo .f32 (fb .sub .f32 1065353216 (fb .mul .f32 (brC R a) (brC R a))) (fb .mul .f32 1073741824 R) := by
    rw [cn_flR, ← fb_cn, cn_flR, cn_flR, ← fb_cnr .sub, cn_flR, ← fb_cn .mul .f32 zc zc, hc]
  simp only [List.map_cons, List.map_nil, hg, e2, e3, e4]
  rfl
theorem i_ifAll4 {w : World} {e : TypeId} {a b c d g : Nat} (hg : g = w.heap.size) {T : List Nat} {O : Bool} (ht : [a, b, c, d].map (cn .f32) = T) (hO : T.all (fin .f32) = O) :
    Calls Tryz.prog 51 #[.slice (some ⟨g, 0, none⟩) 4 4] (w.alloc (.cells #[.float .f32 a, .float .f32 b, .float .f32 c, .float .f32 d] e)) fun r w' => r = .returned (.tuple #[if O = true then .slice (some ⟨g, 0, none⟩) 4 4 else .slice none 0 0, .bool O]) ∧ Hid ([a, b, c, d].map (cn .f32) = T) ∧ ∃ m, w' = (w.alloc (.cells #[.float .f32 a, .float .f32 b, .float .f32 c, .float .f32 d] e)).drewN m := by
  subst hg
  refine (i_ifAll (xs := [a, b, c, d]) (reads_new (Value.float .f32) w e [a, b, c, d]) (by simp [maxLen])).mono ?_
  rintro r w' ⟨rfl, h⟩
  rw [allfin_toldC ht, hO]
  exact ⟨rfl, hide ht, h⟩
theorem own4 {W : World} {g base : Nat} {t : TypeId} {a b c d M : Nat} (hg : g = W.heap.size) (hb : base ≤ g) : ((W.alloc (.cells #[.float .f32 a, .float .f32 b, .float .f32 c, .float .f32 d] t)).drewN M).ownsRow base t 1 (.slice (some ⟨g, 0, none⟩) 4 4) [a, b, c, d].length (fl .f32 [a, b, c, d]) :=
  own_drewN (own_of_blk (xs := fl .f32 [a, b, c, d]) (blk_new' W g t _ hg) hb rfl (by simp [maxLen])) M
theorem sh_zero {R : Nat} (h : shB R = true) : (FloatKind.f32.format.order R 0 == some .gt) = !(FloatKind.f32.format.order R 0 == some .eq) := by
  unfold shB at h
  rw [Bool.and_eq_true] at h
  have h1 := h.1
  cases ho : FloatKind.f32.format.order R 0 with
  | none => rw [ho] at h1; cases h1
  | some o =>
    rw [ho] at h1
    cases o
    · cases h1
    · rfl
    · rfl
end Go.Proofs.YtjmpldcnhjgpkaaGreatDoor
