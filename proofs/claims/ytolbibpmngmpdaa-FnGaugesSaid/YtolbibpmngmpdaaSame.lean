/-
  Contracts of 'the same number', for one and for lists: the program's and the reference's.
-/
import Derived.Test.YtolbibpmngmpdaaTold
import Derived.Test.YtolbibpmngmpdaaCapP
namespace Go.Proofs.Ytolbibpmngmpdaa
open Go.RowKit Fl Mem
set_option linter.unusedVariables false
set_option maxRecDepth 100000

/-- Are two words the same number. -/
def sameN (a b : Nat) : Bool := decide (cn .f32 a = cn .f32 b)
def sgn (a : Nat) : Bool := a / 2147483648 % 2 == 1
/-- 'float64(x)' of what is no not-a-number. -/
def wideS (a : Nat) : Nat := (cvBits .f32 .f64 a).getD 0
theorem f64_sw : FloatKind.f64.format.signWeight = 9223372036854775808 := by decide +kernel
theorem wideS_ok {a : Nat} (h : isNan .f32 a = false) : (∀ W, cvR .f32 .f64 a W = wideS a) ∧ cvN .f32 .f64 a = 0 ∧ decide (9223372036854775808 ≤ wideS a) = sgn a ∧ wideS a < 18446744073709551616 := by
  have hw : ∀ s r, r < 9223372036854775808 → decide (9223372036854775808 ≤ FloatKind.f64.format.word s r) = s ∧ FloatKind.f64.format.word s r < 18446744073709551616 := by
    intro s r hr
    unfold Ieee.Format.word
    rw [f64_sw]
    cases s
    · rw [if_neg (by simp)]; exact ⟨decide_eq_false (by omega), by omega⟩
    · rw [if_pos rfl]; exact ⟨decide_eq_true (by omega), by omega⟩
  have hsw : FloatKind.f32.format.signWeight = 2147483648 := by decide +kernel
  cases hd : FloatKind.f32.decode a with
  | nan s t =>
    exfalso
    have : FloatKind.f32.format.read a = .nan s t := hd
    unfold isNan at h
    rw [this] at h; cases h
  | infinity s =>
    have hc : cvBits .f32 .f64 a = some (FloatKind.f64.encode (.infinity s)) := by simp [cvBits, hd]
    have hs := (read_inf (k := .f32) (x := a) hd).1
    rw [hsw] at hs
    have h1 := hw s FloatKind.f64.format.infRung (by decide +kernel)
    refine ⟨fun W => by unfold cvR wideS; rw [hc]; rfl, by unfold cvN; rw [hc]; rfl, ?_, ?_⟩
    · unfold wideS sgn; rw [hc, ← hs]; exact h1.1
    · unfold wideS; rw [hc]; exact h1.2
  | number s m e =>
    have hc := cvBits_num hd
    have hs := (read_of_rung (k := .f32) (x := a) hd).1
    rw [hsw] at hs
    obtain ⟨b1, b2, b3⟩ := read32 hd
    obtain ⟨r, hr, hlt⟩ := nearest64_lt s m e b1 b2 b3
    have hi : FloatKind.f64.format.infRung = 9218868437227405312 := by decide +kernel
    rw [hi] at hlt
    have h1 := hw s r (by omega)
    have he : FloatKind.f64.encode (.number s m e) = FloatKind.f64.format.word s r := hr
    refine ⟨fun W => by unfold cvR wideS; rw [hc]; rfl, by unfold cvN; rw [hc]; rfl, ?_, ?_⟩
    · unfold wideS sgn; rw [hc, ← hs, Option.getD_some, he]; exact h1.1
    · unfold wideS; rw [hc, Option.getD_some, he]; exact h1.2

theorem nan_iff (a : Nat) : (FloatKind.f32.format.order a a != some Ordering.eq) = isNan .f32 a := by
  rw [order_self]
  cases isNan .f32 a <;> rfl
theorem sameN_nan {a b : Nat} (ha : isNan .f32 a = true) : sameN a b = isNan .f32 b := by
  unfold sameN
  rw [cn_nan ha]
  cases hb : isNan .f32 b
  · rw [cn_num hb]
    refine decide_eq_false (fun he => ?_)
    rw [← he, isNan_nanOf] at hb
    cases hb
  · rw [cn_nan hb]; exact decide_eq_true rfl
theorem sameN_nan' {a b : Nat} (ha : isNan .f32 a = false) (hb : isNan .f32 b = true) : sameN a b = false := by
  unfold sameN
  rw [cn_num ha, cn_nan hb]
  refine decide_eq_false (fun he => ?_)
  rw [he, isNan_nanOf] at ha
  cases ha
theorem sameN_num {a b : Nat} (wa : Wf .f32 a) (wb : Wf .f32 b) (ha : isNan .f32 a = false) (hb : isNan .f32 b = false) :
    sameN a b = ((FloatKind.f32.format.order a b == some Ordering.eq) && (sgn a == sgn b)) := by
  unfold sameN
  rw [cn_num ha, cn_num hb, Bool.eq_iff_iff, decide_eq_true_iff, Bool.and_eq_true]
  constructor
  · rintro rfl
    rw [order_self, ha]
    simp
  · rintro ⟨h1, h2⟩
    rcases order_eq wa wb (by simpa using h1) with h | ⟨s, i, t, j, ra, rb⟩
    · exact h
    · obtain ⟨a1, _, a3, _⟩ := read_of_rung ra
      obtain ⟨b1, _, b3, _⟩ := read_of_rung rb
      have za := mag_zero a3.symm
      have zb := mag_zero b3.symm
      rw [wf_word wa, wf_word wb, za, zb]
      have hsw : FloatKind.f32.format.signWeight = 2147483648 := by decide +kernel
      unfold sgn at h2
      rw [← hsw, beq_iff_eq] at h2
      rw [h2]

section
variable {P : Program} {f : FuncId} {fn : Func}
theorem run_call_bits64 (hf : P.funcs[f]? = some fn) (hname : (fn.name == "runtime.NumGoroutine") = false) (hb : fn.body.isNone = true) (hn : Extern.findNext fn = none) (he : Extern.find fn = some Extern.MathFloatBits.float64bits) (y : Nat) (w : World) :
    (callFunc f #[.float .f64 y]).run P w = .ok (.value (.int .u64 (y : Int))) w := by
  rw [run_callFunc_extern hf hname hb hn he]
  rfl
theorem run_call_bits32 (hf : P.funcs[f]? = some fn) (hname : (fn.name == "runtime.NumGoroutine") = false) (hb : fn.body.isNone = true) (hn : Extern.findNext fn = none) (he : Extern.find fn = some Extern.MathFloatBits.float32bits) (y : Nat) (w : World) :
    (callFunc f #[.float .f32 y]).run P w = .ok (.value (.int .u32 (y : Int))) w := by
  rw [run_callFunc_extern hf hname hb hn he]
  rfl
end

theorem s_l01Bits {a : Nat} {w : World} (wa : Wf .f32 a) : Calls Try.prog 141 #[.float .f32 a] w fun e w' => e = .returned (.int .i64 (cn .f32 a : Int)) ∧ w = w' := by
  have hlt : a < 4294967296 := by
    unfold Wf at wa
    have hw : 2 ^ FloatKind.f32.format.width = 4294967296 := by decide +kernel
    rw [hw] at wa; exact wa
  have hs := fun (y : Nat) (w : World) => run_call_bits32 (P := Try.prog) (f := 158) Try.func158 (by kernel_rfl) (by kernel_rfl) (by kernel_rfl) (by rfl) y w
  have hnn := nan_iff a
  cases ha : isNan .f32 a with
  | true =>
    rw [ha] at hnn
    have Ha := hide ha
    clear ha
    go_enter Try.func141, Try.ntmps141
    go_wp2
    go_ret
    exact ⟨ret_int (by rw [cn_nan Ha.out]; rfl), rfl⟩
  | false =>
    rw [ha] at hnn
    have Ha := hide ha
    clear ha
    go_enter Try.func141, Try.ntmps141
    go_wp2
    go_ret
    exact ⟨ret_int (by rw [cn_num Ha.out]), rfl⟩
theorem s_l01Same {a b : Nat} {w : World} (wa : Wf .f32 a) (wb : Wf .f32 b) : Calls Try.prog 107 #[.float .f32 a, .float .f32 b] w fun e w' => e = .returned (.bool (sameN a b)) ∧ w = w' := by
  have Hs : Hid (sameN a b = ((cn .f32 a : Int) == (cn .f32 b : Int))) := hide (by
    unfold sameN
    rw [Bool.eq_iff_iff, decide_eq_true_iff, beq_iff_eq]
    omega)
  go_enter Try.func107, Try.ntmps107
  go_wp2_with (first | (have _t := HA2; go_at_call 141; refine (s_l01Bits wb).mono ?_; rintro e w' ⟨rfl, rfl⟩) | (go_at_call 141; refine (s_l01Bits wa).mono ?_; rintro e w' ⟨rfl, rfl⟩; have HA2 : True := trivial))
  go_ret
  exact ⟨ret_bool (by rw [Hs.out]), rfl⟩

end Go.Proofs.Ytolbibpmngmpdaa
