/-
  The point at turns that are no number: the program's walk.
-/
import Derived.Test.YthfdgffgihjglaaLinP
namespace Go.Proofs.Ythfdgffgihjglaa
open Go.RowKit Mem Fl
set_option linter.unusedVariables false
set_option maxRecDepth 100000

theorem nan_calls {w : World} : Calls Try.prog 111 #[] w fun e w' => e = .returned (.float .f64 9221120237041090561) ∧ w = w' := by
  have hs2 : ∀ w : World, (callFunc 138 #[.int .u64 9221120237041090561]).run Try.prog w = .ok (.value (.float .f64 9221120237041090561)) w := fun w => by
    have h := run_call_frombits64 (P := Try.prog) (f := 138) Try.func138 (by kernel_rfl) (by kernel_rfl) (by kernel_rfl) (by rfl) 9221120237041090561 w
    rwa [show ((9221120237041090561 : Nat) : Int) = 9221120237041090561 from rfl] at h
  go_enter Try.func111, Try.ntmps111
  go_wp2
  go_ret
  exact ⟨rfl, rfl⟩
theorem cvR_nan (W : World) : cn .f32 (cvR .f64 .f32 9221120237041090561 W) = nanOf .f32 := by
  have h : isNan .f64 9221120237041090561 = true := by decide +kernel
  rw [cn_cvR64 (.inl h)]
  unfold nar
  rw [cvBits_nan64 h]
  exact cn_nan (isNan_nanOf _)
theorem i_PhasorOf_nan {z : Nat} {w : World} (h : fin .f64 z = false) :
    Calls Try.prog 80 #[.float .f64 z] w fun e w' => ∃ a b, e = .returned (.complex .f32 a b) ∧ Hid (cn .f32 a = nanOf .f32) ∧ Hid (cn .f32 b = nanOf .f32) ∧ ∃ m, w' = w.drewN m := by
  go_enter Try.func80, Try.ntmps80
  go_wp2_with (first
    | (go_at_call 121; refine (i_isFinite64 _ _).mono ?_; rintro e w' ⟨rfl, m1, rfl⟩; rw [h])
    | (go_at_call 111; refine nan_calls.mono ?_; rintro e w' ⟨rfl, rfl⟩))
  go_ret
  exact ⟨_, _, rfl, hide (cvR_nan _), hide (cvR_nan _), _, rfl⟩
/-- What is neither a number nor no number is infinite, in both widths. -/
theorem wide_notfin {x : Nat} (h : fin .f32 x = false) (hn : isNan .f32 x = false) (W : World) : fin .f64 (Op.negFloat .f64 (cvR .f32 .f64 x W)) = false := by
  have hr : ∃ s, FloatKind.f32.format.read x = .infinity s := by
    cases hr : FloatKind.f32.format.read x with
    | nan s t => unfold isNan at hn; rw [hr] at hn; cases hn
    | number s m i =>
      have := (fin_iff .f32 x).2 ⟨_, _, _, hr⟩
      rw [h] at this; cases this
    | infinity s => exact ⟨s, rfl⟩
  obtain ⟨s, hr⟩ := hr
  have hd : FloatKind.f32.decode x = .infinity s := hr
  have hc : cvR .f32 .f64 x W = FloatKind.f64.encode (.infinity s) := by
    have : cvBits .f32 .f64 x = some (FloatKind.f64.encode (.infinity s)) := by simp [cvBits, hd]
    unfold cvR; rw [this]; rfl
  rw [hc]
  cases s <;> decide +kernel
end Go.Proofs.Ythfdgffgihjglaa
