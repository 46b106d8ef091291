/-
  Complex numbers that are told the same are the same to the law.
-/
import Derived.Test.YthfdgffgihjglaaCplx
import Derived.Test.YthfdgffgihjglaaKit
namespace Go.Proofs.Ythfdgffgihjglaa
open Go.RowKit Mem Fl
set_option linter.unusedVariables false
set_option maxRecDepth 100000

section
variable {P : Program}
@[go_sem] theorem run_convert_cc (src dst : TypeId) (s k : FloatKind) (a b : Nat) (w : World) (hs : (P.underlying src).isSome = true) (hd : P.underlying dst = some (.complex k)) :
    (convert src dst (.complex s a b)).run P w = .ok (.complex k (cvR s k a w) (cvR s k b (w.drewN (cvN s k a)))) ((w.drewN (cvN s k a)).drewN (cvN s k b)) := by
  obtain ⟨u, hs'⟩ := Option.isSome_iff_exists.1 hs
  cases u <;> simp [convert, run_underlying hs', run_underlying hd, Conv.complexToComplex, run_floatToFloat_any]
end
set_option maxHeartbeats 400000 in
theorem sameComplex_eq {a b c d : Nat} {w : World} (h : cn .f64 a = cn .f64 c) (h2 : cn .f64 b = cn .f64 d) :
    Calls Try.prog 32 #[.complex .f64 a b, .complex .f64 c d] w fun e w' => e = .returned (.bool true) ∧ ∃ n, w' = w.drewN n := by
  have H1 := hide h
  have H2 := hide h2
  clear h h2
  go_enter Try.func32, Try.ntmps32
  go_wp2_with (first
    | (go_at_call 64; have HA := H1.out; clear H1; refine (sameFloat_eq a c _ HA).mono ?_; rintro e w' ⟨rfl, m1, rfl⟩)
    | (go_at_call 64; refine (sameFloat_eq b d _ H2.out).mono ?_; rintro e w' ⟨rfl, m2, rfl⟩))
  go_ret
  exact ⟨rfl, _, rfl⟩
theorem cn_cvR_of {a b : Nat} (h : cn .f32 a = cn .f32 b) (w v : World) : cn .f64 (cvR .f32 .f64 a w) = cn .f64 (cvR .f32 .f64 b v) := by
  rw [cn_cvR, cn_cvR]; exact wide_of_cn h
end Go.Proofs.Ythfdgffgihjglaa
