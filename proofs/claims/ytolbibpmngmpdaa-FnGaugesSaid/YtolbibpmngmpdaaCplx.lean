/-
  Complex numbers: sums, and what both sides have for them.
-/
import Derived.Test.YtolbibpmngmpdaaBrgS
import Derived.Laws.ComplexArith
namespace Go.Proofs.Ytolbibpmngmpdaa
open Go.RowKit Mem Fl
set_option linter.unusedVariables false
set_option maxRecDepth 100000

section
variable {P : Program}
theorem run_carith_any (op : BinOp) (hop : op = .add ∨ op = .sub ∨ op = .mul ∨ op = .quo) (k : FloatKind) (x y : Nat) (w : World) : (Op.Complex.arith op k x y).run P w = .ok (flR op k x y w) (w.drewN (flN op k x y)) := by
  simp [Op.Complex.arith, run_floatArith_any (P := P) op hop k x y w]
@[go_sem] theorem run_cadd (t : TypeId) (k : FloatKind) (a b c d : Nat) (w : World) : (binOp .add t (.complex k a b) (.complex k c d)).run P w = .ok (.complex k (flR .add k a c w) (flR .add k b d (w.drewN (flN .add k a c)))) ((w.drewN (flN .add k a c)).drewN (flN .add k b d)) := by
  simp [binOp, Op.complexOp, run_carith_any (P := P) .add (by simp)]
end
/-- What a scaled point looks like. -/
theorem scale_told {x X r : Nat} (h : cn .f32 x = X) (w : World) : cn .f32 (flR .mul .f32 x r w) = fb .mul .f32 X r := by rw [cn_flR, ← fb_cnl, h]
theorem plus_told {a c A C : Nat} (ha : cn .f32 a = A) (hc : cn .f32 c = C) (w : World) : cn .f32 (flR .add .f32 a c w) = fb .add .f32 A C := by rw [cn_flR, ← fb_cn, ha, hc]
theorem i_plus {a b c d A B C D : Nat} {w : World} (ha : cn .f32 a = A) (hb : cn .f32 b = B) (hc : cn .f32 c = C) (hd : cn .f32 d = D) :
    Calls Try.prog 98 #[.complex .f32 a b, .complex .f32 c d] w fun e w' => ∃ x y, e = .returned (.complex .f32 x y) ∧ Hid (cn .f32 x = fb .add .f32 A C) ∧ Hid (cn .f32 y = fb .add .f32 B D) ∧ ∃ m, w' = w.drewN m := by
  have H1 := hide (And.intro ha hc)
  have H2 := hide (And.intro hb hd)
  clear ha hb hc hd
  go_enter Try.func98, Try.ntmps98
  go_wp2
  go_ret
  exact ⟨_, _, rfl, hide (plus_told H1.out.1 H1.out.2 _), hide (plus_told H2.out.1 H2.out.2 _), _, rfl⟩
theorem i_ScaleComplex {a b r A B : Nat} {w : World} (ha : cn .f32 a = A) (hb : cn .f32 b = B) :
    Calls Try.prog 100 #[.complex .f32 a b, .float .f32 r] w fun e w' => ∃ x y, e = .returned (.complex .f32 x y) ∧ Hid (cn .f32 x = fb .mul .f32 A r) ∧ Hid (cn .f32 y = fb .mul .f32 B r) ∧ ∃ m, w' = w.drewN m := by
  have H1 := hide (And.intro ha hb)
  clear ha hb
  go_enter Try.func100, Try.ntmps100
  go_wp2
  go_ret
  exact ⟨_, _, rfl, hide (scale_told H1.out.1 _), hide (scale_told H1.out.2 _), _, rfl⟩
theorem s_l01Scale {a b r A B : Nat} {w : World} (ha : cn .f32 a = A) (hb : cn .f32 b = B) :
    Calls Try.prog 151 #[.complex .f32 a b, .float .f32 r] w fun e w' => ∃ x y, e = .returned (.complex .f32 x y) ∧ Hid (cn .f32 x = fb .mul .f32 A r) ∧ Hid (cn .f32 y = fb .mul .f32 B r) ∧ ∃ m, w' = w.drewN m := by
  have H1 := hide (And.intro ha hb)
  clear ha hb
  go_enter Try.func151, Try.ntmps151
  go_wp2
  go_ret
  exact ⟨_, _, rfl, hide (scale_told H1.out.1 _), hide (scale_told H1.out.2 _), _, rfl⟩
def cfin (a b : Nat) : Bool := fin .f32 a && fin .f32 b
theorem i_IsFiniteComplex {a b : Nat} {w : World} : Calls Try.prog 101 #[.complex .f32 a b] w fun e w' => e = .returned (.bool (cfin a b)) ∧ ∃ m, w' = w.drewN m := by
  have hp : Hid (cfin a b = (fin .f32 a && fin .f32 b)) := hide rfl
  cases h1 : fin .f32 a <;> cases h2 : fin .f32 b
  all_goals
    rw [h1, h2] at hp
    go_enter Try.func101, Try.ntmps101
    go_wp2_with (first
      | (go_at_call 64; refine (i_IsFinite a _).mono ?_; rintro e w' ⟨rfl, m1, rfl⟩; rw [h1])
      | (go_at_call 64; refine (i_IsFinite b _).mono ?_; rintro e w' ⟨rfl, m2, rfl⟩; rw [h2]))
    go_ret
    exact ⟨ret_bool hp.out.symm, _, rfl⟩
theorem s_l01CFinite {a b : Nat} {w : World} : Calls Try.prog 138 #[.complex .f32 a b] w fun e w' => e = .returned (.bool (cfin a b)) ∧ ∃ m, w' = w.drewN m := by
  have hp : Hid (cfin a b = (fin .f32 a && fin .f32 b)) := hide rfl
  cases h1 : fin .f32 a <;> cases h2 : fin .f32 b
  all_goals
    rw [h1, h2] at hp
    go_enter Try.func138, Try.ntmps138
    go_wp2_with (first
      | (go_at_call 120; refine (s_l01Finite a _).mono ?_; rintro e w' ⟨rfl, m1, rfl⟩; rw [h1])
      | (go_at_call 120; refine (s_l01Finite b _).mono ?_; rintro e w' ⟨rfl, m2, rfl⟩; rw [h2]))
    go_ret
    exact ⟨ret_bool hp.out.symm, _, rfl⟩
end Go.Proofs.Ytolbibpmngmpdaa
