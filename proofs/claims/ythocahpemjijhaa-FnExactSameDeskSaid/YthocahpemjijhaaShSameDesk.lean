/-
  The row's step of the law FnExactSameDesk: how the arguments are opened, what the walk gives, how the row closes.
-/
import Derived.Test.YthocahpemjijhaaLawSameDesk
import Derived.Test.YthocahpemjijhaaOpenS
import Derived.Test.YthocahpemjijhaaRows
import Derived.Test.YthocahpemjijhaaOpen
import Derived.WalkKit
import Derived.ProofKit
import Derived.OpenShut
import Derived.ShutString
import Derived.ChangeOld
import Derived.Below
namespace Go.Proofs.Ythocahpemjijhaa.fnExactSameDesk
open Go.ChangeShapes Go.WideShapes Go.ChangeAt Go.RowKit Fl Mem Opn
open Go.ChangeMaps (open_string shut_string)
set_option linter.unusedVariables false

theorem own : ownKnob Try.prog.godebug = none := by kernel_rfl
theorem laidOut : laidOutB Try.prog = true := by kernel_rfl

set_option maxRecDepth 100000 in
theorem lifted (os : Os) (started : os.Started) (H : Type) (enc : TypeId × Value → H) :
    ReturnsInHanded {} Try.checked os 10 .any (Rows.fnExactSameDeskSpec.pre6 enc Try.prog Try.f10 Rows.fnExactSameDeskRow.domain false) (Rows.fnExactSameDeskSpec.post enc Try.prog Try.f10 false true false false) := by
  refine returnsInHanded_of_change (C := Try.checked) own started (by kernel_rfl) Try.func10
    (ChangeSpec.witness6 (enc := enc) (C := Try.checked) false ⟨#[], #[.agg #[.slice none 0 0, .int .i64 0, .float .f32 0, .float .f32 0, .int .i64 0, .slice none 0 0, .int .i64 0, .int .i64 0], .agg #[.slice none 0 0, .int .i64 0, .float .f32 0, .float .f32 0, .int .i64 0, .slice none 0 0, .int .i64 0, .int .i64 0]], []⟩ 8 (by kernel_rfl) (by kernel_rfl) (by kernel_rfl) (by kernel_rfl)) ?_
  intro W base args ds gs before hval0 hW hcnd _
  have hval : ∀ (j : Nat) t v, Try.f10.params[j]? = some t → args[j]? = some v → Value.okWide Try.prog W .any base t v := hval0
  have hW' := hW
  obtain ⟨p, q, hA0, hV, rfl, hfz, hnd⟩ := hW
  have hA : DataW.TrodAll enc Try.prog W 0 (fun _ => true) true Try.f10.params.toList args.toList ds p := hA0
  rw [Try.params10] at hA hval
  obtain ⟨v0, vs0, d0, ds0, p0, q0, hargs, rfl, rfl, h0, r0⟩ := trodAll_cons hA
  obtain ⟨v1, vs1, d1, ds1, p1, q1, rfl, rfl, rfl, h1, r1⟩ := trodAll_cons r0
  obtain ⟨rfl, rfl, rfl⟩ := trodAll_nil r1
  obtain rfl : args = #[v0, v1] := by cases args; simp_all
  obtain ⟨rfl, rfl⟩ := trodVars_none hV
  have k0 := h0
  have lt0 : ∀ x ∈ p0, x.block < W.heap.size := by obtain ⟨m, hm⟩ := k0; exact DataW.trod_lt m _ _ _ hm
  have k0 := h0
  have lt0 : ∀ x ∈ p0, x.block < W.heap.size := by obtain ⟨m, hm⟩ := k0; exact DataW.trod_lt m _ _ _ hm
  obtain ⟨LA_0, ln_0, lc_0, kd_0, sh_0, sc_0, st_0, RA_0, rn_0, rc_0, sz_0, ac_0, xs_0, rs_0, rfl, hr_0, hn_0, hc_0, hw_0, ir_0, ii_0, ic_0, iw_0, w1_0, w2_0, w3_0, w4_0, w5_0, w6_0⟩ := open_desk (hval 0 80 v0 rfl rfl) h0
  have k1 := h1
  have lt1 : ∀ x ∈ p1, x.block < W.heap.size := by obtain ⟨m, hm⟩ := k1; exact DataW.trod_lt m _ _ _ hm
  have k1 := h1
  have lt1 : ∀ x ∈ p1, x.block < W.heap.size := by obtain ⟨m, hm⟩ := k1; exact DataW.trod_lt m _ _ _ hm
  obtain ⟨LA_1, ln_1, lc_1, kd_1, sh_1, sc_1, st_1, RA_1, rn_1, rc_1, sz_1, ac_1, xs_1, rs_1, rfl, hr_1, hn_1, hc_1, hw_1, ir_1, ii_1, ic_1, iw_1, w1_1, w2_1, w3_1, w4_1, w5_1, w6_1⟩ := open_desk (hval 1 80 v1 rfl rfl) h1
  clear hA0 hval0
  refine (law_SameDesk LA_0 LA_1 RA_0 RA_1 ln_0 lc_0 ln_1 lc_1 rn_0 rc_0 rn_1 rc_1 sh_0 sc_0 sh_1 sc_1 kd_0 st_0 sz_0 ac_0 kd_1 st_1 sz_1 ac_1 xs_0 xs_1 rs_0 rs_1 W hr_0 hr_1 ir_0 ir_1 (by unfold maxLen at hc_0; omega) (by unfold maxLen at hc_1; omega) (by unfold maxLen at ic_0; omega) (by unfold maxLen at ic_1; omega) hw_0 hw_1 iw_0 iw_1 w1_0 w2_0 w1_1 w2_1).mono fun e W' ⟨he, bel⟩ => ?_
  subst he
  exact ⟨_, rfl, _, _, _, [], _, [], hW', trodAll_mk1 (shut_bool Try.underlying4 _), (trodAll_cons_mk (Below.trod laidOut (by kernel_rfl) (of_decide_eq_true (by kernel_rfl)) k0 bel lt0) (trodAll_cons_mk (Below.trod laidOut (by kernel_rfl) (of_decide_eq_true (by kernel_rfl)) k1 bel lt1) trodAll_mk0)), rfl, bel.frame _, fun h => by cases h⟩

theorem over : Rows.fnExactSameDeskRow.holds Try.pinned (OpenSpec.ofChange Rows.fnExactSameDeskSpec) :=
  OpenClaim.holds_of_wide 10 Try.f10 rfl rfl rfl rfl rfl rfl rfl ⟨rfl, rfl, rfl, rfl, rfl⟩ rfl rfl rfl rfl rfl (by kernel_rfl) Try.func10 (by kernel_rfl)
    (of_decide_eq_true (by kernel_rfl)) (by unfold Func.isWrapper; first | (rw [if_pos (by decide +kernel)]; kernel_rfl) | (rw [if_neg (by decide +kernel)]; exact ⟨rfl, rfl⟩))
    (fun os started H enc _ => lifted os started H enc)

/-- The statement: FnExactSameDesk returns true for every input, and each argument reads afterwards as before. -/
theorem proved : Rows.FnExactSameDeskSaid := over
end Go.Proofs.Ythocahpemjijhaa.fnExactSameDesk
