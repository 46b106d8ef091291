/-
  The row's step of the law FnExactValidDesk: how the arguments are opened, what the walk gives, how the row closes.
-/
import Derived.Test.YthocahpemjijhaaLawValidDesk
import Derived.Test.YthocahpemjijhaaOpenS
import Derived.Test.YthocahpemjijhaaRows
import Derived.Test.YthocahpemjijhaaOpen
import Derived.WalkKit
import Derived.ProofKit
import Derived.OpenShut
import Derived.ShutString
import Derived.ChangeOld
import Derived.Below
namespace Go.Proofs.Ythocahpemjijhaa.fnExactValidDesk
open Go.ChangeShapes Go.WideShapes Go.ChangeAt Go.RowKit Fl Mem Opn
open Go.ChangeMaps (open_string shut_string)
set_option linter.unusedVariables false

theorem own : ownKnob Try.prog.godebug = none := by kernel_rfl
theorem laidOut : laidOutB Try.prog = true := by kernel_rfl

set_option maxRecDepth 100000 in
theorem lifted (os : Os) (started : os.Started) (H : Type) (enc : TypeId × Value → H) :
    ReturnsInHanded {} Try.checked os 11 .any (Rows.fnExactValidDeskSpec.pre6 enc Try.prog Try.f11 Rows.fnExactValidDeskRow.domain false) (Rows.fnExactValidDeskSpec.post enc Try.prog Try.f11 false true false false) := by
  refine returnsInHanded_of_change (C := Try.checked) own started (by kernel_rfl) Try.func11
    (ChangeSpec.witness6 (enc := enc) (C := Try.checked) false ⟨#[], #[.agg #[.slice none 0 0, .int .i64 0, .float .f32 0, .float .f32 0, .int .i64 0, .slice none 0 0, .int .i64 0, .int .i64 0]], []⟩ 8 (by kernel_rfl) (by kernel_rfl) (by kernel_rfl) (by kernel_rfl)) ?_
  intro W base args ds gs before hval0 hW hcnd _
  have hval : ∀ (j : Nat) t v, Try.f11.params[j]? = some t → args[j]? = some v → Value.okWide Try.prog W .any base t v := hval0
  have hW' := hW
  obtain ⟨p, q, hA0, hV, rfl, hfz, hnd⟩ := hW
  have hA : DataW.TrodAll enc Try.prog W 0 (fun _ => true) true Try.f11.params.toList args.toList ds p := hA0
  rw [Try.params11] at hA hval
  obtain ⟨v0, vs0, d0, ds0, p0, q0, hargs, rfl, rfl, h0, r0⟩ := trodAll_cons hA
  obtain ⟨rfl, rfl, rfl⟩ := trodAll_nil r0
  obtain rfl : args = #[v0] := by cases args; simp_all
  obtain ⟨rfl, rfl⟩ := trodVars_none hV
  have k0 := h0
  have lt0 : ∀ x ∈ p0, x.block < W.heap.size := by obtain ⟨m, hm⟩ := k0; exact DataW.trod_lt m _ _ _ hm
  obtain ⟨LA_0, ln_0, lc_0, kd_0, sh_0, sc_0, st_0, RA_0, rn_0, rc_0, sz_0, ac_0, xs_0, rs_0, rfl, hr_0, hn_0, hc_0, hw_0, ir_0, ii_0, ic_0, iw_0, w1_0, w2_0, w3_0, w4_0, w5_0, w6_0⟩ := open_desk (hval 0 80 v0 rfl rfl) h0
  clear hA0 hval0
  refine (law_ValidDesk LA_0 RA_0 ln_0 lc_0 rn_0 rc_0 sh_0 sc_0 kd_0 st_0 sz_0 ac_0 xs_0 rs_0 W hr_0 ir_0 (by unfold maxLen at hc_0; omega) (by unfold maxLen at ic_0; omega) hw_0 iw_0 w1_0 w2_0).mono fun e W' ⟨he, bel⟩ => ?_
  subst he
  exact ⟨_, rfl, _, _, _, [], _, [], hW', trodAll_mk1 (shut_bool Try.underlying4 _), (trodAll_cons_mk (Below.trod laidOut (by kernel_rfl) (of_decide_eq_true (by kernel_rfl)) k0 bel lt0) trodAll_mk0), rfl, bel.frame _, fun h => by cases h⟩

theorem over : Rows.fnExactValidDeskRow.holds Try.pinned (OpenSpec.ofChange Rows.fnExactValidDeskSpec) :=
  OpenClaim.holds_of_wide 11 Try.f11 rfl rfl rfl rfl rfl rfl rfl ⟨rfl, rfl, rfl, rfl, rfl⟩ rfl rfl rfl rfl rfl (by kernel_rfl) Try.func11 (by kernel_rfl)
    (of_decide_eq_true (by kernel_rfl)) (by unfold Func.isWrapper; first | (rw [if_pos (by decide +kernel)]; kernel_rfl) | (rw [if_neg (by decide +kernel)]; exact ⟨rfl, rfl⟩))
    (fun os started H enc _ => lifted os started H enc)

/-- The statement: FnExactValidDesk returns true for every input, and each argument reads afterwards as before. -/
theorem proved : Rows.FnExactValidDeskSaid := over
end Go.Proofs.Ythocahpemjijhaa.fnExactValidDesk
