/-
  The law FnExactPlanText returns true for all plans.
-/
import Derived.Test.YthocahpemjijhaaDoorPlanT
namespace Go.Proofs.YthocahpemjijhaaDoor
open Go.RowKit Mem
set_option linter.unusedVariables false
set_option maxRecDepth 100000

theorem l_toPlan {a b : Int} {w : World} : Calls Tryd.prog 19 #[.agg #[.int .i64 a, .int .i64 b]] w fun e w' => e = .returned (.agg #[.int .i64 a, .int .i64 b]) ∧ Below w.heap.size w w' := by
  go_enter Tryd.func19, Tryd.ntmps19
  go_wp2
  refine bodyPost_ret (results_cell_row (P := Tryd.prog) rfl _ _ (w.heap.size + 1) 26 _ (0, 0) _ rfl (Blk.alloc (by rw [show w.heap.size + 1 = (w.alloc _).heap.size from (World.size_alloc _ _).symm]; exact Blk.new _ _ _) _) Tryd.underlying26 rfl (by kernel_rfl)) rfl ?_
  exact ⟨rfl, (by repeat (first | exact Below.refl _ _ | exact below_drewN (by assumption) _ | refine below_drewN ?_ _ | refine Below.alloc ?_ (by first | (simp; done) | (simp; omega)) _ | assumption))⟩
set_option maxHeartbeats 1000000 in
theorem law_PlanText {sz ac : Int} {w : World} : Calls Tryd.prog 4 #[.agg #[.int .i64 sz, .int .i64 ac]] w fun e w' => e = .returned (.bool true) ∧ Below w.heap.size w w' := by
  cases h : planOk sz ac
  all_goals
    go_enter Tryd.func4, Tryd.ntmps4
    go_wp2_with fail
    refine l_toPlan.mono ?_
    rintro e w1 ⟨rfl, hb⟩
    have c0 : w1.cell? ⟨w.heap.size, 0, none⟩ = some (.int .i64 sz) := ((Blk.new w _ _).below hb (by simp)).cell 0
    have c1 : w1.cell? ⟨w.heap.size, 1, none⟩ = some (.int .i64 ac) := ((Blk.new w _ _).below hb (by simp)).cell 1
    have hz := hb.size
    simp at hz
    replace hb := ((Below.refl w.heap.size w).alloc (Nat.le_refl _) _).trans (hb.mono (by simp))
    go_wp2_with fail
    first | refine (s_PlanText_no h).mono ?_ | refine (s_PlanText h).mono ?_
    rintro e w2 ⟨rfl, hb2⟩
    have d0 := (hb2.cell (p := ⟨w.heap.size, 0, none⟩) hz).trans c0
    have d1 := (hb2.cell (p := ⟨w.heap.size, 1, none⟩) hz).trans c1
    replace hb := hb.trans (hb2.mono hb.size)
    clear hb2 c0 c1
    go_wp2_with fail
    refine l_toPlan.mono ?_
    rintro e w3 ⟨rfl, hb3⟩
    replace hb := hb.trans (hb3.mono hb.size)
    clear hb3 d0 d1
    go_wp2_with fail
    first | refine (i_PlanText_no h).mono ?_ | refine (i_PlanText h).mono ?_
    rintro e w4 ⟨rfl, hb4⟩
    replace hb := hb.trans (hb4.mono hb.size)
    go_wp2
    go_ret
    exact ⟨rfl, hb⟩
end Go.Proofs.YthocahpemjijhaaDoor
