/-
  CountOutputs: the ways that say no.
-/
import Derived.Test.YthocahpemjijhaaDoorCountS
namespace Go.Proofs.YthocahpemjijhaaDoor
open Go.RowKit Mem Go.Shelf
set_option linter.unusedVariables false
set_option maxRecDepth 100000

set_option maxHeartbeats 400000 in
theorem i_CountOutputs_no {s x : ByteArray} {b : Int} {w : World} (hs : s.size ≤ 1048576) (hm : w.cell? ⟨renSplit.g 1, 0, none⟩ = some (.int .i64 b)) (hx : (splitS s 10)[(splitS s 10).length - 1]? = some x) (hok : (decide (s.size ≤ 16000) && x.toList.isEmpty) = false) :
    Calls Tryd.prog 21 #[.string s] w fun e w' => e = .returned (.tuple #[.int .i64 0, .int .i64 0, .bool false]) ∧ Below w.heap.size w w' := by
  go_enter Tryd.func21, Tryd.ntmps21
  go_wp2_with fail
  refine (i_linesOf hs hm hx).mono ?_
  rintro e w1 ⟨rfl, hblk, hb⟩
  rw [hok]
  go_wp2
  go_ret3
  exact ⟨rfl, hb⟩
theorem s_CountOutputs_long {s : ByteArray} {w : World} (h : ¬ s.size ≤ 16000) :
    Calls Tryd.prog 20 #[.string s] w fun e w' => e = .returned (.tuple #[.int .i64 0, .int .i64 0, .bool false]) ∧ Below w.heap.size w w' := by
  go_enter Tryd.func20, Tryd.ntmps20
  go_wp2
  go_ret3
  exact ⟨rfl, Below.refl _ _⟩
theorem s_CountOutputs_rest {s x : ByteArray} {w : World} (hs : s.size ≤ 1048576) (hx : (splitS s 10)[(splitS s 10).length - 1]? = some x) (h16 : s.size ≤ 16000) (hemp : x.toList.isEmpty = false) :
    Calls Tryd.prog 20 #[.string s] w fun e w' => e = .returned (.tuple #[.int .i64 0, .int .i64 0, .bool false]) ∧ Below w.heap.size w w' := by
  have hx0 : ¬ x.toList = [] := fun h => by rw [h] at hemp; simp at hemp
  go_enter Tryd.func20, Tryd.ntmps20
  go_wp2_with fail
  refine (s_l08Lines hs hx).mono ?_
  rintro e w1 ⟨g, cap, rfl, hg, hgl, hcell, hb⟩
  go_wp2
  go_ret3
  exact ⟨rfl, hb⟩
end Go.Proofs.YthocahpemjijhaaDoor
