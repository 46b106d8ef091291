/-
  The law FnExactCountOutputs returns true for all texts.
-/
import Derived.Test.YthocahpemjijhaaDoorCountN
import Derived.Clock
namespace Go.Proofs.YthocahpemjijhaaDoor
open Go.RowKit Mem Go.Shelf
set_option linter.unusedVariables false
set_option maxRecDepth 100000

theorem last_of (s : ByteArray) : ∃ x, (splitS s 10)[(splitS s 10).length - 1]? = some x :=
  ⟨_, List.getElem?_eq_getElem (by have := splitS_pos s 10; omega)⟩
set_option maxHeartbeats 1000000 in
theorem law_CountOutputs {s : ByteArray} {b : Int} {w : World} (hm : w.cell? ⟨renSplit.g 1, 0, none⟩ = some (.int .i64 b)) :
    Calls Tryd.prog 5 #[.string s] w fun e w' => e = .returned (.bool true) ∧ Below w.heap.size w w' := by
  by_cases hs : s.size ≤ 1048576
  · have hsI : ¬ (1048576 : Int) < (s.size : Int) := by omega
    obtain ⟨x, hx⟩ := last_of s
    have hlt : renSplit.g 1 < w.heap.size := Go.Clock.block_lt hm
    by_cases h16 : s.size ≤ 16000
    · cases hemp : x.toList.isEmpty with
      | true =>
        generalize hN : badN (splitS s 10) ((splitS s 10).length - 1) = N
        go_enter Tryd.func5, Tryd.ntmps5
        go_wp2_with fail
        refine (s_CountOutputs hs hx h16 hemp).mono ?_
        rintro e w1 ⟨rfl, hb⟩
        have hm1 := (hb.cell (p := ⟨renSplit.g 1, 0, none⟩) hlt).trans hm
        go_wp2_with fail
        refine (i_CountOutputs hs hm1 hx (by rw [hemp]; simp [h16])).mono ?_
        rintro e w2 ⟨rfl, hb2⟩
        replace hb := hb.trans (hb2.mono hb.size)
        clear hm hm1 hx
        rw [hN]
        go_wp2
        go_ret
        exact ⟨rfl, hb⟩
      | false =>
        go_enter Tryd.func5, Tryd.ntmps5
        go_wp2_with fail
        refine (s_CountOutputs_rest hs hx h16 hemp).mono ?_
        rintro e w1 ⟨rfl, hb⟩
        have hm1 := (hb.cell (p := ⟨renSplit.g 1, 0, none⟩) hlt).trans hm
        go_wp2_with fail
        refine (i_CountOutputs_no hs hm1 hx (by rw [hemp]; simp)).mono ?_
        rintro e w2 ⟨rfl, hb2⟩
        replace hb := hb.trans (hb2.mono hb.size)
        clear hm hm1 hx
        go_wp2
        go_ret
        exact ⟨rfl, hb⟩
    · go_enter Tryd.func5, Tryd.ntmps5
      go_wp2_with fail
      refine (s_CountOutputs_long h16).mono ?_
      rintro e w1 ⟨rfl, hb⟩
      have hm1 := (hb.cell (p := ⟨renSplit.g 1, 0, none⟩) hlt).trans hm
      go_wp2_with fail
      refine (i_CountOutputs_no hs hm1 hx (by simp [h16])).mono ?_
      rintro e w2 ⟨rfl, hb2⟩
      replace hb := hb.trans (hb2.mono hb.size)
      clear hm hm1 hx
      go_wp2
      go_ret
      exact ⟨rfl, hb⟩
  · have hsI : (1048576 : Int) < (s.size : Int) := by omega
    go_enter Tryd.func5, Tryd.ntmps5
    go_wp2
    go_ret
    exact ⟨rfl, Below.refl _ _⟩
end Go.Proofs.YthocahpemjijhaaDoor
