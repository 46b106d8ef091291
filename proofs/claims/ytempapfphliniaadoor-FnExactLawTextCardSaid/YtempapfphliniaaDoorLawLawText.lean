/-
  The law FnExactLawText returns true for all laws.
-/
import Derived.Test.YtempapfphliniaaDoorLawT
import Derived.Test.YtempapfphliniaaDoorCopy
namespace Go.Proofs.YtempapfphliniaaDoor
open Go.RowKit Mem Fl
set_option linter.unusedVariables false
set_option maxRecDepth 100000

set_option maxHeartbeats 1000000 in
theorem law_LawText {kd : Int} {sh sc : Nat} {w : World} (w1 : Wf .f32 sh) (w2 : Wf .f32 sc) (ht : w.cell? ⟨6, 15, none⟩ = some (.int .u8 4)) :
    Calls Tryd.prog 5 #[.agg #[.int .i64 kd, .float .f32 sh, .float .f32 sc]] w fun e w' => e = .returned (.bool true) ∧ Below w.heap.size w w' := by
  have hlt := Go.Clock.block_lt ht
  cases h : lawOk kd sh sc
  all_goals
    go_enter Tryd.func5, Tryd.ntmps5
    go_wp2_with fail
    refine l_toLaw.mono ?_
    rintro e v1 ⟨rfl, hb⟩
    have c0 : v1.cell? ⟨w.heap.size, 0, none⟩ = some (.int .i64 kd) := ((Blk.new w _ _).below hb (by simp)).cell 0
    have c1 : v1.cell? ⟨w.heap.size, 1, none⟩ = some (.float .f32 sh) := ((Blk.new w _ _).below hb (by simp)).cell 1
    have c2 : v1.cell? ⟨w.heap.size, 2, none⟩ = some (.float .f32 sc) := ((Blk.new w _ _).below hb (by simp)).cell 2
    have hz := hb.size
    simp at hz
    replace hb := ((Below.refl w.heap.size w).alloc (Nat.le_refl _) _).trans (hb.mono (by simp))
    go_wp2_with fail
    first | refine (s_LawText_no h).mono ?_ | refine (s_LawText h w1 w2).mono ?_
    rintro e v2 ⟨rfl, hb2⟩
    have d0 := (hb2.cell (p := ⟨w.heap.size, 0, none⟩) hz).trans c0
    have d1 := (hb2.cell (p := ⟨w.heap.size, 1, none⟩) hz).trans c1
    have d2 := (hb2.cell (p := ⟨w.heap.size, 2, none⟩) hz).trans c2
    replace hb := hb.trans (hb2.mono hb.size)
    clear hb2 c0 c1 c2
    go_wp2_with fail
    refine l_toLaw.mono ?_
    rintro e v3 ⟨rfl, hb3⟩
    replace hb := hb.trans (hb3.mono hb.size)
    clear hb3 d0 d1 d2
    have ht3 := (hb.cell (p := ⟨6, 15, none⟩) hlt).trans ht
    go_wp2_with fail
    first | refine (i_LawText_no h).mono ?_ | refine (i_LawText h w1 w2 ht3).mono ?_
    rintro e v4 ⟨rfl, hb4⟩
    replace hb := hb.trans (hb4.mono hb.size)
    clear ht3 ht
    generalize headB kd (joinedB (tx [sh, sc])) = T at *
    go_wp2
    go_ret
    exact ⟨rfl, hb⟩
end Go.Proofs.YtempapfphliniaaDoor
