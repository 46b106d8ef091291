/-
  The law FnExactNewDesk returns true, and writes nothing that was there.
-/
import Derived.Test.YtkjiefpnfkampaaDesk
namespace Go.Proofs.Ytkjiefpnfkampaa
open Go.RowKit Fl Mem
set_option linter.unusedVariables false
set_option maxRecDepth 100000

abbrev deskC (g1 g2 : Nat) : Array Value := #[.slice (some ⟨g1, 0, none⟩) 3 3, .int .i64 0, .float .f32 1065353216, .float .f32 1082130432, .int .i64 2, .slice (some ⟨g2, 0, none⟩) 4 4, .int .i64 2, .int .i64 0]

set_option maxHeartbeats 4000000 in
theorem law_NewDesk (w : World) : Calls Try.prog 12 #[] w fun e w' => e = .returned (.bool true) ∧ Below w.heap.size w w' := by
  go_enter Try.func12, Try.ntmps12
  go_wp2_with fail
  refine (s_NewDesk _).mono ?_
  rintro e w1 ⟨a1, a2, hna, rfl, ha1, ha2, hbel1⟩
  have hx1 : Blk (w1.alloc (.cells (deskC a1 a2) 63)) w1.heap.size 63 (deskC a1 a2) := Blk.new _ _ _
  go_wp2_with fail
  refine (i_NewDesk _).mono ?_
  rintro e w2 ⟨b1, b2, hnb, rfl, hb1, hb2, hbel2⟩
  have hx1' := blk_below hx1 hbel2
  have hs2 := hbel2.size
  rw [show (w1.alloc (.cells (deskC a1 a2) 63)).heap.size = w1.heap.size + 1 by simp] at hs2
  have p_0 : w2.cell? ⟨w1.heap.size, 0, none⟩ = some (.slice (some ⟨a1, 0, none⟩) 3 3) := (hx1').cell 0
  have p_1 : w2.cell? ⟨w1.heap.size, 1, none⟩ = some (.int .i64 0) := (hx1').cell 1
  have p_2 : w2.cell? ⟨w1.heap.size, 2, none⟩ = some (.float .f32 1065353216) := (hx1').cell 2
  have p_3 : w2.cell? ⟨w1.heap.size, 3, none⟩ = some (.float .f32 1082130432) := (hx1').cell 3
  have p_4 : w2.cell? ⟨w1.heap.size, 4, none⟩ = some (.int .i64 2) := (hx1').cell 4
  have p_5 : w2.cell? ⟨w1.heap.size, 5, none⟩ = some (.slice (some ⟨a2, 0, none⟩) 4 4) := (hx1').cell 5
  have p_6 : w2.cell? ⟨w1.heap.size, 6, none⟩ = some (.int .i64 2) := (hx1').cell 6
  have p_7 : w2.cell? ⟨w1.heap.size, 7, none⟩ = some (.int .i64 0) := (hx1').cell 7
  have hd : ¬ w1.heap.size = w2.heap.size := by omega
  have hlt : w1.heap.size < w2.heap.size := by omega
  have hA1 := hide (((Reads.of_own ha1).alloc (Nat.le_refl _) (.cells (deskC a1 a2) 63)).below (hbel2.mono (by simp)))
  have hA2 := hide (((Reads.of_own ha2).alloc (Nat.le_refl _) (.cells (deskC a1 a2) 63)).below (hbel2.mono (by simp)))
  have hl2 : w1.heap.size ≤ w2.heap.size := by omega
  go_wp2_with fail
  refine (eqDesk (B := w2.heap.size) (by simp) ((Reads.of_own hb1).alloc (Nat.le_refl _) _) ((hA1.out.more hl2).alloc (Nat.le_refl _) _) ((Reads.of_own hb2).alloc (Nat.le_refl _) _) ((hA2.out.more hl2).alloc (Nat.le_refl _) _) (by omega) (by omega) rfl rfl).mono ?_
  rintro e w4 ⟨rfl, hb4⟩
  have hO1 := hide (own_below (hb1.alloc (.cells (deskC b1 b2) 63)) hb4)
  have hO2 := hide (own_below (hb2.alloc (.cells (deskC b1 b2) 63)) hb4)
  have hx2 := blk_below (Blk.new w2 63 (deskC b1 b2)) hb4
  have hx1 := hide (blk_below (hx1'.alloc (.cells (deskC b1 b2) 63)) hb4)
  have hs4 := hb4.size
  rw [show (w2.alloc (.cells (deskC b1 b2) 63)).heap.size = w2.heap.size + 1 by simp] at hs4
  have hB1 := hide ((hA1.out.alloc hl2 (.cells (deskC b1 b2) 63)).below (hb4.mono (by simp; omega)))
  have hB2 := hide ((hA2.out.alloc hl2 (.cells (deskC b1 b2) 63)).below (hb4.mono (by simp; omega)))
  have hw4 : Below w.heap.size w w4 := by
    have h1 := hbel1.size
    refine ((hbel1.alloc h1 _).trans (hbel2.mono (by simp; omega))).trans ?_
    exact Below.trans (Below.alloc (Below.refl _ _) (by omega) _) (hb4.mono (by simp; omega))
  clear p_0 p_1 p_2 p_3 p_4 p_5 p_6 p_7
  clear hA1 hA2 hb4
  have q_0 : w4.cell? ⟨w2.heap.size, 0, none⟩ = some (.slice (some ⟨b1, 0, none⟩) 3 3) := (hx2).cell 0
  have q_1 : w4.cell? ⟨w2.heap.size, 1, none⟩ = some (.int .i64 0) := (hx2).cell 1
  have q_2 : w4.cell? ⟨w2.heap.size, 2, none⟩ = some (.float .f32 1065353216) := (hx2).cell 2
  have q_3 : w4.cell? ⟨w2.heap.size, 3, none⟩ = some (.float .f32 1082130432) := (hx2).cell 3
  have q_4 : w4.cell? ⟨w2.heap.size, 4, none⟩ = some (.int .i64 2) := (hx2).cell 4
  have q_5 : w4.cell? ⟨w2.heap.size, 5, none⟩ = some (.slice (some ⟨b2, 0, none⟩) 4 4) := (hx2).cell 5
  have q_6 : w4.cell? ⟨w2.heap.size, 6, none⟩ = some (.int .i64 2) := (hx2).cell 6
  have q_7 : w4.cell? ⟨w2.heap.size, 7, none⟩ = some (.int .i64 0) := (hx2).cell 7
  go_wp2_with fail
  have hmd := markDesk (some ⟨b1, 0, none⟩) (some ⟨b2, 0, none⟩) 3 3 4 4 1 1065353216 1082130432 _ 0 2 2 0 _ _ w4 hO1.out hO2.out (.inr (by simp [Value.ownBlock]; omega)) (.inr (by simp [Value.ownBlock]; omega)) (by omega)
  refine hmd.mono ?_
  rintro e w5 ⟨rfl, hl5, hr5, wm, hg, hg'⟩
  have bl1 := (hb1.lt b1 rfl)
  have bl2 := (hb2.lt b2 rfl)
  rw [show (w1.alloc (.cells (deskC a1 a2) 63)).heap.size = w1.heap.size + 1 by simp] at bl1 bl2
  have hw1s := hbel1.size
  have row1 : ∀ {B : Nat}, B ≤ w1.heap.size → ∀ g, (Value.slice (some ⟨b1, 0, none⟩) 3 3).ownBlock = some g → B ≤ g := by
    intro B hB g hgg
    obtain rfl : b1 = g := by simpa [Value.ownBlock] using hgg
    omega
  have row2 : ∀ {B : Nat}, B ≤ w1.heap.size → ∀ g, (Value.slice (some ⟨b2, 0, none⟩) 4 4).ownBlock = some g → B ≤ g := by
    intro B hB g hgg
    obtain rfl : b2 = g := by simpa [Value.ownBlock] using hgg
    omega
  have hsm := hg.size
  have hs5 := hg'.size
  have hx1b := hide ((hx1.out.grown hg (by simp [Value.ownBlock]; omega)).grown hg' (by simp [Value.ownBlock]; omega))
  have hx2b := hide ((hx2.grown hg (by simp [Value.ownBlock]; omega)).grown hg' (by simp [Value.ownBlock]; omega))
  have hC1 := hide ((hB1.out.grown hg (by omega) (row1 (Nat.le_refl _))).grown hg' (by omega) (row2 (Nat.le_refl _)))
  have hC2 := hide ((hB2.out.grown hg (by omega) (row1 (Nat.le_refl _))).grown hg' (by omega) (row2 (Nat.le_refl _)))
  have hw5 : Below w.heap.size w w5 := (hw4.grown hg (by omega) (row1 hw1s)).grown hg' (by omega) (row2 hw1s)
  clear q_0 q_1 q_2 q_3 q_4 q_5 q_6 q_7
  clear hx1 hx2 hB1 hB2 hg hg' hmd hw4
  have hx2c := hx2b.out
  have q_0 : w5.cell? ⟨w2.heap.size, 0, none⟩ = some (.slice (some ⟨b1, 0, none⟩) 3 3) := (hx2c).cell 0
  have q_1 : w5.cell? ⟨w2.heap.size, 1, none⟩ = some (.int .i64 0) := (hx2c).cell 1
  have q_2 : w5.cell? ⟨w2.heap.size, 2, none⟩ = some (.float .f32 1065353216) := (hx2c).cell 2
  have q_3 : w5.cell? ⟨w2.heap.size, 3, none⟩ = some (.float .f32 1082130432) := (hx2c).cell 3
  have q_4 : w5.cell? ⟨w2.heap.size, 4, none⟩ = some (.int .i64 2) := (hx2c).cell 4
  have q_5 : w5.cell? ⟨w2.heap.size, 5, none⟩ = some (.slice (some ⟨b2, 0, none⟩) 4 4) := (hx2c).cell 5
  have q_6 : w5.cell? ⟨w2.heap.size, 6, none⟩ = some (.int .i64 2) := (hx2c).cell 6
  have q_7 : w5.cell? ⟨w2.heap.size, 7, none⟩ = some (.int .i64 0) := (hx2c).cell 7
  clear hx2c
  go_wp2_with fail
  refine (heldDesk _ _ 3 3 4 4 1 _ _ w5.heap.size _ _ _ _ w5 (Reads.of_own hl5) (Reads.of_own hr5) (Nat.le_refl _) (by omega)).mono ?_
  rintro e w6 ⟨rfl, hb6⟩
  clear q_0 q_1 q_2 q_3 q_4 q_5 q_6 q_7
  go_wp2_with fail
  refine (i_NewDesk _).mono ?_
  rintro e w7 ⟨c1, c2, hnc, rfl, hc1, hc2, hb7⟩
  have hs6 := hb6.size
  have hs7 := hb7.size
  have hx1c := blk_below (blk_below hx1b.out hb6) hb7
  have hx2c := hide (blk_below (blk_below hx2b.out hb6) hb7)
  have hD1 := hide ((hC1.out.below (hb6.mono (by omega))).below (hb7.mono (by omega)))
  have hD2 := hide ((hC2.out.below (hb6.mono (by omega))).below (hb7.mono (by omega)))
  have hG1 := hide (((Reads.of_own hl5).below (hb6.mono (by omega))).below (hb7.mono (by omega)))
  have hG2 := hide (((Reads.of_own hr5).below (hb6.mono (by omega))).below (hb7.mono (by omega)))
  have hw7 : Below w.heap.size w w7 := (hw5.trans (hb6.mono (by omega))).trans (hb7.mono (by omega))
  have hl57 : w5.heap.size ≤ w7.heap.size := by omega
  clear hb6 hb7 hx1b hx2b hC1 hC2 hl5 hr5 hw5
  have p_0 : w7.cell? ⟨w1.heap.size, 0, none⟩ = some (.slice (some ⟨a1, 0, none⟩) 3 3) := (hx1c).cell 0
  have p_1 : w7.cell? ⟨w1.heap.size, 1, none⟩ = some (.int .i64 0) := (hx1c).cell 1
  have p_2 : w7.cell? ⟨w1.heap.size, 2, none⟩ = some (.float .f32 1065353216) := (hx1c).cell 2
  have p_3 : w7.cell? ⟨w1.heap.size, 3, none⟩ = some (.float .f32 1082130432) := (hx1c).cell 3
  have p_4 : w7.cell? ⟨w1.heap.size, 4, none⟩ = some (.int .i64 2) := (hx1c).cell 4
  have p_5 : w7.cell? ⟨w1.heap.size, 5, none⟩ = some (.slice (some ⟨a2, 0, none⟩) 4 4) := (hx1c).cell 5
  have p_6 : w7.cell? ⟨w1.heap.size, 6, none⟩ = some (.int .i64 2) := (hx1c).cell 6
  have p_7 : w7.cell? ⟨w1.heap.size, 7, none⟩ = some (.int .i64 0) := (hx1c).cell 7
  have hd7 : ¬ w1.heap.size = w7.heap.size := by omega
  have hd8 : ¬ w2.heap.size = w7.heap.size := by omega
  have hd9 : w1.heap.size < w7.heap.size := by omega
  have hd10 : w2.heap.size < w7.heap.size := by omega
  go_wp2_with fail
  refine (eqDesk (B := w7.heap.size) (by simp) ((Reads.of_own hc1).alloc (Nat.le_refl _) _) ((hD1.out.more (by omega)).alloc (Nat.le_refl _) _) ((Reads.of_own hc2).alloc (Nat.le_refl _) _) ((hD2.out.more (by omega)).alloc (Nat.le_refl _) _) (by omega) (by omega) rfl rfl).mono ?_
  rintro e w8 ⟨rfl, hb8⟩
  have hx2d := blk_below (hx2c.out.alloc (.cells (deskC c1 c2) 63)) hb8
  have hE1 := (hG1.out.alloc hl57 (.cells (deskC c1 c2) 63)).below (hb8.mono (by simp; omega))
  have hE2 := (hG2.out.alloc hl57 (.cells (deskC c1 c2) 63)).below (hb8.mono (by simp; omega))
  have hs8 := hb8.size
  rw [show (w7.alloc (.cells (deskC c1 c2) 63)).heap.size = w7.heap.size + 1 by simp] at hs8
  have hw8 : Below w.heap.size w w8 := (hw7.alloc (by omega) _).trans (hb8.mono (by simp; omega))
  clear p_0 p_1 p_2 p_3 p_4 p_5 p_6 p_7
  clear hb8 hx2c hx1c hG1 hG2 hD1 hD2 hw7
  have q_0 : w8.cell? ⟨w2.heap.size, 0, none⟩ = some (.slice (some ⟨b1, 0, none⟩) 3 3) := (hx2d).cell 0
  have q_1 : w8.cell? ⟨w2.heap.size, 1, none⟩ = some (.int .i64 0) := (hx2d).cell 1
  have q_2 : w8.cell? ⟨w2.heap.size, 2, none⟩ = some (.float .f32 1065353216) := (hx2d).cell 2
  have q_3 : w8.cell? ⟨w2.heap.size, 3, none⟩ = some (.float .f32 1082130432) := (hx2d).cell 3
  have q_4 : w8.cell? ⟨w2.heap.size, 4, none⟩ = some (.int .i64 2) := (hx2d).cell 4
  have q_5 : w8.cell? ⟨w2.heap.size, 5, none⟩ = some (.slice (some ⟨b2, 0, none⟩) 4 4) := (hx2d).cell 5
  have q_6 : w8.cell? ⟨w2.heap.size, 6, none⟩ = some (.int .i64 2) := (hx2d).cell 6
  have q_7 : w8.cell? ⟨w2.heap.size, 7, none⟩ = some (.int .i64 0) := (hx2d).cell 7
  go_wp2_with fail
  refine (heldDesk _ _ 3 3 4 4 1 _ _ w5.heap.size _ _ _ _ w8 hE1 hE2 (by omega) (by omega)).mono ?_
  rintro e w9 ⟨rfl, hb9⟩
  go_wp2
  go_ret
  exact ⟨rfl, hw8.trans (hb9.mono (by omega))⟩
end Go.Proofs.Ytkjiefpnfkampaa
