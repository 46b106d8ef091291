/-
  A law is given if it is valid: both sides.
-/
import Derived.Test.YtnpccnhamohnkaaDoorHeadI
import Derived.Test.YtnpccnhamohnkaaDoorValidS
namespace Go.Proofs.YtnpccnhamohnkaaDoor
open Go.RowKit Mem Fl Go.Shelf
set_option linter.unusedVariables false
set_option maxRecDepth 100000

abbrev lawA (kd : Int) (sh sc : Nat) : Array Value := #[.int .i64 kd, .float .f32 sh, .float .f32 sc]
set_option maxHeartbeats 1000000 in
theorem i_ifLaw_yes {kd : Int} {sh sc : Nat} {w : World} (h : lawOk kd sh sc = true) : Calls Tryd.prog 9 #[.agg (lawA kd sh sc)] w fun e w' => e = .returned (.tuple #[.agg (lawA kd sh sc), .bool true]) ∧ Below w.heap.size w w' := by
  go_enter Tryd.func9, Tryd.ntmps9
  go_wp2_with fail
  refine i_ValidLaw.mono ?_
  rintro e w1 ⟨rfl, hb⟩
  rw [h]
  have blkA := ((Blk.new w 24 (lawA kd sh sc)).below ((Below.refl _ _).alloc (Nat.le_refl _) (.cells (lawA 0 0 0) 24)) (by simp)).below hb (by simp; omega)
  have blkB := (Blk.new (w.alloc (.cells (lawA kd sh sc) 24)) 24 (lawA 0 0 0)).below hb (by simp)
  have bel1 : Below w.heap.size w w1 := (((Below.refl _ _).alloc (Nat.le_refl _) _).alloc (by simp) _).trans (hb.mono (by simp; omega))
  simp only [World.size_alloc] at blkB
  have c0 := blkA.cell 0
  have c1 := blkA.cell 1
  have c2 := blkA.cell 2
  have d0 := blkB.cell 0
  have d1 := blkB.cell 1
  have d2 := blkB.cell 2
  have f0 := blkB.frozen 0
  have f1 := blkB.frozen 1
  have f2 := blkB.frozen 2
  have hzz := bel1.size
  clear hb blkA
  go_wp2
  refine bodyPost_ret (results_row_tmp (P := Tryd.prog) rfl _ _ (w.heap.size + 1) 24 (lawA kd sh sc) (0, 0) _ rfl (((blkB.set_ 0 _).set_ 1 _).set_ 2 _) Tryd.underlying24 rfl (by kernel_rfl)) rfl ?_
  exact ⟨rfl, ((bel1.setCell (Nat.le_succ _) _).setCell (Nat.le_succ _) _).setCell (Nat.le_succ _) _⟩
set_option maxHeartbeats 1000000 in
theorem s_l02GiveLaw_yes {kd : Int} {sh sc : Nat} {w : World} (h : lawOk kd sh sc = true) : Calls Tryd.prog 12 #[.agg (lawA kd sh sc)] w fun e w' => e = .returned (.tuple #[.agg (lawA kd sh sc), .bool true]) ∧ Below w.heap.size w w' := by
  have blk0 := (Blk.new w 24 (lawA kd sh sc)).below ((Below.refl _ _).alloc (Nat.le_refl _) (.cells (lawA 0 0 0) 24)) (by simp)
  have HL := hide (s_l02Law (kd := kd) (sh := sh) (sc := sc) (blk0.cell 0) (blk0.cell 1) (blk0.cell 2))
  clear blk0
  go_enter Tryd.func12, Tryd.ntmps12
  go_wp2_with fail
  refine HL.out.mono ?_
  rintro e w1 ⟨rfl, hb⟩
  rw [h]
  have blkA := ((Blk.new w 24 (lawA kd sh sc)).below ((Below.refl _ _).alloc (Nat.le_refl _) (.cells (lawA 0 0 0) 24)) (by simp)).below hb (by simp; omega)
  have blkB := (Blk.new (w.alloc (.cells (lawA kd sh sc) 24)) 24 (lawA 0 0 0)).below hb (by simp)
  have bel1 : Below w.heap.size w w1 := (((Below.refl _ _).alloc (Nat.le_refl _) _).alloc (by simp) _).trans (hb.mono (by simp; omega))
  simp only [World.size_alloc] at blkB
  have c0 := blkA.cell 0
  have c1 := blkA.cell 1
  have c2 := blkA.cell 2
  have d0 := blkB.cell 0
  have d1 := blkB.cell 1
  have d2 := blkB.cell 2
  have f0 := blkB.frozen 0
  have f1 := blkB.frozen 1
  have f2 := blkB.frozen 2
  have hzz := bel1.size
  clear hb blkA
  go_wp2
  refine bodyPost_ret (results_row_tmp (P := Tryd.prog) rfl _ _ (w.heap.size + 1) 24 (lawA kd sh sc) (0, 0) _ rfl (((blkB.set_ 0 _).set_ 1 _).set_ 2 _) Tryd.underlying24 rfl (by kernel_rfl)) rfl ?_
  exact ⟨rfl, ((bel1.setCell (Nat.le_succ _) _).setCell (Nat.le_succ _) _).setCell (Nat.le_succ _) _⟩
set_option maxHeartbeats 1000000 in
theorem i_ifLaw_no {kd : Int} {sh sc : Nat} {w : World} (h : lawOk kd sh sc = false) : Calls Tryd.prog 9 #[.agg (lawA kd sh sc)] w fun e w' => e = .returned (.tuple #[.agg (lawA 0 0 0), .bool false]) ∧ Below w.heap.size w w' := by
  go_enter Tryd.func9, Tryd.ntmps9
  go_wp2_with fail
  refine i_ValidLaw.mono ?_
  rintro e w1 ⟨rfl, hb⟩
  rw [h]
  have blkA := ((Blk.new w 24 (lawA kd sh sc)).below ((Below.refl _ _).alloc (Nat.le_refl _) (.cells (lawA 0 0 0) 24)) (by simp)).below hb (by simp; omega)
  have blkB := (Blk.new (w.alloc (.cells (lawA kd sh sc) 24)) 24 (lawA 0 0 0)).below hb (by simp)
  have bel1 : Below w.heap.size w w1 := (((Below.refl _ _).alloc (Nat.le_refl _) _).alloc (by simp) _).trans (hb.mono (by simp; omega))
  simp only [World.size_alloc] at blkB
  have c0 := blkA.cell 0
  have c1 := blkA.cell 1
  have c2 := blkA.cell 2
  have d0 := blkB.cell 0
  have d1 := blkB.cell 1
  have d2 := blkB.cell 2
  have f0 := blkB.frozen 0
  have f1 := blkB.frozen 1
  have f2 := blkB.frozen 2
  have hzz := bel1.size
  clear hb blkA
  go_wp2
  refine bodyPost_ret (results_row_tmp (P := Tryd.prog) rfl _ _ (w.heap.size + 1) 24 (lawA 0 0 0) (0, 0) _ rfl (((blkB.set_ 0 _).set_ 1 _).set_ 2 _) Tryd.underlying24 rfl (by kernel_rfl)) rfl ?_
  exact ⟨rfl, ((bel1.setCell (Nat.le_succ _) _).setCell (Nat.le_succ _) _).setCell (Nat.le_succ _) _⟩
set_option maxHeartbeats 1000000 in
theorem s_l02GiveLaw_no {kd : Int} {sh sc : Nat} {w : World} (h : lawOk kd sh sc = false) : Calls Tryd.prog 12 #[.agg (lawA kd sh sc)] w fun e w' => e = .returned (.tuple #[.agg (lawA 0 0 0), .bool false]) ∧ Below w.heap.size w w' := by
  have blk0 := (Blk.new w 24 (lawA kd sh sc)).below ((Below.refl _ _).alloc (Nat.le_refl _) (.cells (lawA 0 0 0) 24)) (by simp)
  have HL := hide (s_l02Law (kd := kd) (sh := sh) (sc := sc) (blk0.cell 0) (blk0.cell 1) (blk0.cell 2))
  clear blk0
  go_enter Tryd.func12, Tryd.ntmps12
  go_wp2_with fail
  refine HL.out.mono ?_
  rintro e w1 ⟨rfl, hb⟩
  rw [h]
  have blkA := ((Blk.new w 24 (lawA kd sh sc)).below ((Below.refl _ _).alloc (Nat.le_refl _) (.cells (lawA 0 0 0) 24)) (by simp)).below hb (by simp; omega)
  have blkB := (Blk.new (w.alloc (.cells (lawA kd sh sc) 24)) 24 (lawA 0 0 0)).below hb (by simp)
  have bel1 : Below w.heap.size w w1 := (((Below.refl _ _).alloc (Nat.le_refl _) _).alloc (by simp) _).trans (hb.mono (by simp; omega))
  simp only [World.size_alloc] at blkB
  have c0 := blkA.cell 0
  have c1 := blkA.cell 1
  have c2 := blkA.cell 2
  have d0 := blkB.cell 0
  have d1 := blkB.cell 1
  have d2 := blkB.cell 2
  have f0 := blkB.frozen 0
  have f1 := blkB.frozen 1
  have f2 := blkB.frozen 2
  have hzz := bel1.size
  clear hb blkA
  go_wp2
  refine bodyPost_ret (results_row_tmp (P := Tryd.prog) rfl _ _ (w.heap.size + 1) 24 (lawA 0 0 0) (0, 0) _ rfl (((blkB.set_ 0 _).set_ 1 _).set_ 2 _) Tryd.underlying24 rfl (by kernel_rfl)) rfl ?_
  exact ⟨rfl, ((bel1.setCell (Nat.le_succ _) _).setCell (Nat.le_succ _) _).setCell (Nat.le_succ _) _⟩
end Go.Proofs.YtnpccnhamohnkaaDoor
