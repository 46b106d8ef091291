/-
  ReadLaw: both sides where the text is a law's.
-/
import Derived.Test.YtnpccnhamohnkaaDoorReadL
import Derived.Test.YtnpccnhamohnkaaDoorMark
import Derived.Deep.RegionHeld3
import Derived.Test.YtnpccnhamohnkaaDoorLife
namespace Go.Proofs.YtnpccnhamohnkaaDoor
open Go.RowKit Mem Fl Go.Shelf
set_option linter.unusedVariables false
set_option maxRecDepth 100000

set_option maxHeartbeats 2000000 in
theorem s_l08ReadLaw_yes {t : ByteArray} {n : Int} {x y : Nat} {w : World} (hs : t.size ≤ 1048576) (h : headV t = some (n, [x, y])) (hl : lawOk n x y = true) :
    Calls Tryd.prog 7 #[.string t] w fun e w' => e = .returned (.tuple #[.agg (lawA n x y), .bool true]) ∧ Below w.heap.size w w' := by
  have HH := hide (s_l08Both (w := w.alloc (.cells (lawA 0 0 0) 24)) hs)
  rw [h] at HH
  go_enter Tryd.func7, Tryd.ntmps7
  go_wp2_with fail
  refine HH.out.mono ?_
  rintro e w1 ⟨⟨n', v, rfl, rfl, ho, _⟩, hb⟩
  simp only [Option.isSome_some]
  obtain ⟨g, c, rfl⟩ := own_addr ho (by simp)
  have c0 : w1.cell? ⟨g, 0, none⟩ = some (.float .f32 x) := (own_cell ho (i := 0) rfl).1
  have c1 : w1.cell? ⟨g, 1, none⟩ = some (.float .f32 y) := (own_cell ho (i := 1) rfl).1
  have hg := (ho.lt g rfl).2
  have hgn : g ≠ w.heap.size := by have := (ho.lt g rfl).1; simp at this; omega
  have hgn' : ¬ w.heap.size = g := fun e => hgn e.symm
  clear ho
  have blkB := (Blk.new w 24 (lawA 0 0 0)).below hb (by simp)
  have bel1 : Below w.heap.size w w1 := ((Below.refl _ _).alloc (Nat.le_refl _) _).trans (hb.mono (by simp))
  clear hb HH
  go_wp2_with fail
  go_region_held3 (fun w' => w'.cell? ⟨g, 0, none⟩ = some (.float .f32 x) ∧ w'.cell? ⟨g, 1, none⟩ = some (.float .f32 y)) (first | assumption | go_keep)
    (first
      | (go_at_call 12; refine (s_l02GiveLaw_yes hl).mono ?_; rintro e w2 ⟨rfl, hb20⟩; have hb2 : Below w1.heap.size w1 w2 := ⟨hb20.os, hb20.tape, hb20.output, hb20.size, hb20.block⟩; clear hb20; have K2 : w2.cell? ⟨g, 0, none⟩ = some (.float .f32 x) ∧ w2.cell? ⟨g, 1, none⟩ = some (.float .f32 y) := ⟨(hb2.cell (p := ⟨g, 0, none⟩) hg).trans c0, (hb2.cell (p := ⟨g, 1, none⟩) hg).trans c1⟩; have blk2 := blkB.below hb2 blkB.lt; have bel2 := bel1.trans (hb2.mono bel1.size); have d0 := blk2.cell 0; have d1 := blk2.cell 1; have d2 := blk2.cell 2; have f0 := blk2.frozen 0; have f1 := blk2.frozen 1; have f2 := blk2.frozen 2; clear hb2))
  go_wp2
  refine bodyPost_ret (results_row_tmp (P := Tryd.prog) rfl _ _ w.heap.size 24 (lawA n' x y) (0, 0) _ rfl (((blk2.set_ 0 _).set_ 1 _).set_ 2 _) Tryd.underlying24 rfl (by kernel_rfl)) rfl ?_
  exact ⟨rfl, ((bel2.setCell (Nat.le_refl _) _).setCell (Nat.le_refl _) _).setCell (Nat.le_refl _) _⟩
end Go.Proofs.YtnpccnhamohnkaaDoor

/-
  ReadLaw: the rest of the ways through a list of two numbers.
-/
namespace Go.Proofs.YtnpccnhamohnkaaDoor
open Go.RowKit Mem Fl Go.Shelf
set_option linter.unusedVariables false
set_option maxRecDepth 100000

set_option maxHeartbeats 2000000 in
theorem i_ReadLaw_yes {t : ByteArray} {n : Int} {x y : Nat} {bm bs : Int} {w : World} (hs : t.size ≤ 1048576) (hm : w.cell? ⟨renCutF.g 1, 0, none⟩ = some (.int .i64 bm)) (hm2 : w.cell? ⟨renSplit.g 1, 0, none⟩ = some (.int .i64 bs)) (he : Errs w)
    (htab : Lib.TabIs Tryd.prog w "internal/strconv.uint64pow10" .u64 Lib.pow10Tab) (ht : w.cell? ⟨6, 15, none⟩ = some (.int .u8 4)) (h : headV t = some (n, [x, y])) (hl : lawOk n x y = true) :
    Calls Tryd.prog 5 #[.string t] w fun e w' => e = .returned (.tuple #[.agg (lawA n x y), .bool true]) ∧ Below w.heap.size w w' := by
  have b0 : Below w.heap.size w (w.alloc (.cells (lawA 0 0 0) 24)) := (Below.refl _ _).alloc (Nat.le_refl _) _
  have HH := hide (i_readHeaded (w := w.alloc (.cells (lawA 0 0 0) 24)) hs ((b0.cell (p := ⟨renCutF.g 1, 0, none⟩) (Go.Clock.block_lt hm)).trans hm) ((b0.cell (p := ⟨renSplit.g 1, 0, none⟩) (Go.Clock.block_lt hm2)).trans hm2) (he.below b0) (pow_kept htab b0) ((b0.cell (p := ⟨6, 15, none⟩) (Go.Clock.block_lt ht)).trans ht))
  rw [h] at HH
  clear b0 hm hm2 he htab ht
  go_enter Tryd.func5, Tryd.ntmps5
  go_wp2_with fail
  refine HH.out.mono ?_
  rintro e w1 ⟨⟨n', v, rfl, rfl, ho, _⟩, hb⟩
  simp only [Option.isSome_some]
  obtain ⟨g, c, rfl⟩ := own_addr ho (by simp)
  have c0 : w1.cell? ⟨g, 0, none⟩ = some (.float .f32 x) := (own_cell ho (i := 0) rfl).1
  have c1 : w1.cell? ⟨g, 1, none⟩ = some (.float .f32 y) := (own_cell ho (i := 1) rfl).1
  have hg := (ho.lt g rfl).2
  have hgn : g ≠ w.heap.size := by have := (ho.lt g rfl).1; simp at this; omega
  have hgn' : ¬ w.heap.size = g := fun e => hgn e.symm
  clear ho
  have blkB := (Blk.new w 24 (lawA 0 0 0)).below hb (by simp)
  have bel1 : Below w.heap.size w w1 := ((Below.refl _ _).alloc (Nat.le_refl _) _).trans (hb.mono (by simp))
  clear hb HH
  go_wp2_with fail
  go_region_held3 (fun w' => w'.cell? ⟨g, 0, none⟩ = some (.float .f32 x) ∧ w'.cell? ⟨g, 1, none⟩ = some (.float .f32 y)) (first | assumption | go_keep)
    (first
      | (go_at_call 9; refine (i_ifLaw_yes hl).mono ?_; rintro e w2 ⟨rfl, hb20⟩; have hb2 : Below w1.heap.size w1 w2 := ⟨hb20.os, hb20.tape, hb20.output, hb20.size, hb20.block⟩; clear hb20; have K2 : w2.cell? ⟨g, 0, none⟩ = some (.float .f32 x) ∧ w2.cell? ⟨g, 1, none⟩ = some (.float .f32 y) := ⟨(hb2.cell (p := ⟨g, 0, none⟩) hg).trans c0, (hb2.cell (p := ⟨g, 1, none⟩) hg).trans c1⟩; have blk2 := blkB.below hb2 blkB.lt; have bel2 := bel1.trans (hb2.mono bel1.size); have d0 := blk2.cell 0; have d1 := blk2.cell 1; have d2 := blk2.cell 2; have f0 := blk2.frozen 0; have f1 := blk2.frozen 1; have f2 := blk2.frozen 2; clear hb2))
  go_wp2
  refine bodyPost_ret (results_row_tmp (P := Tryd.prog) rfl _ _ w.heap.size 24 (lawA n' x y) (0, 0) _ rfl (((blk2.set_ 0 _).set_ 1 _).set_ 2 _) Tryd.underlying24 rfl (by kernel_rfl)) rfl ?_
  exact ⟨rfl, ((bel2.setCell (Nat.le_refl _) _).setCell (Nat.le_refl _) _).setCell (Nat.le_refl _) _⟩
set_option maxHeartbeats 2000000 in
theorem i_ReadLaw_no {t : ByteArray} {n : Int} {x y : Nat} {bm bs : Int} {w : World} (hs : t.size ≤ 1048576) (hm : w.cell? ⟨renCutF.g 1, 0, none⟩ = some (.int .i64 bm)) (hm2 : w.cell? ⟨renSplit.g 1, 0, none⟩ = some (.int .i64 bs)) (he : Errs w)
    (htab : Lib.TabIs Tryd.prog w "internal/strconv.uint64pow10" .u64 Lib.pow10Tab) (ht : w.cell? ⟨6, 15, none⟩ = some (.int .u8 4)) (h : headV t = some (n, [x, y])) (hl : lawOk n x y = false) :
    Calls Tryd.prog 5 #[.string t] w fun e w' => e = .returned (.tuple #[.agg (lawA 0 0 0), .bool false]) ∧ Below w.heap.size w w' := by
  have b0 : Below w.heap.size w (w.alloc (.cells (lawA 0 0 0) 24)) := (Below.refl _ _).alloc (Nat.le_refl _) _
  have HH := hide (i_readHeaded (w := w.alloc (.cells (lawA 0 0 0) 24)) hs ((b0.cell (p := ⟨renCutF.g 1, 0, none⟩) (Go.Clock.block_lt hm)).trans hm) ((b0.cell (p := ⟨renSplit.g 1, 0, none⟩) (Go.Clock.block_lt hm2)).trans hm2) (he.below b0) (pow_kept htab b0) ((b0.cell (p := ⟨6, 15, none⟩) (Go.Clock.block_lt ht)).trans ht))
  rw [h] at HH
  clear b0 hm hm2 he htab ht
  go_enter Tryd.func5, Tryd.ntmps5
  go_wp2_with fail
  refine HH.out.mono ?_
  rintro e w1 ⟨⟨n', v, rfl, rfl, ho, _⟩, hb⟩
  simp only [Option.isSome_some]
  obtain ⟨g, c, rfl⟩ := own_addr ho (by simp)
  have c0 : w1.cell? ⟨g, 0, none⟩ = some (.float .f32 x) := (own_cell ho (i := 0) rfl).1
  have c1 : w1.cell? ⟨g, 1, none⟩ = some (.float .f32 y) := (own_cell ho (i := 1) rfl).1
  have hg := (ho.lt g rfl).2
  have hgn : g ≠ w.heap.size := by have := (ho.lt g rfl).1; simp at this; omega
  have hgn' : ¬ w.heap.size = g := fun e => hgn e.symm
  clear ho
  have blkB := (Blk.new w 24 (lawA 0 0 0)).below hb (by simp)
  have bel1 : Below w.heap.size w w1 := ((Below.refl _ _).alloc (Nat.le_refl _) _).trans (hb.mono (by simp))
  clear hb HH
  go_wp2_with fail
  go_region_held3 (fun w' => w'.cell? ⟨g, 0, none⟩ = some (.float .f32 x) ∧ w'.cell? ⟨g, 1, none⟩ = some (.float .f32 y)) (first | assumption | go_keep)
    (first
      | (go_at_call 9; refine (i_ifLaw_no hl).mono ?_; rintro e w2 ⟨rfl, hb20⟩; have hb2 : Below w1.heap.size w1 w2 := ⟨hb20.os, hb20.tape, hb20.output, hb20.size, hb20.block⟩; clear hb20; have K2 : w2.cell? ⟨g, 0, none⟩ = some (.float .f32 x) ∧ w2.cell? ⟨g, 1, none⟩ = some (.float .f32 y) := ⟨(hb2.cell (p := ⟨g, 0, none⟩) hg).trans c0, (hb2.cell (p := ⟨g, 1, none⟩) hg).trans c1⟩; have blk2 := blkB.below hb2 blkB.lt; have bel2 := bel1.trans (hb2.mono bel1.size); have d0 := blk2.cell 0; have d1 := blk2.cell 1; have d2 := blk2.cell 2; have f0 := blk2.frozen 0; have f1 := blk2.frozen 1; have f2 := blk2.frozen 2; clear hb2))
  go_wp2
  refine bodyPost_ret (results_row_tmp (P := Tryd.prog) rfl _ _ w.heap.size 24 (lawA 0 0 0) (0, 0) _ rfl (((blk2.set_ 0 _).set_ 1 _).set_ 2 _) Tryd.underlying24 rfl (by kernel_rfl)) rfl ?_
  exact ⟨rfl, ((bel2.setCell (Nat.le_refl _) _).setCell (Nat.le_refl _) _).setCell (Nat.le_refl _) _⟩
set_option maxHeartbeats 2000000 in
theorem s_l08ReadLaw_no {t : ByteArray} {n : Int} {x y : Nat} {w : World} (hs : t.size ≤ 1048576) (h : headV t = some (n, [x, y])) (hl : lawOk n x y = false) :
    Calls Tryd.prog 7 #[.string t] w fun e w' => e = .returned (.tuple #[.agg (lawA 0 0 0), .bool false]) ∧ Below w.heap.size w w' := by
  have HH := hide (s_l08Both (w := w.alloc (.cells (lawA 0 0 0) 24)) hs)
  rw [h] at HH
  go_enter Tryd.func7, Tryd.ntmps7
  go_wp2_with fail
  refine HH.out.mono ?_
  rintro e w1 ⟨⟨n', v, rfl, rfl, ho, _⟩, hb⟩
  simp only [Option.isSome_some]
  obtain ⟨g, c, rfl⟩ := own_addr ho (by simp)
  have c0 : w1.cell? ⟨g, 0, none⟩ = some (.float .f32 x) := (own_cell ho (i := 0) rfl).1
  have c1 : w1.cell? ⟨g, 1, none⟩ = some (.float .f32 y) := (own_cell ho (i := 1) rfl).1
  have hg := (ho.lt g rfl).2
  have hgn : g ≠ w.heap.size := by have := (ho.lt g rfl).1; simp at this; omega
  have hgn' : ¬ w.heap.size = g := fun e => hgn e.symm
  clear ho
  have blkB := (Blk.new w 24 (lawA 0 0 0)).below hb (by simp)
  have bel1 : Below w.heap.size w w1 := ((Below.refl _ _).alloc (Nat.le_refl _) _).trans (hb.mono (by simp))
  clear hb HH
  go_wp2_with fail
  go_region_held3 (fun w' => w'.cell? ⟨g, 0, none⟩ = some (.float .f32 x) ∧ w'.cell? ⟨g, 1, none⟩ = some (.float .f32 y)) (first | assumption | go_keep)
    (first
      | (go_at_call 12; refine (s_l02GiveLaw_no hl).mono ?_; rintro e w2 ⟨rfl, hb20⟩; have hb2 : Below w1.heap.size w1 w2 := ⟨hb20.os, hb20.tape, hb20.output, hb20.size, hb20.block⟩; clear hb20; have K2 : w2.cell? ⟨g, 0, none⟩ = some (.float .f32 x) ∧ w2.cell? ⟨g, 1, none⟩ = some (.float .f32 y) := ⟨(hb2.cell (p := ⟨g, 0, none⟩) hg).trans c0, (hb2.cell (p := ⟨g, 1, none⟩) hg).trans c1⟩; have blk2 := blkB.below hb2 blkB.lt; have bel2 := bel1.trans (hb2.mono bel1.size); have d0 := blk2.cell 0; have d1 := blk2.cell 1; have d2 := blk2.cell 2; have f0 := blk2.frozen 0; have f1 := blk2.frozen 1; have f2 := blk2.frozen 2; clear hb2))
  go_wp2
  refine bodyPost_ret (results_row_tmp (P := Tryd.prog) rfl _ _ w.heap.size 24 (lawA 0 0 0) (0, 0) _ rfl (((blk2.set_ 0 _).set_ 1 _).set_ 2 _) Tryd.underlying24 rfl (by kernel_rfl)) rfl ?_
  exact ⟨rfl, ((bel2.setCell (Nat.le_refl _) _).setCell (Nat.le_refl _) _).setCell (Nat.le_refl _) _⟩
end Go.Proofs.YtnpccnhamohnkaaDoor

/-
  ReadLaw: both sides, joined; and the law.
-/
namespace Go.Proofs.YtnpccnhamohnkaaDoor
open Go.RowKit Mem Fl Go.Shelf
set_option linter.unusedVariables false
set_option maxRecDepth 100000

theorem lawV_two {t : ByteArray} {n : Int} {x y : Nat} (h : headV t = some (n, [x, y])) : lawV t = if lawOk n x y = true then some (n, x, y) else none := by
  unfold lawV; rw [h]; rfl
theorem i_ReadLaw {t : ByteArray} {bm bs : Int} {w : World} (hs : t.size ≤ 1048576) (hm : w.cell? ⟨renCutF.g 1, 0, none⟩ = some (.int .i64 bm)) (hm2 : w.cell? ⟨renSplit.g 1, 0, none⟩ = some (.int .i64 bs)) (he : Errs w)
    (htab : Lib.TabIs Tryd.prog w "internal/strconv.uint64pow10" .u64 Lib.pow10Tab) (ht : w.cell? ⟨6, 15, none⟩ = some (.int .u8 4)) :
    Calls Tryd.prog 5 #[.string t] w fun e w' => e = .returned (lawRes (lawV t)) ∧ Below w.heap.size w w' := by
  cases h : headV t with
  | none => rw [lawV_none h]; exact i_ReadLaw_none hs hm hm2 he htab ht h
  | some p =>
    obtain ⟨n, xs⟩ := p
    by_cases hl : xs.length = 2
    · match xs, hl with
      | [x, y], _ =>
        rw [lawV_two h]
        cases ho : lawOk n x y with
        | true => exact i_ReadLaw_yes hs hm hm2 he htab ht h ho
        | false => exact i_ReadLaw_no hs hm hm2 he htab ht h ho
    · rw [lawV_len h hl]; exact i_ReadLaw_len hs hm hm2 he htab ht h hl
theorem s_l08ReadLaw {t : ByteArray} {w : World} (hs : t.size ≤ 1048576) :
    Calls Tryd.prog 7 #[.string t] w fun e w' => e = .returned (lawRes (lawV t)) ∧ Below w.heap.size w w' := by
  cases h : headV t with
  | none => rw [lawV_none h]; exact s_l08ReadLaw_none hs h
  | some p =>
    obtain ⟨n, xs⟩ := p
    by_cases hl : xs.length = 2
    · match xs, hl with
      | [x, y], _ =>
        rw [lawV_two h]
        cases ho : lawOk n x y with
        | true => exact s_l08ReadLaw_yes hs h ho
        | false => exact s_l08ReadLaw_no hs h ho
    · rw [lawV_len h hl]; exact s_l08ReadLaw_len hs h hl
theorem lawRes_is (o : Option (Int × Nat × Nat)) : ∃ (n : Int) (x y : Nat) (b : Bool), lawRes o = .tuple #[.agg (lawA n x y), .bool b] := by
  cases o with
  | none => exact ⟨_, _, _, _, rfl⟩
  | some p => exact ⟨_, _, _, _, rfl⟩
set_option maxHeartbeats 1000000 in
theorem s_ReadLaw {t : ByteArray} {w : World} (hs : t.size ≤ 1048576) :
    Calls Tryd.prog 4 #[.string t] w fun e w' => e = .returned (lawRes (lawV t)) ∧ Below w.heap.size w w' := by
  obtain ⟨n, x, y, o, ho⟩ := lawRes_is (lawV t)
  have Ho := hide ho
  go_enter Tryd.func4, Tryd.ntmps4
  go_wp2_with fail
  refine (s_l08ReadLaw hs).mono ?_
  rintro e w1 ⟨rfl, hb⟩
  rw [ho]
  have blk1 := (Blk.new w 24 (lawA 0 0 0)).below hb (by simp)
  have bel1 : Below w.heap.size w w1 := ((Below.refl _ _).alloc (Nat.le_refl _) _).trans (hb.mono (by simp))
  have q0 := blk1.cell 0
  have q1 := blk1.cell 1
  have q2 := blk1.cell 2
  have f0 := blk1.frozen 0
  have f1 := blk1.frozen 1
  have f2 := blk1.frozen 2
  clear hb ho
  go_wp2
  refine bodyPost_ret (results_row_tmp (P := Tryd.prog) rfl _ _ w.heap.size 24 (lawA n x y) (0, 0) _ rfl (((blk1.set_ 0 _).set_ 1 _).set_ 2 _) Tryd.underlying24 rfl (by kernel_rfl)) rfl ?_
  exact ⟨by rw [Ho.out]; rfl, ((bel1.setCell (Nat.le_refl _) _).setCell (Nat.le_refl _) _).setCell (Nat.le_refl _) _⟩
set_option maxHeartbeats 1000000 in
theorem law_ReadLaw {t : ByteArray} {bm bs : Int} {w : World}
    (hm : w.cell? ⟨renCutF.g 1, 0, none⟩ = some (.int .i64 bm)) (hm2 : w.cell? ⟨renSplit.g 1, 0, none⟩ = some (.int .i64 bs)) (he : Errs w) (htab : Lib.TabIs Tryd.prog w "internal/strconv.uint64pow10" .u64 Lib.pow10Tab) (ht : w.cell? ⟨6, 15, none⟩ = some (.int .u8 4)) :
    Calls Tryd.prog 3 #[.string t] w fun e w' => e = .returned (.bool true) ∧ Below w.heap.size w w' := by
  by_cases hs : t.size ≤ 1048576
  · have hsI : ¬ (1048576 : Int) < (t.size : Int) := by omega
    have hlt := Go.Clock.block_lt hm
    have hlt2 := Go.Clock.block_lt hm2
    have hlt3 := Go.Clock.block_lt ht
    obtain ⟨n, x, y, o, ho⟩ := lawRes_is (lawV t)
    have Ho := hide ho
    go_enter Tryd.func3, Tryd.ntmps3
    go_wp2_with fail
    refine (s_ReadLaw hs).mono ?_
    rintro e w1 ⟨rfl, bel⟩
    rw [ho]
    clear ho
    have blkW := Blk.new w1 24 (lawA n x y)
    replace bel := bel.alloc bel.size (.cells (lawA n x y) 24)
    go_wp2_with fail
    refine (i_ReadLaw hs ((bel.cell (p := ⟨renCutF.g 1, 0, none⟩) hlt).trans hm) ((bel.cell (p := ⟨renSplit.g 1, 0, none⟩) hlt2).trans hm2) (he.below bel) (pow_kept htab bel) ((bel.cell (p := ⟨6, 15, none⟩) hlt3).trans ht)).mono ?_
    rintro e w2 ⟨rfl, hb⟩
    rw [Ho.out]
    replace bel := bel.trans (hb.mono bel.size)
    replace blkW := blkW.below hb blkW.lt
    have k0 := blkW.cell 0
    have k1 := blkW.cell 1
    have k2 := blkW.cell 2
    have hltW := blkW.lt
    clear hb blkW
    go_wp2_with fail
    refine (eqLaw _ _ _ _ _ _ rfl rfl).mono ?_
    rintro e w3 ⟨rfl, hb⟩
    go_wp2
    go_ret
    exact ⟨rfl, (bel.alloc bel.size _).trans (hb.mono (by simp; have := bel.size; omega))⟩
  · have hsI : (1048576 : Int) < (t.size : Int) := by omega
    go_enter Tryd.func3, Tryd.ntmps3
    go_wp2
    go_ret
    exact ⟨rfl, Below.refl _ _⟩
end Go.Proofs.YtnpccnhamohnkaaDoor
