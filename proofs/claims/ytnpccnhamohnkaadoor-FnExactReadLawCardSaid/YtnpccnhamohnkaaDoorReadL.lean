/-
  ReadLaw: both sides where the text is no law's for its form.
-/
import Derived.Test.YtnpccnhamohnkaaDoorLawR
namespace Go.Proofs.YtnpccnhamohnkaaDoor
open Go.RowKit Mem Fl Go.Shelf
set_option linter.unusedVariables false
set_option maxRecDepth 100000

/-- The law with a text. -/
def lawV (t : ByteArray) : Option (Int × Nat × Nat) := (headV t).bind fun p => match p.2 with
  | [x, y] => if lawOk p.1 x y = true then some (p.1, x, y) else none
  | _ => none
def lawRes (o : Option (Int × Nat × Nat)) : Value := match o with
  | some (n, x, y) => .tuple #[.agg (lawA n x y), .bool true]
  | none => .tuple #[.agg (lawA 0 0 0), .bool false]
theorem lawV_none {t : ByteArray} (h : headV t = none) : lawV t = none := by unfold lawV; rw [h]; rfl
theorem lawV_len {t : ByteArray} {n : Int} {xs : List Nat} (h : headV t = some (n, xs)) (hl : xs.length ≠ 2) : lawV t = none := by
  unfold lawV; rw [h]
  simp only [Option.bind_some]
  match xs, hl with
  | [], _ => rfl
  | [_], _ => rfl
  | [_, _], h => exact absurd rfl h
  | _ :: _ :: _ :: _, _ => rfl
set_option maxHeartbeats 1000000 in
theorem i_ReadLaw_none {t : ByteArray} {bm bs : Int} {w : World} (hs : t.size ≤ 1048576) (hm : w.cell? ⟨renCutF.g 1, 0, none⟩ = some (.int .i64 bm)) (hm2 : w.cell? ⟨renSplit.g 1, 0, none⟩ = some (.int .i64 bs)) (he : Errs w)
    (htab : Lib.TabIs Tryd.prog w "internal/strconv.uint64pow10" .u64 Lib.pow10Tab) (ht : w.cell? ⟨6, 15, none⟩ = some (.int .u8 4)) (h : headV t = none) :
    Calls Tryd.prog 5 #[.string t] w fun e w' => e = .returned (.tuple #[.agg (lawA 0 0 0), .bool false]) ∧ Below w.heap.size w w' := by
  have b0 : Below w.heap.size w (w.alloc (.cells (lawA 0 0 0) 24)) := (Below.refl _ _).alloc (Nat.le_refl _) _
  have HH := hide (i_readHeaded (w := w.alloc (.cells (lawA 0 0 0) 24)) hs ((b0.cell (p := ⟨renCutF.g 1, 0, none⟩) (Go.Clock.block_lt hm)).trans hm) ((b0.cell (p := ⟨renSplit.g 1, 0, none⟩) (Go.Clock.block_lt hm2)).trans hm2) (he.below b0) (pow_kept htab b0) ((b0.cell (p := ⟨6, 15, none⟩) (Go.Clock.block_lt ht)).trans ht))
  rw [h] at HH
  clear b0 hm hm2 he htab ht
  go_enter Tryd.func5, Tryd.ntmps5
  go_wp2_with fail
  refine HH.out.mono ?_
  rintro e w1 ⟨⟨n, v, rfl, _⟩, hb⟩
  simp only [Option.isSome_none]
  have blkB := (Blk.new w 24 (lawA 0 0 0)).below hb (by simp)
  have bel1 : Below w.heap.size w w1 := ((Below.refl _ _).alloc (Nat.le_refl _) _).trans (hb.mono (by simp))
  have d0 := blkB.cell 0
  have d1 := blkB.cell 1
  have d2 := blkB.cell 2
  have f0 := blkB.frozen 0
  have f1 := blkB.frozen 1
  have f2 := blkB.frozen 2
  clear hb HH
  go_wp2
  refine bodyPost_ret (results_row_tmp (P := Tryd.prog) rfl _ _ w.heap.size 24 (lawA 0 0 0) (0, 0) _ rfl (((blkB.set_ 0 _).set_ 1 _).set_ 2 _) Tryd.underlying24 rfl (by kernel_rfl)) rfl ?_
  exact ⟨rfl, ((bel1.setCell (Nat.le_refl _) _).setCell (Nat.le_refl _) _).setCell (Nat.le_refl _) _⟩
set_option maxHeartbeats 1000000 in
theorem s_l08ReadLaw_none {t : ByteArray} {w : World} (hs : t.size ≤ 1048576) (h : headV t = none) :
    Calls Tryd.prog 7 #[.string t] w fun e w' => e = .returned (.tuple #[.agg (lawA 0 0 0), .bool false]) ∧ Below w.heap.size w w' := by
  have HH := hide (s_l08Both (w := w.alloc (.cells (lawA 0 0 0) 24)) hs)
  rw [h] at HH
  go_enter Tryd.func7, Tryd.ntmps7
  go_wp2_with fail
  refine HH.out.mono ?_
  rintro e w1 ⟨⟨n, v, rfl, _⟩, hb⟩
  simp only [Option.isSome_none]
  have blkB := (Blk.new w 24 (lawA 0 0 0)).below hb (by simp)
  have bel1 : Below w.heap.size w w1 := ((Below.refl _ _).alloc (Nat.le_refl _) _).trans (hb.mono (by simp))
  have d0 := blkB.cell 0
  have d1 := blkB.cell 1
  have d2 := blkB.cell 2
  have f0 := blkB.frozen 0
  have f1 := blkB.frozen 1
  have f2 := blkB.frozen 2
  clear hb HH
  go_wp2
  refine bodyPost_ret (results_row_tmp (P := Tryd.prog) rfl _ _ w.heap.size 24 (lawA 0 0 0) (0, 0) _ rfl (((blkB.set_ 0 _).set_ 1 _).set_ 2 _) Tryd.underlying24 rfl (by kernel_rfl)) rfl ?_
  exact ⟨rfl, ((bel1.setCell (Nat.le_refl _) _).setCell (Nat.le_refl _) _).setCell (Nat.le_refl _) _⟩
set_option maxHeartbeats 1000000 in
theorem s_l08ReadLaw_len {t : ByteArray} {n : Int} {xs : List Nat} {w : World} (hs : t.size ≤ 1048576) (h : headV t = some (n, xs)) (hl : xs.length ≠ 2) :
    Calls Tryd.prog 7 #[.string t] w fun e w' => e = .returned (.tuple #[.agg (lawA 0 0 0), .bool false]) ∧ Below w.heap.size w w' := by
  have HH := hide (s_l08Both (w := w.alloc (.cells (lawA 0 0 0) 24)) hs)
  rw [h] at HH
  have hI : ¬ (xs.length : Int) = 2 := by omega
  clear hl
  go_enter Tryd.func7, Tryd.ntmps7
  go_wp2_with fail
  refine HH.out.mono ?_
  rintro e w1 ⟨⟨n', v, rfl, rfl, ho, _⟩, hb⟩
  simp only [Option.isSome_some]
  obtain ⟨A, c, rfl⟩ := own_shape ho
  clear ho
  have blkB := (Blk.new w 24 (lawA 0 0 0)).below hb (by simp)
  have bel1 : Below w.heap.size w w1 := ((Below.refl _ _).alloc (Nat.le_refl _) _).trans (hb.mono (by simp))
  have d0 := blkB.cell 0
  have d1 := blkB.cell 1
  have d2 := blkB.cell 2
  have f0 := blkB.frozen 0
  have f1 := blkB.frozen 1
  have f2 := blkB.frozen 2
  clear hb HH
  go_wp2
  refine bodyPost_ret (results_row_tmp (P := Tryd.prog) rfl _ _ w.heap.size 24 (lawA 0 0 0) (0, 0) _ rfl (((blkB.set_ 0 _).set_ 1 _).set_ 2 _) Tryd.underlying24 rfl (by kernel_rfl)) rfl ?_
  exact ⟨rfl, ((bel1.setCell (Nat.le_refl _) _).setCell (Nat.le_refl _) _).setCell (Nat.le_refl _) _⟩
set_option maxHeartbeats 1000000 in
theorem i_ReadLaw_len {t : ByteArray} {n : Int} {xs : List Nat} {bm bs : Int} {w : World} (hs : t.size ≤ 1048576) (hm : w.cell? ⟨renCutF.g 1, 0, none⟩ = some (.int .i64 bm)) (hm2 : w.cell? ⟨renSplit.g 1, 0, none⟩ = some (.int .i64 bs)) (he : Errs w)
    (htab : Lib.TabIs Tryd.prog w "internal/strconv.uint64pow10" .u64 Lib.pow10Tab) (ht : w.cell? ⟨6, 15, none⟩ = some (.int .u8 4)) (h : headV t = some (n, xs)) (hl : xs.length ≠ 2) :
    Calls Tryd.prog 5 #[.string t] w fun e w' => e = .returned (.tuple #[.agg (lawA 0 0 0), .bool false]) ∧ Below w.heap.size w w' := by
  have b0 : Below w.heap.size w (w.alloc (.cells (lawA 0 0 0) 24)) := (Below.refl _ _).alloc (Nat.le_refl _) _
  have HH := hide (i_readHeaded (w := w.alloc (.cells (lawA 0 0 0) 24)) hs ((b0.cell (p := ⟨renCutF.g 1, 0, none⟩) (Go.Clock.block_lt hm)).trans hm) ((b0.cell (p := ⟨renSplit.g 1, 0, none⟩) (Go.Clock.block_lt hm2)).trans hm2) (he.below b0) (pow_kept htab b0) ((b0.cell (p := ⟨6, 15, none⟩) (Go.Clock.block_lt ht)).trans ht))
  rw [h] at HH
  have hI : ¬ (xs.length : Int) = 2 := by omega
  clear b0 hm hm2 he htab ht hl
  go_enter Tryd.func5, Tryd.ntmps5
  go_wp2_with fail
  refine HH.out.mono ?_
  rintro e w1 ⟨⟨n', v, rfl, rfl, ho, _⟩, hb⟩
  simp only [Option.isSome_some]
  obtain ⟨A, c, rfl⟩ := own_shape ho
  clear ho
  have blkB := (Blk.new w 24 (lawA 0 0 0)).below hb (by simp)
  have bel1 : Below w.heap.size w w1 := ((Below.refl _ _).alloc (Nat.le_refl _) _).trans (hb.mono (by simp))
  have d0 := blkB.cell 0
  have d1 := blkB.cell 1
  have d2 := blkB.cell 2
  have f0 := blkB.frozen 0
  have f1 := blkB.frozen 1
  have f2 := blkB.frozen 2
  clear hb HH
  go_wp2
  refine bodyPost_ret (results_row_tmp (P := Tryd.prog) rfl _ _ w.heap.size 24 (lawA 0 0 0) (0, 0) _ rfl (((blkB.set_ 0 _).set_ 1 _).set_ 2 _) Tryd.underlying24 rfl (by kernel_rfl)) rfl ?_
  exact ⟨rfl, ((bel1.setCell (Nat.le_refl _) _).setCell (Nat.le_refl _) _).setCell (Nat.le_refl _) _⟩
end Go.Proofs.YtnpccnhamohnkaaDoor
