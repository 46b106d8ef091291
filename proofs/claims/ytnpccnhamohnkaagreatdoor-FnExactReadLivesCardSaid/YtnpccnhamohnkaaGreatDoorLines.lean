/-
  The lines of a text: both sides.
-/
import Derived.Test.YtnpccnhamohnkaaGreatDoorSplit
import Derived.BigQuiet
namespace Go.Proofs.YtnpccnhamohnkaaGreatDoor
open Go.RowKit Mem Go.Shelf
set_option linter.unusedVariables false
set_option maxRecDepth 100000

theorem splitS_pos (s : ByteArray) (m : UInt8) : 1 ≤ (splitS s m).length := by
  rw [show (splitS s m).length = Lib.countB s (markB m) + 1 from Lib.splitB_all (markB m) (Nat.le_refl 1) 0 _ s rfl]; omega
theorem splitS_le (s : ByteArray) (m : UInt8) : (splitS s m).length ≤ s.size + 1 := by
  rw [show (splitS s m).length = Lib.countB s (markB m) + 1 from Lib.splitB_all (markB m) (Nat.le_refl 1) 0 _ s rfl]
  have := Lib.countB_le (markB m) (Nat.le_refl 1) s.size s (Nat.le_refl _)
  omega
set_option maxHeartbeats 1000000 in
theorem i_linesOf {s x : ByteArray} {b : Int} {w : World} (hs : s.size ≤ 1048576) (hm : w.cell? ⟨renSplit.g 1, 0, none⟩ = some (.int .i64 b)) (hx : (splitS s 10)[(splitS s 10).length - 1]? = some x) :
    Calls Tryz.prog 67 #[.string s] w fun e w' => e = .returned (.tuple #[.slice (some ⟨w.heap.size, 0, none⟩) ((splitS s 10).length - 1) (splitS s 10).length, .bool (decide (s.size ≤ 16000) && x.toList.isEmpty)]) ∧ Blk w' w.heap.size 9 ((splitS s 10).map Value.string).toArray ∧ Below w.heap.size w w' := by
  have hp := splitS_pos s 10
  have hle := splitS_le s 10
  have hblk := Blk.new w 9 ((splitS s 10).map Value.string).toArray
  have hcell : (w.alloc (.cells ((splitS s 10).map Value.string).toArray 9)).cell? ⟨w.heap.size, (splitS s 10).length - 1, none⟩ = some (.string x) := by
    rw [hblk.cell]; simp [hx]
  have Hblk := hide hblk
  clear hblk hx
  go_enter Tryz.func67, Tryz.ntmps67
  go_wp2_with fail
  refine (split_calls (m := 10) w (by omega) hm).mono ?_
  rintro e w1 ⟨rfl, hw1⟩
  have hb1 : Below w.heap.size w w1 := by rw [hw1]; exact (Below.refl _ _).alloc (Nat.le_refl _) _
  rw [← hw1] at hcell Hblk
  replace hw1 := hide hw1
  obtain ⟨n, hn⟩ : ∃ n, (splitS s 10).length = n + 1 := ⟨_, (Nat.succ_pred_eq_of_pos hp).symm⟩
  rw [hn] at hcell hle ⊢
  simp only [Nat.add_sub_cancel] at hcell ⊢
  replace hn := hide hn
  clear hp
  have hB : Below w.heap.size w w1 := hb1
  by_cases h16 : s.size ≤ 16000
  · have hi : (s.size : Int) ≤ 16000 := by omega
    have Hd : Hid (decide (s.size ≤ 16000) = true) := hide (decide_eq_true h16)
    clear h16
    go_wp2
    go_quiet (fail)
    go_wp2
    go_ret2
    exact ⟨by rw [Hd.out, hn.out]; rfl, Hblk.out.drewN _, below_drewN hB _⟩
  · have hi : decide ((s.size : Int) ≤ 16000) = false := decide_eq_false (by omega)
    have Hd : Hid (decide (s.size ≤ 16000) = false) := hide (decide_eq_false h16)
    clear h16
    go_wp2
    go_quiet (fail)
    go_wp2
    go_ret2
    exact ⟨by rw [Hd.out, hn.out]; rfl, Hblk.out.drewN _, below_drewN hB _⟩
end Go.Proofs.YtnpccnhamohnkaaGreatDoor
