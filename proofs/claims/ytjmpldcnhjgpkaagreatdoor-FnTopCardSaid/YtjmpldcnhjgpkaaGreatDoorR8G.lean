/-
  The desks that the law draws: R8Desk; what they are.
-/
import Derived.Test.YtjmpldcnhjgpkaaGreatDoorR8F
namespace Go.Proofs.YtjmpldcnhjgpkaaGreatDoor
open Go.RowKit Fl Mem
set_option linter.unusedVariables false
set_option maxRecDepth 100000

set_option maxHeartbeats 4000000 in
theorem s_R8Desk {A : Option Addr} {n c : Nat} {xs : List Int} {w : World} (h : Reads w w.heap.size 1 A n (xs.map (Value.int .u8))) (hx : ∀ a ∈ xs, (Lit.int .u8 a).wf = true) (hn : n ≤ 1048576) :
    Calls Tryz.prog 5 #[.slice A n c] w fun e w' => ∃ (LA : Option Addr) (ln lc : Nat) (RA : Option Addr) (rn rc : Nat) (D : Dk), e = .returned (.agg (dkC LA ln lc RA rn rc D)) ∧ DkR w' 0 w'.heap.size LA ln RA rn rc D ∧ R8D D ∧ Below w.heap.size w w' := by
  have HR := hide (fun o1 o2 => (h.alloc (Nat.le_refl _) o1).alloc (by simp) o2)
  have HDr := hide (fun (W : World) (g : Nat) (hS : SrcAt W g A n c 0 0) (hR : Reads W w.heap.size 1 A n (xs.map (Value.int .u8))) (hg : w.heap.size ≤ g) => r8_draw hS hR hg hx hn)
  clear h hx
  go_enter Tryz.func5, Tryz.ntmps5
  go_wp2_with (go_at_call 27; refine s_l00From.mono ?_; rintro e w' ⟨rfl, rfl⟩)
  obtain ⟨w1, hw1⟩ : ∃ w1, w1 = (w.alloc (.cells #[.slice none 0 0, .int .i64 0, .float .f32 0, .float .f32 0, .int .i64 0, .slice none 0 0, .int .i64 0, .int .i64 0] 34)).alloc (.cells #[.slice A n c, .int .i64 0, .int .u64 0] 117) := ⟨_, rfl⟩
  have Z1 : Hid (Blk w1 w.heap.size 34 #[.slice none 0 0, .int .i64 0, .float .f32 0, .float .f32 0, .int .i64 0, .slice none 0 0, .int .i64 0, .int .i64 0]) := hide (by rw [hw1]; exact (Blk.new w _ _).alloc _)
  have hS1 : SrcAt w1 (w.heap.size + 1) A n c 0 0 := by rw [hw1]; exact blk_new' _ _ _ _ (by simp)
  have HB1 : Hid (Below w.heap.size w w1) := hide (by rw [hw1]; exact ((Below.refl _ _).alloc (Nat.le_refl _) _).alloc (by simp) _)
  have hR1 : Reads w1 w.heap.size 1 A n (xs.map (Value.int .u8)) := by rw [hw1]; exact HR.out _ _
  have hD1 := hide (HDr.out w1 (w.heap.size + 1) hS1 hR1 (by omega))
  rw [← hw1]
  clear hw1 hR1 HR HDr hS1
  go_wp2_with fail
  refine hD1.out.mono ?_
  rintro e w2 ⟨LA, ln, lc, RA, rn, rc, D, rfl, hD, h8, hg⟩
  have Z2 := hide (Z1.out.grown hg (by intro e; injection e with e; omega))
  have HB2 := hide (HB1.out.grown hg HB1.out.size (by intro k hk; injection hk with hk; omega))
  have u0 : w2.cell? ⟨w.heap.size, 0, none⟩ = some (.slice none 0 0) := Z2.out.cell 0
  have uf0 : w2.frozen? ⟨w.heap.size, 0, none⟩ = false := Z2.out.frozen 0
  have u1 : w2.cell? ⟨w.heap.size, 1, none⟩ = some (.int .i64 0) := Z2.out.cell 1
  have uf1 : w2.frozen? ⟨w.heap.size, 1, none⟩ = false := Z2.out.frozen 1
  have u2 : w2.cell? ⟨w.heap.size, 2, none⟩ = some (.float .f32 0) := Z2.out.cell 2
  have uf2 : w2.frozen? ⟨w.heap.size, 2, none⟩ = false := Z2.out.frozen 2
  have u3 : w2.cell? ⟨w.heap.size, 3, none⟩ = some (.float .f32 0) := Z2.out.cell 3
  have uf3 : w2.frozen? ⟨w.heap.size, 3, none⟩ = false := Z2.out.frozen 3
  have u4 : w2.cell? ⟨w.heap.size, 4, none⟩ = some (.int .i64 0) := Z2.out.cell 4
  have uf4 : w2.frozen? ⟨w.heap.size, 4, none⟩ = false := Z2.out.frozen 4
  have u5 : w2.cell? ⟨w.heap.size, 5, none⟩ = some (.slice none 0 0) := Z2.out.cell 5
  have uf5 : w2.frozen? ⟨w.heap.size, 5, none⟩ = false := Z2.out.frozen 5
  have u6 : w2.cell? ⟨w.heap.size, 6, none⟩ = some (.int .i64 0) := Z2.out.cell 6
  have uf6 : w2.frozen? ⟨w.heap.size, 6, none⟩ = false := Z2.out.frozen 6
  have u7 : w2.cell? ⟨w.heap.size, 7, none⟩ = some (.int .i64 0) := Z2.out.cell 7
  have uf7 : w2.frozen? ⟨w.heap.size, 7, none⟩ = false := Z2.out.frozen 7
  have HD := hide hD
  clear hD hD1 Z1 HB1 hg
  go_wp2
  refine bodyPost_ret (results_cell_row (P := Tryz.prog) rfl _ _ w.heap.size 34 (dkC LA ln lc RA rn rc D) (0, 0) _ rfl ((((((((Z2.out.set_ 0 _).set_ 1 _).set_ 2 _).set_ 3 _).set_ 4 _).set_ 5 _).set_ 6 _).set_ 7 _) Tryz.underlying34 rfl (by kernel_rfl)) rfl ?_
  have hD := HD.out
  exact ⟨LA, ln, lc, RA, rn, rc, D, rfl, (DkR.off (DkR.off (DkR.off (DkR.off (DkR.off (DkR.off (DkR.off (DkR.off hD (p := ⟨w.heap.size, 0, none⟩) (BT.blk Z2.out) (by decide) (by decide) _) (p := ⟨w.heap.size, 1, none⟩) ((BT.blk Z2.out).setCell _ _) (by decide) (by decide) _) (p := ⟨w.heap.size, 2, none⟩) (((BT.blk Z2.out).setCell _ _).setCell _ _) (by decide) (by decide) _) (p := ⟨w.heap.size, 3, none⟩) ((((BT.blk Z2.out).setCell _ _).setCell _ _).setCell _ _) (by decide) (by decide) _) (p := ⟨w.heap.size, 4, none⟩) (((((BT.blk Z2.out).setCell _ _).setCell _ _).setCell _ _).setCell _ _) (by decide) (by decide) _) (p := ⟨w.heap.size, 5, none⟩) ((((((BT.blk Z2.out).setCell _ _).setCell _ _).setCell _ _).setCell _ _).setCell _ _) (by decide) (by decide) _) (p := ⟨w.heap.size, 6, none⟩) (((((((BT.blk Z2.out).setCell _ _).setCell _ _).setCell _ _).setCell _ _).setCell _ _).setCell _ _) (by decide) (by decide) _) (p := ⟨w.heap.size, 7, none⟩) ((((((((BT.blk Z2.out).setCell _ _).setCell _ _).setCell _ _).setCell _ _).setCell _ _).setCell _ _).setCell _ _) (by decide) (by decide) _).more (by simp [World.size_setCell]), h8, (Below.setCell (B := w.heap.size) (Below.setCell (B := w.heap.size) (Below.setCell (B := w.heap.size) (Below.setCell (B := w.heap.size) (Below.setCell (B := w.heap.size) (Below.setCell (B := w.heap.size) (Below.setCell (B := w.heap.size) (Below.setCell (B := w.heap.size) HB2.out (p := ⟨w.heap.size, 0, none⟩) (Nat.le_refl _) _) (p := ⟨w.heap.size, 1, none⟩) (Nat.le_refl _) _) (p := ⟨w.heap.size, 2, none⟩) (Nat.le_refl _) _) (p := ⟨w.heap.size, 3, none⟩) (Nat.le_refl _) _) (p := ⟨w.heap.size, 4, none⟩) (Nat.le_refl _) _) (p := ⟨w.heap.size, 5, none⟩) (Nat.le_refl _) _) (p := ⟨w.heap.size, 6, none⟩) (Nat.le_refl _) _) (p := ⟨w.heap.size, 7, none⟩) (Nat.le_refl _) _)⟩
end Go.Proofs.YtjmpldcnhjgpkaaGreatDoor
