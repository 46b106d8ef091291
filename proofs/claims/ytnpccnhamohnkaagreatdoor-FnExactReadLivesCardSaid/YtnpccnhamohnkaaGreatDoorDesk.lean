/-
  Contracts of the helpers of the laws on desks: marks; NewDesk, the program's and the reference's.
-/
import Derived.Test.YtnpccnhamohnkaaGreatDoorLife
namespace Go.Proofs.YtnpccnhamohnkaaGreatDoor
open Go.RowKit Fl Mem
set_option linter.unusedVariables false
set_option maxRecDepth 100000

theorem own_of_blk2 {w : World} {base g n : Nat} {t : TypeId} {xs : List Value} (h : Blk w g t xs.toArray) (hb : base ≤ g) (hl : xs.length = n * 2) (hn : n ≤ maxLen) : w.ownsRow base t 2 (.slice (some ⟨g, 0, none⟩) n n) n xs :=
  ⟨by omega, .inr ⟨g, n, xs.toArray, rfl, hb, h, Nat.le_refl _, hn, by simp [hl], by rw [List.take_of_length_le (by simp; omega)]⟩⟩

theorem blk_new' (w : World) (g : Nat) (t : TypeId) (cs : Array Value) (hg : g = w.heap.size) : Blk (w.alloc (.cells cs t)) g t cs := by subst hg; exact Blk.new w t cs
def desk0L : List (Nat × Bool) := [(1065353216, true), (1073741824, false), (1082130432, true)]
def desk0R : List Nat := [0, 1065353216, 1077936128, 0]
abbrev desk0 (g1 g2 : Nat) : Value := deskV (some ⟨g1, 0, none⟩) 3 3 0 1065353216 1082130432 2 (some ⟨g2, 0, none⟩) 4 4 2 0

set_option maxHeartbeats 1000000 in
theorem i_NewDesk (w : World) : Calls Tryz.prog 28 #[] w fun e w' => ∃ g1 g2, g1 ≠ g2 ∧ e = .returned (desk0 g1 g2) ∧ w'.ownsRow w.heap.size 91 2 (.slice (some ⟨g1, 0, none⟩) 3 3) 3 (ll desk0L) ∧
    w'.ownsRow w.heap.size 37 1 (.slice (some ⟨g2, 0, none⟩) 4 4) 4 (fl .f32 desk0R) ∧ Below w.heap.size w w' := by
  go_enter Tryz.func28, Tryz.ntmps28
  go_wp2
  refine bodyPost_ret (results_cell_row (P := Tryz.prog) rfl _ _ w.heap.size 43 _ (0, 0) _ rfl (((Blk.new w _ _).alloc _).alloc _) Tryz.underlying43 rfl (by kernel_rfl)) rfl ?_
  exact ⟨w.heap.size + 1, w.heap.size + 1 + 1, by omega, rfl, own_of_blk2 ((blk_new' _ _ _ _ (by simp)).alloc _) (by omega) (by rfl) (by simp [maxLen]), own_of_blk (blk_new' _ _ _ _ (by simp)) (by omega) (by rfl) (by simp [maxLen]), (by repeat (first | exact Below.refl _ _ | exact below_drewN (by assumption) _ | refine below_drewN ?_ _ | refine Below.alloc ?_ (by first | (simp; done) | (simp; omega)) _ | assumption))⟩
theorem grown_al {w w2 : World} {o : Obj} {row : Option Nat} (hg : (w.alloc o).grownBy w2 row) : w.grownBy w2 row :=
  ⟨hg.os, hg.tape, hg.output, Nat.le_trans (by simp) hg.size, fun i hi hne => (hg.block i (by simp; omega) hne).trans (Below.heap_alloc w o i hi)⟩

set_option maxHeartbeats 400000 in
theorem markChain (st : Int) (A : Option Addr) (n c k : Nat) (cs : List Value) (base : Nat) (w : World) (ho : w.ownsRow base 37 1 (.slice A n c) n cs) (hn : n + k ≤ 1099511627776) :
    Calls Tryz.prog 11 #[.agg #[.int .i64 st, .slice A n c], .int .i64 (k : Int)] w fun e w' => e = .returned (.int .i64 ((k + n : Nat) : Int)) ∧ w'.ownsRow base 37 1 (.slice A n c) n (marksOf mkF k n) ∧ w.grownBy w' (Value.slice A n c).ownBlock := by
  go_enter Tryz.func11, Tryz.ntmps11
  go_wp2_with fail
  refine (markFloat32S _ _ _ _ _ _ (ho.alloc _) hn).mono ?_
  rintro e w2 ⟨rfl, ho2, hg⟩
  have hg2 := grown_al hg
  clear hg
  go_wp2
  go_ret
  exact ⟨rfl, ho2, hg2⟩
set_option maxHeartbeats 400000 in
theorem heldChain (st : Int) (A : Option Addr) (n c k : Nat) (B : Nat) (w : World) (h : Reads w B 1 A n (marksOf mkF k n)) (hB : B ≤ w.heap.size) (hn : n + k ≤ 1099511627776) :
    Calls Tryz.prog 12 #[.agg #[.int .i64 st, .slice A n c], .int .i64 (k : Int)] w fun e w' => e = .returned (.int .i64 ((k + n : Nat) : Int)) ∧ Below w.heap.size w w' := by
  have R1 := fun o => h.alloc hB o
  have h3 : (0 : Int) ≤ ((k + n : Nat) : Int) := by omega
  go_enter Tryz.func12, Tryz.ntmps12
  go_wp2_with (go_at_call 52; refine (heldFloat32S _ _ _ _ B _ (R1 _) hn).mono ?_; rintro e w2 ⟨rfl, m, rfl⟩)
  go_ret
  exact ⟨rfl, (by repeat (first | exact Below.refl _ _ | exact below_drewN (by assumption) _ | refine below_drewN ?_ _ | refine Below.alloc ?_ (by first | (simp; done) | (simp; omega)) _ | assumption))⟩
theorem blk_below {w w' : World} {g : Nat} {t : TypeId} {cs : Array Value} (h : Blk w g t cs) (hb : Below w.heap.size w w') : Blk w' g t cs := Blk.below h hb h.lt
end Go.Proofs.YtnpccnhamohnkaaGreatDoor
