/-
  Contracts of the helpers of the laws on desks: marks; NewDesk, the program's and the reference's.
-/
import Derived.Test.YtkjiefpnfkampaaLife
namespace Go.Proofs.Ytkjiefpnfkampaa
open Go.RowKit Fl Mem
set_option linter.unusedVariables false
set_option maxRecDepth 100000

theorem own_of_blk2 {w : World} {base g n : Nat} {t : TypeId} {xs : List Value} (h : Blk w g t xs.toArray) (hb : base ≤ g) (hl : xs.length = n * 2) (hn : n ≤ maxLen) : w.ownsRow base t 2 (.slice (some ⟨g, 0, none⟩) n n) n xs :=
  ⟨by omega, .inr ⟨g, n, xs.toArray, rfl, hb, h, Nat.le_refl _, hn, by simp [hl], by rw [List.take_of_length_le (by simp; omega)]⟩⟩

theorem blk_new' (w : World) (g : Nat) (t : TypeId) (cs : Array Value) (hg : g = w.heap.size) : Blk (w.alloc (.cells cs t)) g t cs := by subst hg; exact Blk.new w t cs
def desk0L : List (Nat × Bool) := [(1065353216, true), (1073741824, false), (1082130432, true)]
def desk0R : List Nat := [0, 1065353216, 1077936128, 0]
abbrev desk0 (g1 g2 : Nat) : Value := deskV (some ⟨g1, 0, none⟩) 3 3 0 1065353216 1082130432 2 (some ⟨g2, 0, none⟩) 4 4 2 0

set_option maxHeartbeats 1000000 in
theorem i_NewDesk (w : World) : Calls Try.prog 45 #[] w fun e w' => ∃ g1 g2, g1 ≠ g2 ∧ e = .returned (desk0 g1 g2) ∧ w'.ownsRow w.heap.size 83 2 (.slice (some ⟨g1, 0, none⟩) 3 3) 3 (ll desk0L) ∧
    w'.ownsRow w.heap.size 31 1 (.slice (some ⟨g2, 0, none⟩) 4 4) 4 (fl .f32 desk0R) ∧ Below w.heap.size w w' := by
  go_enter Try.func45, Try.ntmps45
  go_wp2
  refine bodyPost_ret (results_cell_row (P := Try.prog) rfl _ _ w.heap.size 63 _ (0, 0) _ rfl (((Blk.new w _ _).alloc _).alloc _) Try.underlying63 rfl (by kernel_rfl)) rfl ?_
  exact ⟨w.heap.size + 1, w.heap.size + 1 + 1, by omega, rfl, own_of_blk2 ((blk_new' _ _ _ _ (by simp)).alloc _) (by omega) (by rfl) (by simp [maxLen]), own_of_blk (blk_new' _ _ _ _ (by simp)) (by omega) (by rfl) (by simp [maxLen]), (by repeat (first | exact Below.refl _ _ | exact below_drewN (by assumption) _ | refine below_drewN ?_ _ | refine Below.alloc ?_ (by first | (simp; done) | (simp; omega)) _ | assumption))⟩
set_option maxHeartbeats 1000000 in
theorem s_NewDesk (w : World) : Calls Try.prog 44 #[] w fun e w' => ∃ g1 g2, g1 ≠ g2 ∧ e = .returned (desk0 g1 g2) ∧ w'.ownsRow w.heap.size 83 2 (.slice (some ⟨g1, 0, none⟩) 3 3) 3 (ll desk0L) ∧
    w'.ownsRow w.heap.size 31 1 (.slice (some ⟨g2, 0, none⟩) 4 4) 4 (fl .f32 desk0R) ∧ Below w.heap.size w w' := by
  go_enter Try.func44, Try.ntmps44
  go_wp2
  refine bodyPost_ret (results_cell_row (P := Try.prog) rfl _ _ w.heap.size 63 _ (0, 0) _ rfl ((((Blk.new w _ _).alloc _).alloc _).alloc _) Try.underlying63 rfl (by kernel_rfl)) rfl ?_
  exact ⟨w.heap.size + 1, w.heap.size + 1 + 1 + 1, by omega, rfl, own_of_blk2 (((blk_new' _ _ _ _ (by simp)).alloc _).alloc _) (by omega) (by rfl) (by simp [maxLen]), own_of_blk (blk_new' _ _ _ _ (by simp)) (by omega) (by rfl) (by simp [maxLen]), (by repeat (first | exact Below.refl _ _ | exact below_drewN (by assumption) _ | refine below_drewN ?_ _ | refine Below.alloc ?_ (by first | (simp; done) | (simp; omega)) _ | assumption))⟩

theorem grown_al {w w2 : World} {o : Obj} {row : Option Nat} (hg : (w.alloc o).grownBy w2 row) : w.grownBy w2 row :=
  ⟨hg.os, hg.tape, hg.output, Nat.le_trans (by simp) hg.size, fun i hi hne => (hg.block i (by simp; omega) hne).trans (Below.heap_alloc w o i hi)⟩

set_option maxHeartbeats 400000 in
theorem markChain (st : Int) (A : Option Addr) (n c k : Nat) (cs : List Value) (base : Nat) (w : World) (ho : w.ownsRow base 31 1 (.slice A n c) n cs) (hn : n + k ≤ 1099511627776) :
    Calls Try.prog 78 #[.agg #[.int .i64 st, .slice A n c], .int .i64 (k : Int)] w fun e w' => e = .returned (.int .i64 ((k + n : Nat) : Int)) ∧ w'.ownsRow base 31 1 (.slice A n c) n (marksOf mkF k n) ∧ w.grownBy w' (Value.slice A n c).ownBlock := by
  go_enter Try.func78, Try.ntmps78
  go_wp2_with fail
  refine (markFloat32S _ _ _ _ _ _ (ho.alloc _) hn).mono ?_
  rintro e w2 ⟨rfl, ho2, hg⟩
  have hg2 := grown_al hg
  clear hg
  go_wp2
  go_ret
  exact ⟨rfl, ho2, hg2⟩
set_option maxHeartbeats 400000 in
theorem heldChain (st : Int) (A : Option Addr) (n c k : Nat) (B : Nat) (w : World) (h : Reads w B 1 A n (marksOf mkF k n)) (hB : B ≤ w.heap.size) (hn : n + k ≤ 1099511627776) :
    Calls Try.prog 80 #[.agg #[.int .i64 st, .slice A n c], .int .i64 (k : Int)] w fun e w' => e = .returned (.int .i64 ((k + n : Nat) : Int)) ∧ Below w.heap.size w w' := by
  have R1 := fun o => h.alloc hB o
  have h3 : (0 : Int) ≤ ((k + n : Nat) : Int) := by omega
  go_enter Try.func80, Try.ntmps80
  go_wp2_with (go_at_call 35; refine (heldFloat32S _ _ _ _ B _ (R1 _) hn).mono ?_; rintro e w2 ⟨rfl, m, rfl⟩)
  go_ret
  exact ⟨rfl, (by repeat (first | exact Below.refl _ _ | exact below_drewN (by assumption) _ | refine below_drewN ?_ _ | refine Below.alloc ?_ (by first | (simp; done) | (simp; omega)) _ | assumption))⟩
set_option maxHeartbeats 1000000 in
theorem markDesk (LA RA : Option Addr) (ln lc rn rc k sh sc base : Nat) (kd st sz ac : Int) (cl cr : List Value) (w : World) (hl : w.ownsRow base 83 2 (.slice LA ln lc) ln cl) (hr : w.ownsRow base 31 1 (.slice RA rn rc) rn cr)
    (hne : (Value.slice LA ln lc).ownBlock = none ∨ (Value.slice LA ln lc).ownBlock ≠ (Value.slice RA rn rc).ownBlock) (hne' : (Value.slice RA rn rc).ownBlock = none ∨ (Value.slice RA rn rc).ownBlock ≠ (Value.slice LA ln lc).ownBlock) (hn : 2 * ln + rn + k ≤ 1099511627776) :
    Calls Try.prog 47 #[deskV LA ln lc kd sh sc st RA rn rc sz ac, .int .i64 (k : Int)] w fun e w' => e = .returned (.int .i64 ((k + 2 * ln + rn : Nat) : Int)) ∧
      w'.ownsRow base 83 2 (.slice LA ln lc) ln (marksL k ln) ∧ w'.ownsRow base 31 1 (.slice RA rn rc) rn (marksOf mkF (k + 2 * ln) rn) ∧
      (∃ w2, w.grownBy w2 (Value.slice LA ln lc).ownBlock ∧ w2.grownBy w' (Value.slice RA rn rc).ownBlock) := by
  go_enter Try.func47, Try.ntmps47
  go_wp2_with fail
  refine (markLifeS _ _ _ _ _ _ (hl.alloc _) (by omega)).mono ?_
  rintro e w2 ⟨rfl, hl2, hg⟩
  have hg2 := grown_al hg
  have hr2 := hr.kept hg2 hne'
  have hbx : Blk w2 w.heap.size 63 _ := Blk.grown (Blk.new w 63 _) hg (by
    intro he
    have := (hl.lt _ he.symm).2
    omega)
  have c4 : w2.cell? ⟨w.heap.size, 4, none⟩ = some (.int .i64 st) := hbx.cell 4
  have c5 : w2.cell? ⟨w.heap.size, 5, none⟩ = some (.slice RA rn rc) := hbx.cell 5
  clear hg hbx
  have hmc := markChain st RA rn rc (k + 2 * ln) cr base w2 hr2 (by omega)
  rw [show ((k + 2 * ln : Nat) : Int) = (k : Int) + 2 * (ln : Int) by omega] at hmc
  go_wp2_with fail
  refine hmc.mono ?_
  rintro e w3 ⟨rfl, hr3, hg3⟩
  have hl3 := hl2.kept hg3 hne
  clear hmc
  go_wp2
  go_ret
  exact ⟨rfl, hl3, hr3, w2, hg2, hg3⟩

theorem blk_below {w w' : World} {g : Nat} {t : TypeId} {cs : Array Value} (h : Blk w g t cs) (hb : Below w.heap.size w w') : Blk w' g t cs := Blk.below h hb h.lt
set_option maxHeartbeats 1000000 in
theorem heldDesk (LA RA : Option Addr) (ln lc rn rc k sh sc B : Nat) (kd st sz ac : Int) (w : World) (h1 : Reads w B 2 LA ln (marksL k ln)) (h2 : Reads w B 1 RA rn (marksOf mkF (k + 2 * ln) rn)) (hB : B ≤ w.heap.size) (hn : 2 * ln + rn + k ≤ 1099511627776) :
    Calls Try.prog 48 #[deskV LA ln lc kd sh sc st RA rn rc sz ac, .int .i64 (k : Int)] w fun e w' => e = .returned (.int .i64 ((k + 2 * ln + rn : Nat) : Int)) ∧ Below w.heap.size w w' := by
  have R1 := fun o => h1.alloc hB o
  have R2 := fun o => h2.alloc hB o
  have g1 : (0 : Int) ≤ (k : Int) + 2 * (ln : Int) := by omega
  have g2 : (0 : Int) ≤ (k : Int) + 2 * (ln : Int) + (rn : Int) := by omega
  go_enter Try.func48, Try.ntmps48
  go_wp2_with fail
  refine (heldLifeS _ _ _ _ B _ (R1 _) (by omega)).mono ?_
  rintro e w2 ⟨rfl, m, rfl⟩
  have hmc := fun (W : World) hW (hs : B ≤ W.heap.size) => heldChain st RA rn rc (k + 2 * ln) B W hW hs (by omega)
  simp only [show ((k + 2 * ln : Nat) : Int) = (k : Int) + 2 * (ln : Int) by omega] at hmc
  go_wp2_with fail
  refine (hmc _ ((R2 _).drewN _) (by simp; omega)).mono ?_
  rintro e w3 ⟨rfl, hb⟩
  clear hmc
  go_wp2
  go_ret
  have hw := fun o m => below_drewN ((Below.refl w.heap.size w).alloc (Nat.le_refl _) o) m
  exact ⟨rfl, (hw _ _).trans (hb.mono (by simp))⟩
end Go.Proofs.Ytkjiefpnfkampaa
