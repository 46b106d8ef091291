/-
  The desks that the law draws: R8Desk.
-/
import Derived.Test.YtjmpldcnhjgpkaaGreatDoorR8E
import Derived.Test.YtjmpldcnhjgpkaaGreatDoorDkH
namespace Go.Proofs.YtjmpldcnhjgpkaaGreatDoor
open Go.RowKit Fl Mem
set_option linter.unusedVariables false
set_option maxRecDepth 100000

set_option maxHeartbeats 4000000 in
theorem r8_chain {A : Option Addr} {n c g q B : Nat} {s : Int} {xs : List Int} {w : World} (hb : SrcAt w g A n c q s) (h : Reads w B 1 A n (xs.map (Value.int .u8))) (hB : B ≤ g) (hx : ∀ a ∈ xs, (Lit.int .u8 a).wf = true)
    (hn : n ≤ 1048576) (hq0 : q ≤ 900) :
    Calls Tryz.prog 68 #[.pointer (some ⟨g, 0, none⟩)] w fun e w' => ∃ (m N cv : Nat) (Av : Option Addr) (zs : List Nat) (q' : Nat) (s' : Int), e = .returned (.agg #[.int .i64 (m : Int), .slice Av N cv]) ∧ 1 ≤ m ∧ m ≤ 4 ∧ N = m * m ∧ w'.ownsRow w.heap.size 25 1 (.slice Av N cv) N (fl .f32 zs) ∧ Hid (P8 m zs) ∧ q' ≤ q + 33 ∧ SrcAt w' g A n c q' s' ∧ w.grownBy w' (some g) := by
  have hgs := hb.lt
  have hrd : ∀ W, w.grownBy W (some g) → Reads W B 1 A n (xs.map (Value.int .u8)) := fun W hW => h.grown hW (by omega) (fun g' hg' => by injection hg' with hg'; omega)
  have HRd := hide hrd
  have g0 : ∀ o, w.grownBy (w.alloc o) (some g) := fun o => only_alloc (World.grownBy.refl _ _) o
  have hP := hide (fun o => r8_pick (m := 4) (hb.alloc o) (hrd _ (g0 o)) hB hx hn (by omega) (by decide) (by decide))
  have G0 := hide g0
  clear hrd g0 hb h
  go_enter Tryz.func68, Tryz.ntmps68
  go_wp2_with fail
  refine (hP.out _).mono ?_
  rintro e w1 ⟨a, q1, s1, rfl, ha, hq1, hb1, hg1⟩
  have Z1 : Hid (Blk w1 w.heap.size 30 #[.int .i64 0, .slice none 0 0]) := hide ((Blk.new w _ _).grown hg1 (by intro e; injection e with e; omega))
  have g1 := only_trans (G0.out _) hg1
  have z1 : w.heap.size + 1 ≤ w1.heap.size := by have := hg1.size; simpa using this
  obtain ⟨m, hm⟩ : ∃ m : Nat, m = 1 + a := ⟨_, rfl⟩
  have hmI : (1 : Int) + (a : Int) = (m : Int) := by omega
  have hP1 := hide (r8_sides (m := m) hb1 (HRd.out _ g1) hB hx hn (by omega) (by omega) (by omega))
  have Hm := hide hm
  clear hg1 hb1 hP hm

  go_wp2_with fail
  refine hP1.out.mono ?_
  rintro e w2 ⟨v, zs, q2, s2, rfl, hO, hP8, hq2, hb2, hg2⟩
  obtain ⟨Av, cv, rfl⟩ := own_shape hO
  have Z2 := hide (Z1.out.grown hg2 (by intro e; injection e with e; omega))
  have g2 := only_trans g1 hg2
  have u0 : w2.cell? ⟨w.heap.size, 0, none⟩ = some (.int .i64 0) := Z2.out.cell 0
  have u1 : w2.cell? ⟨w.heap.size, 1, none⟩ = some (.slice none 0 0) := Z2.out.cell 1
  have v0 : w2.frozen? ⟨w.heap.size, 0, none⟩ = false := Z2.out.frozen 0
  have v1 : w2.frozen? ⟨w.heap.size, 1, none⟩ = false := Z2.out.frozen 1
  have HO := hide hO
  clear hO hmI Z1 hP1 hg2
  go_wp2
  refine bodyPost_ret (results_cell_row (P := Tryz.prog) rfl _ _ w.heap.size 30 #[.int .i64 (m : Int), .slice Av (m * m) cv] (0, 0) _ rfl ((Z2.out.set_ 0 _).set_ 1 _) Tryz.underlying30 rfl (by kernel_rfl)) rfl ?_
  have hm2 := Hm.out
  refine ⟨m, m * m, cv, Av, zs, q2, s2, rfl, by omega, by omega, rfl, own_up (own_put (own_put HO.out (by show w.heap.size < _; omega) _) (by show w.heap.size < _; omega) _) (by omega), hP8, by omega, ?_, ?_⟩
  · exact (hb2.far (p := ⟨w.heap.size, 0, none⟩) (by show g ≠ w.heap.size; omega) _).far (p := ⟨w.heap.size, 1, none⟩) (by show g ≠ w.heap.size; omega) _
  · exact only_setCell (only_setCell g2 (.inr (Nat.le_refl _)) _) (.inr (Nat.le_refl _)) _
/-- What the drawn desks are. -/
structure R8D (D : Dk) : Prop where
  lv : R8L D.lv
  l1 : 1 ≤ D.lv.length
  l8 : D.lv.length ≤ 8
  kd : ∃ a : Nat, a < 4 ∧ D.kd = (a : Int)
  sh : ∃ i, i < 11 ∧ D.sh = r8q i
  sc : ∃ j, j < 32 ∧ D.sc = r8h j
  ch : ∃ m : Nat, 1 ≤ m ∧ m ≤ 4 ∧ D.st = (m : Int) ∧ D.rs.length = m * m ∧ P8 m D.rs
  pl : ∃ a b : Nat, a < 8 ∧ b < 4 ∧ b ≤ 1 + a ∧ D.sz = (1 : Int) + (a : Int) ∧ D.ac = (b : Int)
theorem dkr_own {w : World} {base base' N M lc rc : Nat} {LA RA : Option Addr} {D : Dk} (h1 : w.ownsRow base 69 2 (.slice LA N lc) N (ll D.lv)) (h2 : w.ownsRow base' 25 1 (.slice RA M rc) M (fl .f32 D.rs)) (l1 : 1 ≤ N) (l2 : N ≤ 48) (r1 : 1 ≤ M) (r2 : M ≤ 64) : DkR w 0 w.heap.size LA N RA M rc D := by
  have hc : M ≤ rc := by
    rcases h2 with ⟨_, ⟨_, h0⟩ | ⟨g, cap, cur, hv, _, _, hc, _⟩⟩
    · omega
    · injection hv with _ _ e; omega
  exact ⟨Reads.of_own h1, Reads.of_own h2, l1, l2, r1, r2, hc, fun ad e => ⟨Nat.zero_le _, (own_lo (base' := 0) h1 ⟨by omega, Nat.zero_le _⟩ e).2⟩, fun ad e => ⟨Nat.zero_le _, (own_lo (base' := 0) h2 ⟨by omega, Nat.zero_le _⟩ e).2⟩⟩
theorem own_ty {w : World} {base n size : Nat} {e T : TypeId} {v : Value} {xs : List Value} (h : w.ownsRow base e size v n xs) {p : Addr} (hp : BT w p.block T) (hT : T ≠ e) (u : Value) : (w.setCell p u).ownsRow base e size v n xs := by
  refine h.kept (only_setCell (g := p.block) (World.grownBy.refl _ _) (.inl rfl) u) ?_
  rcases h with ⟨_, ⟨rfl, _⟩ | ⟨g, cap, cur, rfl, _, hh, _⟩⟩
  · exact .inl rfl
  · refine .inr (fun e2 => ?_)
    simp [Value.ownBlock] at e2
    subst e2
    exact hp.ne ⟨_, _, hh⟩ hT rfl
set_option maxHeartbeats 8000000 in
theorem r8_draw {A : Option Addr} {n c g B : Nat} {s : Int} {xs : List Int} {w : World} (hb : SrcAt w g A n c 0 s) (h : Reads w B 1 A n (xs.map (Value.int .u8))) (hB : B ≤ g) (hx : ∀ a ∈ xs, (Lit.int .u8 a).wf = true)
    (hn : n ≤ 1048576) :
    Calls Tryz.prog 28 #[.pointer (some ⟨g, 0, none⟩)] w fun e w' => ∃ (LA : Option Addr) (ln lc : Nat) (RA : Option Addr) (rn rc : Nat) (D : Dk), e = .returned (.agg (dkC LA ln lc RA rn rc D)) ∧ DkR w' 0 w'.heap.size LA ln RA rn rc D ∧ R8D D ∧ w.grownBy w' (some g) := by
  have hgs := hb.lt
  have hrd : ∀ W, w.grownBy W (some g) → Reads W B 1 A n (xs.map (Value.int .u8)) := fun W hW => h.grown hW (by omega) (fun g' hg' => by injection hg' with hg'; omega)
  have HRd := hide hrd
  have g0 : ∀ o, w.grownBy (w.alloc o) (some g) := fun o => only_alloc (World.grownBy.refl _ _) o
  have hP := hide (fun o => r8_pick (m := 8) (hb.alloc o) (hrd _ (g0 o)) hB hx hn (by omega) (by decide) (by decide))
  have G0 := hide g0
  clear hrd g0 hb h
  go_enter Tryz.func28, Tryz.ntmps28
  go_wp2_with fail
  refine (hP.out _).mono ?_
  rintro e w1 ⟨k, q1, s1, rfl, hk, hq1, hb1, hg1⟩
  have Z1 : Hid (Blk w1 w.heap.size 34 #[.slice none 0 0, .int .i64 0, .float .f32 0, .float .f32 0, .int .i64 0, .slice none 0 0, .int .i64 0, .int .i64 0]) := hide ((Blk.new w _ _).grown hg1 (by intro e; injection e with e; omega))
  have g1 := only_trans (G0.out _) hg1
  have z1 : w.heap.size + 1 ≤ w1.heap.size := by have := hg1.size; simpa using this
  obtain ⟨N, hN⟩ : ∃ N : Nat, N = 1 + k := ⟨_, rfl⟩
  have hNI : (1 : Int) + (k : Int) = (N : Int) := by omega
  have hP1 := hide (r8_lives (N := N) hb1 (HRd.out _ g1) hB hx hn (by omega) (by omega))
  have HNN : Hid (1 ≤ N ∧ N ≤ 8) := hide (by omega)
  have hNI8 : (N : Int) ≤ 8 := by omega
  clear hg1 hb1 hP hN hk
  go_wp2_with fail
  refine hP1.out.mono ?_
  rintro e w2 ⟨v, l, q2, s2, rfl, hO, hl, hq2, hb2, hg2⟩
  obtain ⟨LA, lc, rfl⟩ := own_shape hO
  have Z2 := hide (Z1.out.grown hg2 (by intro e; injection e with e; omega))
  have g2 := only_trans g1 hg2
  have z2 : w1.heap.size ≤ w2.heap.size := hg2.size
  have HO2 := hide (own_up hO z1)
  have HlN : Hid (l.length = N) := hide (by have := hO.1; rw [ll_len] at this; omega)
  have hP2 := hide (fun o => r8_law (hb2.alloc o) (HRd.out _ (only_alloc g2 o)) hB hx hn (by have := HNN.out; omega))
  clear hO Z1 hP1 hg2 g1 hNI
  go_wp2_with fail
  refine (hP2.out _).mono ?_
  rintro e w3 ⟨a, i, j, q3, s3, rfl, ha, hi, hj, hq3, hb3, hg3⟩
  have Z3 := hide ((Z2.out.alloc (.cells #[.slice LA N lc, .int .i64 0, .float .f32 0, .float .f32 0, .int .i64 0, .slice none 0 0, .int .i64 0, .int .i64 0] 34)).grown hg3 (by intro e; injection e with e; omega))
  have A3 : Hid (Blk w3 w2.heap.size 34 #[.slice LA N lc, .int .i64 0, .float .f32 0, .float .f32 0, .int .i64 0, .slice none 0 0, .int .i64 0, .int .i64 0]) := hide ((Blk.new w2 _ _).grown hg3 (by intro e; injection e with e; omega))
  have HO3 := hide ((HO2.out.alloc (.cells #[.slice LA N lc, .int .i64 0, .float .f32 0, .float .f32 0, .int .i64 0, .slice none 0 0, .int .i64 0, .int .i64 0] 34)).kept hg3 (own_far HO2.out (by omega)))
  have g3 := only_trans (only_alloc g2 _) hg3
  have z3 : w2.heap.size + 1 ≤ w3.heap.size := by have := hg3.size; simpa using this
  have d1 : w3.cell? ⟨w2.heap.size, 1, none⟩ = some (.int .i64 0) := A3.out.cell 1
  have df1 : w3.frozen? ⟨w2.heap.size, 1, none⟩ = false := A3.out.frozen 1
  have d2 : w3.cell? ⟨w2.heap.size, 2, none⟩ = some (.float .f32 0) := A3.out.cell 2
  have df2 : w3.frozen? ⟨w2.heap.size, 2, none⟩ = false := A3.out.frozen 2
  have d3 : w3.cell? ⟨w2.heap.size, 3, none⟩ = some (.float .f32 0) := A3.out.cell 3
  have df3 : w3.frozen? ⟨w2.heap.size, 3, none⟩ = false := A3.out.frozen 3
  clear hg3 Z2 HO2 g2 hP2 hb2
  have hP3 := hide (fun (W : World) (hS : SrcAt W g A n c q3 s3) (hG : w.grownBy W (some g)) => r8_chain hS (HRd.out _ hG) hB hx hn (by have := HNN.out; omega))
  go_wp2_with fail
  refine (hP3.out _ (((hb3.far (p := ⟨w2.heap.size, 1, none⟩) (by show g ≠ w2.heap.size; omega) (.int .i64 (a : Int))).far (p := ⟨w2.heap.size, 2, none⟩) (by show g ≠ w2.heap.size; omega) (.float .f32 (r8q i))).far (p := ⟨w2.heap.size, 3, none⟩) (by show g ≠ w2.heap.size; omega) (.float .f32 (r8h j))) (only_setCell (only_setCell (only_setCell g3 (p := ⟨w2.heap.size, 1, none⟩) (.inr (by show w.heap.size ≤ w2.heap.size; omega)) (.int .i64 (a : Int))) (p := ⟨w2.heap.size, 2, none⟩) (.inr (by show w.heap.size ≤ w2.heap.size; omega)) (.float .f32 (r8q i))) (p := ⟨w2.heap.size, 3, none⟩) (.inr (by show w.heap.size ≤ w2.heap.size; omega)) (.float .f32 (r8h j)))).mono ?_
  rintro e w4 ⟨m, M, rc, RA, zs, q4, s4, rfl, hm1, hm4, hMm, hOr, hP8, hq4, hb4, hg4⟩
  have HMm := hide hMm
  clear hMm
  have Z4 := hide ((((Z3.out.far (p := ⟨w2.heap.size, 1, none⟩) (by show w.heap.size ≠ w2.heap.size; omega) (.int .i64 (a : Int))).far (p := ⟨w2.heap.size, 2, none⟩) (by show w.heap.size ≠ w2.heap.size; omega) (.float .f32 (r8q i))).far (p := ⟨w2.heap.size, 3, none⟩) (by show w.heap.size ≠ w2.heap.size; omega) (.float .f32 (r8h j))).grown hg4 (by intro e; injection e with e; omega))
  have A4 := hide ((((A3.out.set_ 1 (.int .i64 (a : Int))).set_ 2 (.float .f32 (r8q i))).set_ 3 (.float .f32 (r8h j))).grown hg4 (by intro e; injection e with e; omega))
  have HO4 := hide ((own_ty (own_ty (own_ty HO3.out (p := ⟨w2.heap.size, 1, none⟩) (BT.blk A3.out) (by decide) (.int .i64 (a : Int))) (p := ⟨w2.heap.size, 2, none⟩) ((BT.blk A3.out).setCell _ _) (by decide) (.float .f32 (r8q i))) (p := ⟨w2.heap.size, 3, none⟩) (((BT.blk A3.out).setCell _ _).setCell _ _) (by decide) (.float .f32 (r8h j))).kept hg4 (own_far HO3.out (by omega)))
  have g4 := only_trans (only_setCell (only_setCell (only_setCell g3 (p := ⟨w2.heap.size, 1, none⟩) (.inr (by show w.heap.size ≤ w2.heap.size; omega)) (.int .i64 (a : Int))) (p := ⟨w2.heap.size, 2, none⟩) (.inr (by show w.heap.size ≤ w2.heap.size; omega)) (.float .f32 (r8q i))) (p := ⟨w2.heap.size, 3, none⟩) (.inr (by show w.heap.size ≤ w2.heap.size; omega)) (.float .f32 (r8h j))) hg4
  have z4 : w3.heap.size ≤ w4.heap.size := by have := hg4.size; simpa [World.size_setCell] using this
  have HR4 := hide (own_up hOr (show w.heap.size + 1 ≤ _ by simp [World.size_setCell]; omega))
  have HRb := hide (own_up hOr (show w2.heap.size + 1 ≤ _ by simp [World.size_setCell]; omega))
  have e4 : w4.cell? ⟨w2.heap.size, 4, none⟩ = some (.int .i64 0) := A4.out.cell 4
  have ef4 : w4.frozen? ⟨w2.heap.size, 4, none⟩ = false := A4.out.frozen 4
  have e5 : w4.cell? ⟨w2.heap.size, 5, none⟩ = some (.slice none 0 0) := A4.out.cell 5
  have ef5 : w4.frozen? ⟨w2.heap.size, 5, none⟩ = false := A4.out.frozen 5
  clear hg4 Z3 HO3 g3 hP3 hb3 A3 hOr d1 d2 d3 df1 df2 df3
  have hP4 := hide (fun (W : World) (hS : SrcAt W g A n c q4 s4) (hG : w.grownBy W (some g)) => r8_plan hS (HRd.out _ hG) hB hx hn (by have := HNN.out; omega))
  go_wp2_with fail
  refine (hP4.out _ ((hb4.far (p := ⟨w2.heap.size, 4, none⟩) (by show g ≠ w2.heap.size; omega) (.int .i64 (m : Int))).far (p := ⟨w2.heap.size, 5, none⟩) (by show g ≠ w2.heap.size; omega) (.slice RA M rc)) (only_setCell (only_setCell g4 (p := ⟨w2.heap.size, 4, none⟩) (.inr (by show w.heap.size ≤ w2.heap.size; omega)) (.int .i64 (m : Int))) (p := ⟨w2.heap.size, 5, none⟩) (.inr (by show w.heap.size ≤ w2.heap.size; omega)) (.slice RA M rc))).mono ?_
  rintro e w5 ⟨pa, pb, q5, s5, rfl, hpa, hpb, hpab, hq5, hb5, hg5⟩
  have Z5 := hide (((Z4.out.far (p := ⟨w2.heap.size, 4, none⟩) (by show w.heap.size ≠ w2.heap.size; omega) (.int .i64 (m : Int))).far (p := ⟨w2.heap.size, 5, none⟩) (by show w.heap.size ≠ w2.heap.size; omega) (.slice RA M rc)).grown hg5 (by intro e; injection e with e; omega))
  have A5 := hide (((A4.out.set_ 4 (.int .i64 (m : Int))).set_ 5 (.slice RA M rc)).grown hg5 (by intro e; injection e with e; omega))
  have HO5 := hide ((own_ty (own_ty HO4.out (p := ⟨w2.heap.size, 4, none⟩) (BT.blk A4.out) (by decide) (.int .i64 (m : Int))) (p := ⟨w2.heap.size, 5, none⟩) ((BT.blk A4.out).setCell _ _) (by decide) (.slice RA M rc)).kept hg5 (own_far HO4.out (by omega)))
  have HR5 := hide ((own_ty (own_ty HR4.out (p := ⟨w2.heap.size, 4, none⟩) (BT.blk A4.out) (by decide) (.int .i64 (m : Int))) (p := ⟨w2.heap.size, 5, none⟩) ((BT.blk A4.out).setCell _ _) (by decide) (.slice RA M rc)).kept hg5 (own_far HR4.out (by omega)))
  have g5 := only_trans (only_setCell (only_setCell g4 (p := ⟨w2.heap.size, 4, none⟩) (.inr (by show w.heap.size ≤ w2.heap.size; omega)) (.int .i64 (m : Int))) (p := ⟨w2.heap.size, 5, none⟩) (.inr (by show w.heap.size ≤ w2.heap.size; omega)) (.slice RA M rc)) hg5
  have z5 : w4.heap.size ≤ w5.heap.size := by have := hg5.size; simpa [World.size_setCell] using this
  have x0 : w5.cell? ⟨w2.heap.size, 0, none⟩ = some (.slice LA N lc) := A5.out.cell 0
  have x1 : w5.cell? ⟨w2.heap.size, 1, none⟩ = some (.int .i64 (a : Int)) := A5.out.cell 1
  have x2 : w5.cell? ⟨w2.heap.size, 2, none⟩ = some (.float .f32 (r8q i)) := A5.out.cell 2
  have x3 : w5.cell? ⟨w2.heap.size, 3, none⟩ = some (.float .f32 (r8h j)) := A5.out.cell 3
  have x4 : w5.cell? ⟨w2.heap.size, 4, none⟩ = some (.int .i64 (m : Int)) := A5.out.cell 4
  have x5 : w5.cell? ⟨w2.heap.size, 5, none⟩ = some (.slice RA M rc) := A5.out.cell 5
  have y6 : w5.cell? ⟨w2.heap.size, 6, none⟩ = some (.int .i64 0) := A5.out.cell 6
  have yf6 : w5.frozen? ⟨w2.heap.size, 6, none⟩ = false := A5.out.frozen 6
  have y7 : w5.cell? ⟨w2.heap.size, 7, none⟩ = some (.int .i64 0) := A5.out.cell 7
  have yf7 : w5.frozen? ⟨w2.heap.size, 7, none⟩ = false := A5.out.frozen 7
  have u0 : w5.cell? ⟨w.heap.size, 0, none⟩ = some (.slice none 0 0) := Z5.out.cell 0
  have uf0 : w5.frozen? ⟨w.heap.size, 0, none⟩ = false := Z5.out.frozen 0
  have u1 : w5.cell? ⟨w.heap.size, 1, none⟩ = some (.int .i64 0) := Z5.out.cell 1
  have uf1 : w5.frozen? ⟨w.heap.size, 1, none⟩ = false := Z5.out.frozen 1
  have u2 : w5.cell? ⟨w.heap.size, 2, none⟩ = some (.float .f32 0) := Z5.out.cell 2
  have uf2 : w5.frozen? ⟨w.heap.size, 2, none⟩ = false := Z5.out.frozen 2
  have u3 : w5.cell? ⟨w.heap.size, 3, none⟩ = some (.float .f32 0) := Z5.out.cell 3
  have uf3 : w5.frozen? ⟨w.heap.size, 3, none⟩ = false := Z5.out.frozen 3
  have u4 : w5.cell? ⟨w.heap.size, 4, none⟩ = some (.int .i64 0) := Z5.out.cell 4
  have uf4 : w5.frozen? ⟨w.heap.size, 4, none⟩ = false := Z5.out.frozen 4
  have u5 : w5.cell? ⟨w.heap.size, 5, none⟩ = some (.slice none 0 0) := Z5.out.cell 5
  have uf5 : w5.frozen? ⟨w.heap.size, 5, none⟩ = false := Z5.out.frozen 5
  have u6 : w5.cell? ⟨w.heap.size, 6, none⟩ = some (.int .i64 0) := Z5.out.cell 6
  have uf6 : w5.frozen? ⟨w.heap.size, 6, none⟩ = false := Z5.out.frozen 6
  have u7 : w5.cell? ⟨w.heap.size, 7, none⟩ = some (.int .i64 0) := Z5.out.cell 7
  have uf7 : w5.frozen? ⟨w.heap.size, 7, none⟩ = false := Z5.out.frozen 7
  clear hg5 Z4 HO4 HR4 HRb g4 hP4 hb4 A4 e4 e5 ef4 ef5
  go_wp2
  refine bodyPost_ret (results_cell_row (P := Tryz.prog) rfl _ _ w.heap.size 34 (dkC LA N lc RA M rc ⟨l, (a : Int), r8q i, r8h j, (m : Int), zs, (1 : Int) + (pa : Int), (pb : Int)⟩) (0, 0) _ rfl ((((((((((Z5.out.far (p := ⟨w2.heap.size, 6, none⟩) (by show w.heap.size ≠ w2.heap.size; omega) (.int .i64 ((1 : Int) + (pa : Int)))).far (p := ⟨w2.heap.size, 7, none⟩) (by show w.heap.size ≠ w2.heap.size; omega) (.int .i64 (pb : Int))).set_ 0 (.slice LA N lc)).set_ 1 (.int .i64 (a : Int))).set_ 2 (.float .f32 (r8q i))).set_ 3 (.float .f32 (r8h j))).set_ 4 (.int .i64 (m : Int))).set_ 5 (.slice RA M rc)).set_ 6 (.int .i64 ((1 : Int) + (pa : Int)))).set_ 7 (.int .i64 (pb : Int))) Tryz.underlying34 rfl (by kernel_rfl)) rfl ?_
  have hNN := HNN.out
  have hrl : zs.length = M := by have := HR5.out.1; simpa [fl] using this
  have hMm := HMm.out
  have hM16 : M ≤ 16 := by rw [hMm]; exact Nat.mul_le_mul hm4 hm4
  have hM1 : 1 ≤ M := by rw [hMm]; exact Nat.mul_le_mul hm1 hm1
  have hD5 : DkR w5 0 w5.heap.size LA N RA M rc ⟨l, (a : Int), r8q i, r8h j, (m : Int), zs, (1 : Int) + (pa : Int), (pb : Int)⟩ := dkr_own (D := ⟨l, (a : Int), r8q i, r8h j, (m : Int), zs, (1 : Int) + (pa : Int), (pb : Int)⟩) HO5.out HR5.out hNN.1 (by omega) hM1 (by omega)
  refine ⟨LA, N, lc, RA, M, rc, ⟨l, (a : Int), r8q i, r8h j, (m : Int), zs, (1 : Int) + (pa : Int), (pb : Int)⟩, rfl, (DkR.off (DkR.off (DkR.off (DkR.off (DkR.off (DkR.off (DkR.off (DkR.off (DkR.off (DkR.off hD5 (p := ⟨w2.heap.size, 6, none⟩) (BT.blk A5.out) (by decide) (by decide) _) (p := ⟨w2.heap.size, 7, none⟩) ((BT.blk A5.out).setCell _ _) (by decide) (by decide) _) (p := ⟨w.heap.size, 0, none⟩) (((BT.blk Z5.out).setCell _ _).setCell _ _) (by decide) (by decide) _) (p := ⟨w.heap.size, 1, none⟩) ((((BT.blk Z5.out).setCell _ _).setCell _ _).setCell _ _) (by decide) (by decide) _) (p := ⟨w.heap.size, 2, none⟩) (((((BT.blk Z5.out).setCell _ _).setCell _ _).setCell _ _).setCell _ _) (by decide) (by decide) _) (p := ⟨w.heap.size, 3, none⟩) ((((((BT.blk Z5.out).setCell _ _).setCell _ _).setCell _ _).setCell _ _).setCell _ _) (by decide) (by decide) _) (p := ⟨w.heap.size, 4, none⟩) (((((((BT.blk Z5.out).setCell _ _).setCell _ _).setCell _ _).setCell _ _).setCell _ _).setCell _ _) (by decide) (by decide) _) (p := ⟨w.heap.size, 5, none⟩) ((((((((BT.blk Z5.out).setCell _ _).setCell _ _).setCell _ _).setCell _ _).setCell _ _).setCell _ _).setCell _ _) (by decide) (by decide) _) (p := ⟨w.heap.size, 6, none⟩) (((((((((BT.blk Z5.out).setCell _ _).setCell _ _).setCell _ _).setCell _ _).setCell _ _).setCell _ _).setCell _ _).setCell _ _) (by decide) (by decide) _) (p := ⟨w.heap.size, 7, none⟩) ((((((((((BT.blk Z5.out).setCell _ _).setCell _ _).setCell _ _).setCell _ _).setCell _ _).setCell _ _).setCell _ _).setCell _ _).setCell _ _) (by decide) (by decide) _).more (by simp [World.size_setCell]), ⟨hl.out, by show 1 ≤ l.length; rw [HlN.out]; exact hNN.1, by show l.length ≤ 8; rw [HlN.out]; exact hNN.2, ⟨a, by omega, rfl⟩, ⟨i, by omega, rfl⟩, ⟨j, by omega, rfl⟩, ⟨m, hm1, hm4, rfl, by show zs.length = m * m; rw [hrl, hMm], hP8.out⟩, ⟨pa, pb, by omega, by omega, by omega, rfl, rfl⟩⟩, ?_⟩
  exact (only_setCell (only_setCell (only_setCell (only_setCell (only_setCell (only_setCell (only_setCell (only_setCell (only_setCell (only_setCell g5 (p := ⟨w2.heap.size, 6, none⟩) (.inr (by show w.heap.size ≤ w2.heap.size; omega)) _) (p := ⟨w2.heap.size, 7, none⟩) (.inr (by show w.heap.size ≤ w2.heap.size; omega)) _) (p := ⟨w.heap.size, 0, none⟩) (.inr (Nat.le_refl _)) _) (p := ⟨w.heap.size, 1, none⟩) (.inr (Nat.le_refl _)) _) (p := ⟨w.heap.size, 2, none⟩) (.inr (Nat.le_refl _)) _) (p := ⟨w.heap.size, 3, none⟩) (.inr (Nat.le_refl _)) _) (p := ⟨w.heap.size, 4, none⟩) (.inr (Nat.le_refl _)) _) (p := ⟨w.heap.size, 5, none⟩) (.inr (Nat.le_refl _)) _) (p := ⟨w.heap.size, 6, none⟩) (.inr (Nat.le_refl _)) _) (p := ⟨w.heap.size, 7, none⟩) (.inr (Nat.le_refl _)) _)
end Go.Proofs.YtjmpldcnhjgpkaaGreatDoor
