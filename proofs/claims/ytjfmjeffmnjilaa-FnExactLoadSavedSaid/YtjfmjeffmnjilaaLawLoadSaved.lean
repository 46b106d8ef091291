/-
  The law FnExactLoadSaved returns true for all texts.
-/
import Derived.Test.YtjfmjeffmnjilaaSvE
import Derived.BigGuardPart
namespace Go.Proofs.Ytjfmjeffmnjilaa
open Go.RowKit Fl Mem
set_option linter.unusedVariables false
set_option maxRecDepth 100000

theorem svK_of {s t : Sv} (h : svT s = svT t) : svK s = svK t := by
  unfold svT at h
  rw [Prod.mk.injEq, Prod.mk.injEq, Prod.mk.injEq] at h
  exact svK_iff.2 ⟨h.1, h.2.1, h.2.2.1, by rw [h.2.2.2]⟩
theorem svLe_up {a b : Nat} {s : Sv} (h : SvLe a s) (hb : a ≤ b) : SvLe b s := ⟨Nat.le_trans h.nm hb, Nat.le_trans h.pn hb, Nat.le_trans h.sn hb⟩
set_option maxHeartbeats 4000000 in
theorem law_LoadSaved (s : ByteArray) (w : World) (hz : s.size ≤ maxLen) :
    Calls Try.prog 9 #[.string s] w fun e w' => e = .returned (.bool true) ∧ Below w.heap.size w w' := by
  by_cases hx : 1048576 < s.size
  · have hy : 1048576 < (s.size : Int) := by omega
    go_enter Try.func9, Try.ntmps9
    go_wp2
    go_ret
    exact ⟨rfl, Below.refl _ _⟩
  have hs : s.size ≤ 1048576 := by omega
  have hy : ¬ 1048576 < (s.size : Int) := by omega
  have LS := hide hs
  clear hx hs hz
  obtain ⟨bw, hbw⟩ : ∃ b, whB s.data.toList = b := ⟨_, rfl⟩
  go_enter Try.func9, Try.ntmps9
  go_wp2_with fail
  refine (s_LoadSaved_told LS.out).mono ?_
  rintro e w1 ⟨q0, rfl, hb1, ht0, ho0, hl0⟩
  rw [hbw]
  go_wp2_with fail
  refine (i_LoadSaved_told LS.out).mono ?_
  rintro e w2 ⟨q1, rfl, hb2, ht1, ho1, hl1⟩
  rw [hbw]
  have z1 : w.heap.size ≤ w1.heap.size := hb1.size
  have z2 : w1.heap.size + 1 ≤ w2.heap.size := by have := hb2.size; simpa using this
  have bel2 : Below w.heap.size w w2 := (hb1.alloc z1 (.cells #[.string q0.nm, .int .i64 q0.parts, .slice q0.PA q0.pn q0.pc, .slice q0.SA q0.sn q0.sc] 38)).trans (hb2.mono (by simp; omega))
  have Lt0 := hide ho0.lts
  have Lt1 := hide ho1.lts
  have A0 := hide (((ho0.alloc (.cells #[.string q0.nm, .int .i64 q0.parts, .slice q0.PA q0.pn q0.pc, .slice q0.SA q0.sn q0.sc] 38)).below hb2).alloc (.cells #[.string q1.nm, .int .i64 q1.parts, .slice q1.PA q1.pn q1.pc, .slice q1.SA q1.sn q1.sc] 38))
  have A1 := hide ((ho1.alloc (.cells #[.string q1.nm, .int .i64 q1.parts, .slice q1.PA q1.pn q1.pc, .slice q1.SA q1.sn q1.sc] 38)).up (b' := w1.heap.size + 1) (by simp))
  have X0 := hide (((Blk.new w1 38 #[.string q0.nm, .int .i64 q0.parts, .slice q0.PA q0.pn q0.pc, .slice q0.SA q0.sn q0.sc]).below hb2 (by simp)).alloc (.cells #[.string q1.nm, .int .i64 q1.parts, .slice q1.PA q1.pn q1.pc, .slice q1.SA q1.sn q1.sc] 38))
  have X1 := hide (Blk.new w2 38 #[.string q1.nm, .int .i64 q1.parts, .slice q1.PA q1.pn q1.pc, .slice q1.SA q1.sn q1.sc])
  have K1 := hide (svK_of (ht1.trans ht0.symm))
  have T0 := hide ht0
  have L0 := hide hl0
  have L1 := hide hl1
  have belA := bel2.alloc (by omega) (.cells #[.string q1.nm, .int .i64 q1.parts, .slice q1.PA q1.pn q1.pc, .slice q1.SA q1.sn q1.sc] 38)
  clear ho0 ho1 ht1 ht0 hl0 hl1 hb1 hb2 bel2
  have r_0 : (w2.alloc (.cells #[.string q1.nm, .int .i64 q1.parts, .slice q1.PA q1.pn q1.pc, .slice q1.SA q1.sn q1.sc] 38)).cell? ⟨w1.heap.size, 0, none⟩ = some (.string q0.nm) := X0.out.cell 0
  have r_1 : (w2.alloc (.cells #[.string q1.nm, .int .i64 q1.parts, .slice q1.PA q1.pn q1.pc, .slice q1.SA q1.sn q1.sc] 38)).cell? ⟨w1.heap.size, 1, none⟩ = some (.int .i64 q0.parts) := X0.out.cell 1
  have r_2 : (w2.alloc (.cells #[.string q1.nm, .int .i64 q1.parts, .slice q1.PA q1.pn q1.pc, .slice q1.SA q1.sn q1.sc] 38)).cell? ⟨w1.heap.size, 2, none⟩ = some (.slice q0.PA q0.pn q0.pc) := X0.out.cell 2
  have r_3 : (w2.alloc (.cells #[.string q1.nm, .int .i64 q1.parts, .slice q1.PA q1.pn q1.pc, .slice q1.SA q1.sn q1.sc] 38)).cell? ⟨w1.heap.size, 3, none⟩ = some (.slice q0.SA q0.sn q0.sc) := X0.out.cell 3
  have x_0 : (w2.alloc (.cells #[.string q1.nm, .int .i64 q1.parts, .slice q1.PA q1.pn q1.pc, .slice q1.SA q1.sn q1.sc] 38)).cell? ⟨w2.heap.size, 0, none⟩ = some (.string q1.nm) := X1.out.cell 0
  have x_1 : (w2.alloc (.cells #[.string q1.nm, .int .i64 q1.parts, .slice q1.PA q1.pn q1.pc, .slice q1.SA q1.sn q1.sc] 38)).cell? ⟨w2.heap.size, 1, none⟩ = some (.int .i64 q1.parts) := X1.out.cell 1
  have x_2 : (w2.alloc (.cells #[.string q1.nm, .int .i64 q1.parts, .slice q1.PA q1.pn q1.pc, .slice q1.SA q1.sn q1.sc] 38)).cell? ⟨w2.heap.size, 2, none⟩ = some (.slice q1.PA q1.pn q1.pc) := X1.out.cell 2
  have x_3 : (w2.alloc (.cells #[.string q1.nm, .int .i64 q1.parts, .slice q1.PA q1.pn q1.pc, .slice q1.SA q1.sn q1.sc] 38)).cell? ⟨w2.heap.size, 3, none⟩ = some (.slice q1.SA q1.sn q1.sc) := X1.out.cell 3
  go_wp2_with fail
  refine (l_eqSaved A1.out.ok A0.out.ok (Nat.le_refl _) (Nat.le_refl _) (svLe_up L1.out (by omega)) (svLe_up L0.out (by omega)) K1.out).mono ?_
  rintro e w3 ⟨rfl, hb3⟩
  have ho0 := hide (A0.out.below hb3)
  have ho1 := hide (A1.out.below hb3)
  have Y0 := hide (X0.out.below hb3 (by simp; omega))
  have Y1 := hide (X1.out.below hb3 (by simp))
  have bel3 := belA.trans (hb3.mono (by simp; omega))
  have z3 : w2.heap.size + 1 ≤ w3.heap.size := by have := hb3.size; simpa using this
  clear hb3 A0 A1 X0 X1 belA r_0 r_1 r_2 r_3 x_0 x_1 x_2 x_3
  have x_0 : w3.cell? ⟨w2.heap.size, 0, none⟩ = some (.string q1.nm) := Y1.out.cell 0
  have x_1 : w3.cell? ⟨w2.heap.size, 1, none⟩ = some (.int .i64 q1.parts) := Y1.out.cell 1
  have x_2 : w3.cell? ⟨w2.heap.size, 2, none⟩ = some (.slice q1.PA q1.pn q1.pc) := Y1.out.cell 2
  have x_3 : w3.cell? ⟨w2.heap.size, 3, none⟩ = some (.slice q1.SA q1.sn q1.sc) := Y1.out.cell 3
  go_wp2_with fail
  refine (l_markSaved ho1.out L1.out (by omega) (by omega) (by omega)).mono ?_
  rintro e w4 ⟨rfl, hP, hS, hb4, hk4⟩
  have HP := hide hP
  have HS := hide hS
  have z4 : w3.heap.size ≤ w4.heap.size := hb4.size
  have bel4 := bel3.trans (hb4.mono (by omega))
  have ho4 := hide (ho0.out.under hb4 ⟨fun g hg => Nat.lt_succ_of_lt (Lt0.out.paths g hg), fun g hg => Nat.lt_succ_of_lt (Lt0.out.sig g hg)⟩)
  have X0 := hide (Y0.out.below hb4 (by omega))
  have X1 : Hid (Blk w4 w2.heap.size 38 #[.string q1.nm, .int .i64 q1.parts, .slice q1.PA q1.pn q1.pc, .slice q1.SA q1.sn q1.sc]) := hide ((hk4 w2.heap.size (by omega) (fun e => Nat.lt_irrefl _ (Lt1.out.paths _ e)) (fun e => Nat.lt_irrefl _ (Lt1.out.sig _ e))).trans Y1.out)
  clear hP hS hb4 hk4 ho0 ho1 bel3 Y0 Y1 x_0 x_1 x_2 x_3
  have x_0 : w4.cell? ⟨w2.heap.size, 0, none⟩ = some (.string q1.nm) := X1.out.cell 0
  have x_1 : w4.cell? ⟨w2.heap.size, 1, none⟩ = some (.int .i64 q1.parts) := X1.out.cell 1
  have x_2 : w4.cell? ⟨w2.heap.size, 2, none⟩ = some (.slice q1.PA q1.pn q1.pc) := X1.out.cell 2
  have x_3 : w4.cell? ⟨w2.heap.size, 3, none⟩ = some (.slice q1.SA q1.sn q1.sc) := X1.out.cell 3
  go_wp2_with fail
  refine (l_heldSaved (Reads.of_own HP.out) (Reads.of_own HS.out) (Nat.le_refl _) (by omega) (by omega) L1.out).mono ?_
  rintro e w5 ⟨rfl, hb5⟩
  have HP5 := hide (own_below HP.out hb5)
  have HS5 := hide (own_below HS.out hb5)
  have ho5 := hide (ho4.out.below hb5)
  have Y0 := hide (X0.out.below hb5 (by omega))
  have Y1 := hide (X1.out.below hb5 (by omega))
  have bel5 := bel4.trans (hb5.mono bel4.size)
  have z5 : w4.heap.size ≤ w5.heap.size := hb5.size
  have i1 : ¬ (1 : Int) + (q1.pn : Int) + (q1.sn : Int) < 0 := by omega
  clear hb5 bel4 HP HS ho4 X0 X1 x_0 x_1 x_2 x_3
  go_wp2_with fail
  refine (i_LoadSaved_told LS.out).mono ?_
  rintro e w6 ⟨q2, rfl, hb6, ht2, ho2, hl2⟩
  rw [hbw]
  have z6 : w5.heap.size ≤ w6.heap.size := hb6.size
  have HP6 := hide (World.ownsRow.alloc (own_below HP5.out hb6) (.cells #[.string q2.nm, .int .i64 q2.parts, .slice q2.PA q2.pn q2.pc, .slice q2.SA q2.sn q2.sc] 38))
  have HS6 := hide (World.ownsRow.alloc (own_below HS5.out hb6) (.cells #[.string q2.nm, .int .i64 q2.parts, .slice q2.PA q2.pn q2.pc, .slice q2.SA q2.sn q2.sc] 38))
  have ho6 := hide ((ho5.out.below hb6).alloc (.cells #[.string q2.nm, .int .i64 q2.parts, .slice q2.PA q2.pn q2.pc, .slice q2.SA q2.sn q2.sc] 38))
  have X0 := hide ((Y0.out.below hb6 (by omega)).alloc (.cells #[.string q2.nm, .int .i64 q2.parts, .slice q2.PA q2.pn q2.pc, .slice q2.SA q2.sn q2.sc] 38))
  have X1 := hide ((Y1.out.below hb6 (by omega)).alloc (.cells #[.string q2.nm, .int .i64 q2.parts, .slice q2.PA q2.pn q2.pc, .slice q2.SA q2.sn q2.sc] 38))
  have X2 := hide (Blk.new w6 38 #[.string q2.nm, .int .i64 q2.parts, .slice q2.PA q2.pn q2.pc, .slice q2.SA q2.sn q2.sc])
  have bel6 := (bel5.trans (hb6.mono bel5.size)).alloc (by omega) (.cells #[.string q2.nm, .int .i64 q2.parts, .slice q2.PA q2.pn q2.pc, .slice q2.SA q2.sn q2.sc] 38)
  have K2 := hide (svK_of (ht2.trans T0.out.symm))
  have L2 := hide hl2
  have Ho2 := hide (ho2.alloc (.cells #[.string q2.nm, .int .i64 q2.parts, .slice q2.PA q2.pn q2.pc, .slice q2.SA q2.sn q2.sc] 38))
  clear hb6 bel5 HP5 HS5 ho5 ht2 hl2 ho2 Y0 Y1
  have r_0 : (w6.alloc (.cells #[.string q2.nm, .int .i64 q2.parts, .slice q2.PA q2.pn q2.pc, .slice q2.SA q2.sn q2.sc] 38)).cell? ⟨w1.heap.size, 0, none⟩ = some (.string q0.nm) := X0.out.cell 0
  have r_1 : (w6.alloc (.cells #[.string q2.nm, .int .i64 q2.parts, .slice q2.PA q2.pn q2.pc, .slice q2.SA q2.sn q2.sc] 38)).cell? ⟨w1.heap.size, 1, none⟩ = some (.int .i64 q0.parts) := X0.out.cell 1
  have r_2 : (w6.alloc (.cells #[.string q2.nm, .int .i64 q2.parts, .slice q2.PA q2.pn q2.pc, .slice q2.SA q2.sn q2.sc] 38)).cell? ⟨w1.heap.size, 2, none⟩ = some (.slice q0.PA q0.pn q0.pc) := X0.out.cell 2
  have r_3 : (w6.alloc (.cells #[.string q2.nm, .int .i64 q2.parts, .slice q2.PA q2.pn q2.pc, .slice q2.SA q2.sn q2.sc] 38)).cell? ⟨w1.heap.size, 3, none⟩ = some (.slice q0.SA q0.sn q0.sc) := X0.out.cell 3
  have x_0 : (w6.alloc (.cells #[.string q2.nm, .int .i64 q2.parts, .slice q2.PA q2.pn q2.pc, .slice q2.SA q2.sn q2.sc] 38)).cell? ⟨w6.heap.size, 0, none⟩ = some (.string q2.nm) := X2.out.cell 0
  have x_1 : (w6.alloc (.cells #[.string q2.nm, .int .i64 q2.parts, .slice q2.PA q2.pn q2.pc, .slice q2.SA q2.sn q2.sc] 38)).cell? ⟨w6.heap.size, 1, none⟩ = some (.int .i64 q2.parts) := X2.out.cell 1
  have x_2 : (w6.alloc (.cells #[.string q2.nm, .int .i64 q2.parts, .slice q2.PA q2.pn q2.pc, .slice q2.SA q2.sn q2.sc] 38)).cell? ⟨w6.heap.size, 2, none⟩ = some (.slice q2.PA q2.pn q2.pc) := X2.out.cell 2
  have x_3 : (w6.alloc (.cells #[.string q2.nm, .int .i64 q2.parts, .slice q2.PA q2.pn q2.pc, .slice q2.SA q2.sn q2.sc] 38)).cell? ⟨w6.heap.size, 3, none⟩ = some (.slice q2.SA q2.sn q2.sc) := X2.out.cell 3
  go_wp2_with fail
  refine (l_eqSaved Ho2.out.ok ho6.out.ok (Nat.le_refl _) (Nat.le_refl _) (svLe_up L2.out (by omega)) (svLe_up L0.out (by omega)) K2.out).mono ?_
  rintro e w7 ⟨rfl, hb7⟩
  have HP7 := hide (own_below HP6.out hb7)
  have HS7 := hide (own_below HS6.out hb7)
  have Y1 := hide (X1.out.below hb7 (by simp; omega))
  have bel7 := bel6.trans (hb7.mono bel6.size)
  clear hb7 bel6 HP6 HS6 ho6 X0 X1 X2 r_0 r_1 r_2 r_3 x_0 x_1 x_2 x_3
  have x_0 : w7.cell? ⟨w2.heap.size, 0, none⟩ = some (.string q1.nm) := Y1.out.cell 0
  have x_1 : w7.cell? ⟨w2.heap.size, 1, none⟩ = some (.int .i64 q1.parts) := Y1.out.cell 1
  have x_2 : w7.cell? ⟨w2.heap.size, 2, none⟩ = some (.slice q1.PA q1.pn q1.pc) := Y1.out.cell 2
  have x_3 : w7.cell? ⟨w2.heap.size, 3, none⟩ = some (.slice q1.SA q1.sn q1.sc) := Y1.out.cell 3
  go_wp2_with fail
  refine (l_heldSaved (Reads.of_own HP7.out) (Reads.of_own HS7.out) (Nat.le_refl _) (by omega) (by omega) L1.out).mono ?_
  rintro e w8 ⟨rfl, hb8⟩
  have bel8 := bel7.trans (hb8.mono bel7.size)
  clear hb8 bel7
  go_wp2
  go_ret
  exact ⟨rfl, bel8⟩
end Go.Proofs.Ytjfmjeffmnjilaa
