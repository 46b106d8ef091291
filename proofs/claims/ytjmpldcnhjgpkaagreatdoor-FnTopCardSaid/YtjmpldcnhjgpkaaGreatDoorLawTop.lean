/-
  The law FnTop returns true for all inputs.
-/
import Derived.Test.YtjmpldcnhjgpkaaGreatDoorTpH
import Derived.Deep.RegionHeld3
import Derived.Deep.RegionWith
import Derived.Deep.CutRange
import Derived.Deep.DeepCutAuto
namespace Go.Proofs.YtjmpldcnhjgpkaaGreatDoor
open Go.RowKit Mem Fl Go.Shelf
set_option linter.unusedVariables false
set_option maxRecDepth 100000

theorem tp_same {w W : World} {g g2 go : Nat} {LA LA' : Option Addr} {ln lc ln' lc' cap : Nat} {RA RA' : Option Addr} {rn rc rn' rc' : Nat} {D : Dk} (H : Tp w g LA ln lc RA rn rc D W) (K : Tp w g2 LA' ln' lc' RA' rn' rc' (Dz D) W) (hG : Good D) (hR : Reads W W.heap.size 2 (some ⟨go, 0, none⟩) ln (ll (srt D.lv (ln - 1)))) :
    Calls Tryz.prog 26 #[.agg (dkC LA' ln' lc' RA' rn' rc' (Dz D)), .agg (dkC (some ⟨go, 0, none⟩) ln cap RA rn rc D)] W fun e w' => e = .returned (.bool true) ∧ Below W.heap.size W w' := by
  have hln : D.lv.length = ln := lives_len H.r.l
  have wl : ∀ a ∈ (Dz D).lv, Wf .f32 a.1 := fun a ha => hG.lw a (srt_mem D.lv (D.lv.length - 1) (by have := livesOk_rng hG.lv; omega) a ha)
  have e : srt D.lv (ln - 1) = (Dz D).lv := by rw [← hln]; rfl
  rw [e] at hR
  have h := i_SameDesk (lc := lc') (lc' := cap) (rc := rc') (rc' := rc) (kd := D.kd) (st := D.st) (sz := D.sz) (ac := D.ac) (kd' := D.kd) (st' := D.st) (sz' := D.sz) (ac' := D.ac) (sh := D.sh) (sc := D.sc) (sh' := D.sh) (sc' := D.sc) (Nat.le_refl _) K.r.l hR K.r.r H.r.r (by have := K.r.l2; omega) (by have := H.r.l2; omega) (by have := K.r.r2; omega) (by have := H.r.r2; omega) wl wl hG.rw hG.rw hG.sw hG.cw hG.sw hG.cw
  have hs : sameDk (Dz D).lv (Dz D).lv D.kd D.kd D.sh D.sc D.sh D.sc D.st D.st (Dz D).rs D.rs D.sz D.ac D.sz D.ac = true := sameDk_refl _ _ _ _ _ _ _ _
  rw [hs] at h
  exact h
theorem tp_valid {w W : World} {g : Nat} {LA : Option Addr} {ln lc : Nat} {RA : Option Addr} {rn rc : Nat} {D : Dk} (H : Tp w g LA ln lc RA rn rc D W) (hk : dkOk D = true) :
    Calls Tryz.prog 15 #[.agg (dkC LA ln lc RA rn rc D)] W fun e w' => e = .returned (.bool true) ∧ Below W.heap.size W w' := by
  have h := i_ValidDesk (lc := lc) (rc := rc) (kd := D.kd) (sh := D.sh) (sc := D.sc) (st := D.st) (sz := D.sz) (ac := D.ac) (Nat.le_refl _) H.r.l H.r.r (by have := H.r.l2; omega) (by have := H.r.r2; omega)
  rw [show deskOk D.lv D.kd D.sh D.sc D.st D.rs D.sz D.ac = true from hk] at h
  exact h
set_option maxHeartbeats 16000000 in
theorem law_Top {A A' : Option Addr} {n n' c c' : Nat} {xs ys : List Int} {w : World} (h : Reads w w.heap.size 1 A n (xs.map (Value.int .u8))) (hx : ∀ a ∈ xs, (Lit.int .u8 a).wf = true) (h' : Reads w w.heap.size 1 A' n' (ys.map (Value.int .u8))) (hy : ∀ a ∈ ys, (Lit.int .u8 a).wf = true) (hG0 : Gl w) (hn : n ≤ 48) (hn' : n' ≤ 48) :
    Calls Tryz.prog 3 #[.slice A n c, .slice A' n' c'] w fun e w' => e = .returned (.bool true) ∧ Below w.heap.size w w' := by
  have hl' : ys.length = n' := h'.map_len
  have HR8 := hide (s_R8Desk (c := c) h hx (by omega))
  have HY := hide h'
  have HG0 := hide hG0
  have HF := hide (fun (k : Nat) (m : Int) (hk : k ≤ 1000) (h0 : 1 ≤ m) (hm : m ≤ 1000) => tpAt_fix (A := A') (c := c') hl' hy hn' hk h0 hm)
  have HLn := hide (tpLong_no (A := A) (A' := A') (c := c) (c' := c') (w := w) hn hn')
  clear h h' hx hy hG0 hl' hn hn'
  go_enter Tryz.func3, Tryz.ntmps3
  go_wp2_with fail
  refine HLn.out.mono ?_
  rintro e w1 ⟨rfl, rfl⟩
  clear HLn
  go_wp2_with fail
  refine HR8.out.mono ?_
  rintro e w1 ⟨LA, ln, lc, RA, rn, rc, D, rfl, hD, h8, hb1⟩
  obtain ⟨g, hg⟩ : ∃ g, w1.heap.size = g := ⟨_, rfl⟩
  obtain ⟨w2, hw2⟩ : ∃ w2, w2 = w1.alloc (.cells (dkC LA ln lc RA rn rc D) 34) := ⟨_, rfl⟩
  have HT2 : Hid (Tp w g LA ln lc RA rn rc D w2) := hide (by
    subst hw2
    have hb2 : Below w1.heap.size w1 (w1.alloc (.cells (dkC LA ln lc RA rn rc D) 34)) := (Below.refl _ _).alloc (Nat.le_refl _) _
    exact ⟨blk_new' _ _ _ _ hg.symm, (hD.below hb2 (Nat.le_refl _)).more hb2.size, (HG0.out.below hb1).below hb2, hb1.trans (hb2.mono hb1.size)⟩)
  have H8 := hide h8
  have hG := h8.good
  obtain ⟨pa, pb, b1, b2, b3, eb1, eb2⟩ := h8.pl
  have z1 : 1 ≤ D.sz := by omega
  have z2 : D.sz ≤ 8 := by omega
  have z3 : 0 ≤ D.ac := by omega
  have z4 : D.ac ≤ 3 := by omega
  have z5 : D.ac ≤ D.sz := by omega
  have HGd := hide hG
  clear hD h8 hb1 hG b1 b2 b3 eb1 eb2 HR8 HG0
  obtain ⟨v0, p0, q0, hv0⟩ := HF.out 0 10 (by omega) (by omega) (by omega)
  have HV0 : Hid (∀ q : BelW w2, Calls Tryz.prog 6 #[.slice A' n' c', .int .i64 0, .int .i64 10] q.v fun e w' => e = .returned (.int .i64 v0) ∧ Below q.v.heap.size q.v w') := hide (fun q => hv0 q.v ((HY.out.below (HT2.out.h.trans (q.h.mono HT2.out.h.size))).more (HT2.out.h.trans (q.h.mono HT2.out.h.size)).size))
  have c6 : w2.cell? ⟨g, 6, none⟩ = some (.int .i64 D.sz) := HT2.out.b.cell 6
  have D6 : ∀ q : BelW w2, q.v.cell? ⟨g, 6, none⟩ = some (.int .i64 D.sz) := cell_bel HT2.out.b.lt c6
  clear hv0 c6
  go_wp2
  try rw [← hw2]
  clear hw2 hg
  refine wp_region_quiet_bel (by kernel_rfl) (by kernel_rfl) ?_
  repeat (go_big_quiet_step ((go_at_call 6; exact Calls.bel_of (HV0.out _))))
  refine wpQuiet_nil ?_
  intro w9 hw'
  obtain ⟨p, rfl⟩ := hw'
  have hqb := p.h
  generalize p.v = wq at hqb ⊢
  clear p
  have HT3 := hide (HT2.out.step hqb)
  clear hqb HT2 D6 HV0
  obtain ⟨lot, hlot⟩ : ∃ lot, D.sz + v0 = lot := ⟨_, rfl⟩
  have l1 : 1 ≤ lot := by omega
  have l2 : lot ≤ 17 := by omega
  have l3 : D.sz ≤ lot := by omega
  have HLot := hide hlot
  have R3 := hide (fun (W : World) (H : Tp w g LA ln lc RA rn rc D W) => (HY.out.below H.h).more H.h.size)
  try rw [hlot]
  clear hlot p0 q0
  obtain ⟨bad, p1, q1, hv1⟩ := HF.out 1 (lot + 1) (by omega) (by omega) (by omega)
  replace hv1 := hide hv1
  go_wp2_with fail
  refine (hv1.out _ (R3.out _ HT3.out)).mono ?_
  rintro e w4 ⟨rfl, hb⟩
  have Hw4 := hide (HT3.out.step hb)
  clear hb HT3
  clear hv1
  have hbl : bad ≤ lot := by omega
  obtain ⟨v2, p2, q2, hv2⟩ := HF.out 2 16 (by omega) (by omega) (by omega)
  replace hv2 := hide hv2
  obtain ⟨p, rfl⟩ := Int.eq_ofNat_of_zero_le p2
  have hp : p < 16 := by omega
  have e2 : ∀ W, flR .quo .f32 (floatOfInt .f32 ((1 : Int) + (p : Int))) 1082130432 W = r8x p := flR_num (r8x_tab p hp).1
  go_wp2_with fail
  refine (hv2.out _ (R3.out _ Hw4.out)).mono ?_
  rintro e w5 ⟨rfl, hb⟩
  have Hw5 := hide (Hw4.out.step hb)
  clear hb Hw4
  clear hv2 R3 HF HY
  obtain ⟨m, hst, hrs, hcw⟩ : ∃ m : Nat, D.st = (m : Int) ∧ D.rs.length = m * m ∧ Cw m D.rs := by
    obtain ⟨m, m1, m4, em, emm, hP⟩ := H8.out.ch
    exact ⟨m, em, emm, hP.cw m1 m4 emm⟩
  have m4 : m ≤ 4 := hcw.n4
  have HST := hide hst
  have HRS := hide hrs
  have HCW := hide hcw
  have hlo : lotOk lot D.sz D.ac = true := by unfold lotOk planOkT inB; simp; omega
  have HLO := hide hlo
  obtain ⟨k1, hk1⟩ : ∃ b, b = ok1 D lot bad := ⟨_, rfl⟩
  obtain ⟨k2, hk2⟩ : ∃ b, b = ok2 D lot bad := ⟨_, rfl⟩
  have HK1 := hide hk1
  have HK2 := hide hk2
  have HZ := hide (tp_sizes (lot := lot) (bad := bad) H8.out hst m4 (r8x p) (by omega) (by omega))
  clear hst hrs hcw hlo hk1 hk2
  have cLives := hide (fun (W : World) (H : Tp w g LA ln lc RA rn rc D W) => i_LivesText (c := lc) HGd.out.lv H.r.l HGd.out.lw H.G.db)
  have cLaw : Hid (∀ (W : World) (H : Tp w g LA ln lc RA rn rc D W), Calls Tryz.prog 8 #[.agg #[.int .i64 D.kd, .float .f32 D.sh, .float .f32 D.sc]] W fun e w' => e = .returned (.tuple #[.string (lawS D), .bool true]) ∧ Below W.heap.size W w') := hide (fun W H => i_LawText HGd.out.kw HGd.out.sw HGd.out.cw H.G.db)
  have cChn : Hid (∀ (W : World) (H : Tp w g LA ln lc RA rn rc D W), Calls Tryz.prog 9 #[.agg #[.int .i64 D.st, .slice RA rn rc]] W fun e w' => e = .returned (.tuple #[.string (chnS D), .bool true]) ∧ Below W.heap.size W w') := hide (fun W H => i_ChainText (c := rc) HGd.out.ch H.r.r (by have := H.r.r2; omega) HGd.out.rw H.G.db)
  have cPln := hide (fun (W : World) => i_PlanText (w := W) HGd.out.pl)
  have cX : Hid (∀ (W : World) (H : Tp w g LA ln lc RA rn rc D W) (o : TypeId), Calls Tryz.prog 11 #[.slice (some ⟨W.heap.size, 0, none⟩) 1 1] (W.alloc (.cells #[.float .f32 (r8x p)] o)) fun e w' => e = .returned (.tuple #[.string (numT [r8x p]), .bool true]) ∧ Below W.heap.size W w') := hide (fun W H o => tp_num H (r8x_tab p hp).2.2.1 o)
  -- region 7
  have c0 : w5.cell? ⟨g, 0, none⟩ = some (.slice LA ln lc) := Hw5.out.b.cell 0
  go_wp2_with fail
  refine (cLives.out _ (Hw5.out.drewN _)).mono ?_
  rintro e w6 ⟨rfl, hb⟩
  have Hw6 := hide ((Hw5.out.drewN _).step hb)
  clear hb Hw5
  clear c0 cLives
  have c1 : w6.cell? ⟨g, 1, none⟩ = some (.int .i64 D.kd) := Hw6.out.b.cell 1
  have c2 : w6.cell? ⟨g, 2, none⟩ = some (.float .f32 D.sh) := Hw6.out.b.cell 2
  have c3 : w6.cell? ⟨g, 3, none⟩ = some (.float .f32 D.sc) := Hw6.out.b.cell 3
  go_wp2_with fail
  refine (cLaw.out _ Hw6.out).mono ?_
  rintro e w7 ⟨rfl, hb⟩
  have Hw7 := hide (Hw6.out.step hb)
  clear hb Hw6
  clear c1 c2 c3 cLaw
  have c4 : w7.cell? ⟨g, 4, none⟩ = some (.int .i64 D.st) := Hw7.out.b.cell 4
  have c5 : w7.cell? ⟨g, 5, none⟩ = some (.slice RA rn rc) := Hw7.out.b.cell 5
  go_wp2_with fail
  refine (cChn.out _ Hw7.out).mono ?_
  rintro e w8 ⟨rfl, hb⟩
  have Hw8 := hide (Hw7.out.step hb)
  clear hb Hw7
  clear c4 c5 cChn
  have c6 : w8.cell? ⟨g, 6, none⟩ = some (.int .i64 D.sz) := Hw8.out.b.cell 6
  have c7 : w8.cell? ⟨g, 7, none⟩ = some (.int .i64 D.ac) := Hw8.out.b.cell 7
  go_wp2_with fail
  refine (cPln.out _).mono ?_
  rintro e w9 ⟨rfl, hb⟩
  have Hw9 := hide (Hw8.out.step hb)
  clear hb Hw8
  clear c6 c7 cPln
  go_wp2_with fail
  refine (cX.out _ Hw9.out _).mono ?_
  rintro e w10 ⟨rfl, hb⟩
  have Hw10 := hide (Hw9.out.step hb)
  clear hb Hw9
  clear cX
  go_wp2_with fail
  refine (i_DecimalS lot (by omega) (by omega) _).mono ?_
  rintro e w' ⟨rfl, hww⟩
  subst hww
  obtain ⟨a1, a2, ra1, ra2, za, ea⟩ := pair_runs (a := numS lot) (b := numS bad) HZ.out.2.2.2.2.2.2.2.2.2.2.1 HZ.out.2.2.2.2.2.2.2.2.2.2.2
  have EA := hide ea
  clear ea
  go_wp2_with fail
  refine (i_DecimalS bad (by omega) (by omega) _).mono ?_
  rintro e w' ⟨rfl, hww⟩
  subst hww
  have za2 : a2.size ≤ 1000 := by
    rw [EA.out]
    unfold pairB
    rw [ByteArray.size_append, ByteArray.size_append]
    have n1 : (numS lot).size ≤ 17 := numS_sz (by omega)
    have n2 : (numS bad).size ≤ 17 := numS_sz (by omega)
    have n3 : (⟨#[32]⟩ : ByteArray).size = 1 := rfl
    omega
  obtain ⟨s1, s2, s3, s4, s5, s6, s7, s8, s9, s10, s11, s12, s13, s14, r1, r2, r3, r4, r5, r6, r7, r8, r9, r10, r11, r12, r13, r14, zs, es⟩ := script_runs (a := livesB D.lv) (b := lawS D) (c := chnS D) (e := planS D.sz D.ac) (f := numT [r8x p]) (t := a2) HZ.out.1 HZ.out.2.1 HZ.out.2.2.1 HZ.out.2.2.2.1 HZ.out.2.2.2.2.2.2.2.2.2.1 za2
  have ES : Hid (s14 = scriptD D (r8x p) lot bad) := hide (by rw [es, EA.out]; rfl)
  have cRun : Hid (∀ (W : World) (v : Value), DkV W v D0 → Gl W → Calls Tryz.prog 13 #[v, .string s14] W fun e w' => ∃ v', e = .returned (.tuple #[v', .string (wantD D (r8x p) lot bad m), .bool true]) ∧ DkV w' v' (Dz D) ∧ Below W.heap.size W w') := hide (fun W v hv G => by
    have hsz : (scriptD D (r8x p) lot bad).size ≤ 16000 := by rw [← ES.out]; omega
    have := tp_run H8.out hp HST.out HRS.out HCW.out HLO.out p1 hbl hv G hsz
    rw [← ES.out] at this
    exact this)
  clear es za za2
  go_wp2_with fail
  clear ra1 ra2 r1 r2 r3 r4 r5 r6 r7 r8 r9 r10 r11 r12 r13 r14
  refine (tp_new _).mono ?_
  rintro e w11 ⟨v, rfl, hv, hb⟩
  have Hw11 := hide (Hw10.out.step hb)
  have cR2 := hide (cRun.out _ _ hv Hw11.out.G)
  clear hv hb Hw10 cRun
  go_wp2_with fail
  refine cR2.out.mono ?_
  rintro e w12 ⟨v', rfl, hv', hb⟩
  obtain ⟨LA', ln', lc', RA', rn', rc', rfl, hR'⟩ := hv'
  obtain ⟨g2, hg2⟩ : ∃ g2, w12.heap.size = g2 := ⟨_, rfl⟩
  obtain ⟨w13, hw13⟩ : ∃ w13, w13 = w12.alloc (.cells (dkC LA' ln' lc' RA' rn' rc' (Dz D)) 34) := ⟨_, rfl⟩
  have Hw12 := hide (Hw11.out.step hb)
  have Hw13 : Hid (Tp w g LA ln lc RA rn rc D w13) := hide (by rw [hw13]; exact Hw12.out.al _)
  have Kw13 : Hid (Tp w g2 LA' ln' lc' RA' rn' rc' (Dz D) w13) := hide (by
    have hb2 : Below w12.heap.size w12 w13 := by rw [hw13]; exact (Below.refl _ _).alloc (Nat.le_refl _) _
    exact ⟨by rw [hw13]; exact blk_new' _ _ _ _ hg2.symm, (hR'.below hb2 (Nat.le_refl _)).more hb2.size, Hw13.out.G, Hw13.out.h⟩)
  clear hb hR' Hw11 Hw12 cR2 ES EA
  have y0 : w13.cell? ⟨g2, 0, none⟩ = some (.slice LA' ln' lc') := Kw13.out.b.cell 0
  have y1 : w13.cell? ⟨g2, 1, none⟩ = some (.int .i64 D.kd) := Kw13.out.b.cell 1
  have y2 : w13.cell? ⟨g2, 2, none⟩ = some (.float .f32 D.sh) := Kw13.out.b.cell 2
  have y3 : w13.cell? ⟨g2, 3, none⟩ = some (.float .f32 D.sc) := Kw13.out.b.cell 3
  have y4 : w13.cell? ⟨g2, 4, none⟩ = some (.int .i64 D.st) := Kw13.out.b.cell 4
  have y5 : w13.cell? ⟨g2, 5, none⟩ = some (.slice RA' rn' rc') := Kw13.out.b.cell 5
  have y6 : w13.cell? ⟨g2, 6, none⟩ = some (.int .i64 D.sz) := Kw13.out.b.cell 6
  have y7 : w13.cell? ⟨g2, 7, none⟩ = some (.int .i64 D.ac) := Kw13.out.b.cell 7
  go_wp2_with fail
  rw [← hw13]
  try rw [hg2]
  refine (tp_valid Kw13.out (Dz.ok HGd.out)).mono ?_
  rintro e w14 ⟨rfl, hb⟩
  have Hw14 := hide (Hw13.out.step hb)
  have Kw14 := hide (Kw13.out.step hb)
  clear hb Hw13 Kw13 y0 y1 y2 y3 y4 y5 y6 y7 hw13 hg2
  have cFail : Hid (∀ (W : World) (H : Tp w g LA ln lc RA rn rc D W), Calls Tryz.prog 16 #[.slice LA ln lc] W fun e w' => e = .returned (.tuple #[.int .i64 (cntF D.lv : Int), .bool true]) ∧ Below W.heap.size W w') := hide (fun W H => i_CountFailed (c := lc) H.r.l (Nat.le_refl _) (by have := H.r.l2; omega) HGd.out.lv)
  have cSum : Hid (∀ (W : World) (H : Tp w g LA ln lc RA rn rc D W), Calls Tryz.prog 17 #[.slice LA ln lc] W fun e w' => e = .returned (.tuple #[.float .f32 (lfSum D.lv D.lv.length), .bool true]) ∧ Below W.heap.size W w') := hide (fun W H => by
    have hln : D.lv.length = ln := lives_len H.r.l
    rw [hln]
    exact i_TimeOfTest (c := lc) H.r.l (Nat.le_refl _) (by have := H.r.l2; omega) HGd.out.lv (fun k hk => (H8.out.lv.sum H8.out.l8 k (by omega)).1))
  have cSumT : Hid (∀ (W : World) (H : Tp w g LA ln lc RA rn rc D W) (o : TypeId), Calls Tryz.prog 11 #[.slice (some ⟨W.heap.size, 0, none⟩) 1 1] (W.alloc (.cells #[.float .f32 (lfSum D.lv D.lv.length)] o)) fun e w' => e = .returned (.tuple #[.string (sumS D), .bool true]) ∧ Below W.heap.size W w') := hide (fun W H o => tp_num H (lfSum_wf _ _) o)
  have cTab := hide (fun (W : World) (H : Tp w g LA ln lc RA rn rc D W) => tp_table H HGd.out)
  have cSur : Hid (∀ (W : World), Calls Tryz.prog 19 #[.agg #[.int .i64 D.kd, .float .f32 D.sh, .float .f32 D.sc], .float .f32 (r8x p)] W fun e w' => e = .returned (.tuple #[.float .f32 (survN D.kd D.sh D.sc (r8x p)), .bool true]) ∧ Below W.heap.size W w') := hide (fun W => i_LawSurvives HGd.out.kw (r8x_tab p hp).2.2.2.2.2.2 (H8.out.law hp))
  have cSurT : Hid (∀ (W : World) (H : Tp w g LA ln lc RA rn rc D W) (o : TypeId), Calls Tryz.prog 11 #[.slice (some ⟨W.heap.size, 0, none⟩) 1 1] (W.alloc (.cells #[.float .f32 (survN D.kd D.sh D.sc (r8x p))] o)) fun e w' => e = .returned (.tuple #[.string (surS D (r8x p)), .bool true]) ∧ Below W.heap.size W w') := hide (fun W H o => tp_num H (survN_wf (H8.out.law hp)) o)
  have cBal : Hid (∀ (W : World) (H : Tp w g LA ln lc RA rn rc D W), Calls Tryz.prog 20 #[.agg #[.int .i64 D.st, .slice RA rn rc]] W fun e w' => ∃ A c, e = .returned (.tuple #[.slice A m c, .bool true]) ∧ Reads w' w'.heap.size 1 A m (fl .f32 (balL D.rs m)) ∧ Below W.heap.size W w') := hide (fun W H => by rw [HST.out]; exact tp_bal H HRS.out.symm HCW.out)
  have cAcc : Hid (∀ (W : World), Calls Tryz.prog 21 #[.int .i64 lot, .int .i64 bad, .agg #[.int .i64 D.sz, .int .i64 D.ac]] W fun e w' => e = .returned (.tuple #[.int .i64 (acA D lot bad), .int .i64 (acB D lot bad), .bool true]) ∧ Below W.heap.size W w') := hide (fun W => i_AcceptShare HLO.out p1 hbl)
  have cAccT : Hid (∀ (W : World) (H : Tp w g LA ln lc RA rn rc D W) (o : TypeId), Calls Tryz.prog 22 #[.slice (some ⟨W.heap.size, 0, none⟩) 2 2] (W.alloc (.cells #[.int .i64 (acA D lot bad), .int .i64 (acB D lot bad)] o)) fun e w' => e = .returned (.tuple #[.string (kT D lot bad), .bool k1]) ∧ Below W.heap.size W w') := hide (fun W H o => by rw [HK1.out]; exact tp_two H o)
  have cMl : Hid (∀ (W : World), Calls Tryz.prog 23 #[.int .i64 lot, .int .i64 bad, .agg #[.int .i64 D.sz, .int .i64 D.ac]] W fun e w' => e = .returned (.tuple #[.int .i64 (mlA D lot bad), .int .i64 (mlB D lot bad), .bool true]) ∧ Below W.heap.size W w') := hide (fun W => i_MeanLooks HLO.out p1 hbl)
  have cMlT : Hid (∀ (W : World) (H : Tp w g LA ln lc RA rn rc D W) (o : TypeId), Calls Tryz.prog 22 #[.slice (some ⟨W.heap.size, 0, none⟩) 2 2] (W.alloc (.cells #[.int .i64 (mlA D lot bad), .int .i64 (mlB D lot bad)] o)) fun e w' => e = .returned (.tuple #[.string (lT D lot bad), .bool k2]) ∧ Below W.heap.size W w') := hide (fun W H o => by rw [HK2.out]; exact tp_two H o)
  have cOrd := hide (fun (W : World) (H : Tp w g LA ln lc RA rn rc D W) => i_OrderLives (c := lc) H.r.l (Nat.le_refl _) H.r.l1 (by have h1 := lives_len H.r.l; have h2 := H8.out.l8; omega) HGd.out.lv)
  have hWB : Hid (∀ y ∈ balL D.rs m, Wf .f32 y) := hide (balL_wf HCW.out)
  have c0 : w14.cell? ⟨g, 0, none⟩ = some (.slice LA ln lc) := Hw14.out.b.cell 0
  go_wp2_with fail
  refine (cFail.out _ Hw14.out).mono ?_
  rintro e w15 ⟨rfl, hb⟩
  have Hw15 := hide (Hw14.out.step hb)
  have Kw15 := hide (Kw14.out.step hb)
  clear hb Hw14 Kw14
  clear c0
  have c0 : w15.cell? ⟨g, 0, none⟩ = some (.slice LA ln lc) := Hw15.out.b.cell 0
  go_wp2_with fail
  refine (cSum.out _ Hw15.out).mono ?_
  rintro e w16 ⟨rfl, hb⟩
  have Hw16 := hide (Hw15.out.step hb)
  have Kw16 := hide (Kw15.out.step hb)
  clear hb Hw15 Kw15
  clear c0
  go_wp2_with fail
  refine (cSumT.out _ Hw16.out _).mono ?_
  rintro e w17 ⟨rfl, hb⟩
  have Hw17 := hide (Hw16.out.step hb)
  have Kw17 := hide (Kw16.out.step hb)
  clear hb Hw16 Kw16
  have c0 : w17.cell? ⟨g, 0, none⟩ = some (.slice LA ln lc) := Hw17.out.b.cell 0
  go_wp2_with fail
  refine (cTab.out _ Hw17.out).mono ?_
  rintro e w18 ⟨TA, tm, tcp, ts, rfl, hR, hw, h8', hT, hb⟩
  have Hw18 := hide (Hw17.out.step hb)
  have Kw18 := hide (Kw17.out.step hb)
  have cTabT := hide (tp_many (c := tcp) Hw18.out hR hw (by omega))
  rw [hT] at cTabT
  clear hb Hw17 Kw17 hR hw h8' hT c0 cTab
  go_wp2_with fail
  refine (cTabT.out).mono ?_
  rintro e w19 ⟨rfl, hb⟩
  have Hw19 := hide (Hw18.out.step hb)
  have Kw19 := hide (Kw18.out.step hb)
  clear hb Hw18 Kw18
  have c1 : w19.cell? ⟨g, 1, none⟩ = some (.int .i64 D.kd) := Hw19.out.b.cell 1
  have c2 : w19.cell? ⟨g, 2, none⟩ = some (.float .f32 D.sh) := Hw19.out.b.cell 2
  have c3 : w19.cell? ⟨g, 3, none⟩ = some (.float .f32 D.sc) := Hw19.out.b.cell 3
  go_wp2_with fail
  refine (cSur.out _).mono ?_
  rintro e w20 ⟨rfl, hb⟩
  have Hw20 := hide (Hw19.out.step hb)
  have Kw20 := hide (Kw19.out.step hb)
  clear hb Hw19 Kw19
  clear c1 c2 c3
  go_wp2_with fail
  refine (cSurT.out _ Hw20.out _).mono ?_
  rintro e w21 ⟨rfl, hb⟩
  have Hw21 := hide (Hw20.out.step hb)
  have Kw21 := hide (Kw20.out.step hb)
  clear hb Hw20 Kw20
  have c4 : w21.cell? ⟨g, 4, none⟩ = some (.int .i64 D.st) := Hw21.out.b.cell 4
  have c5 : w21.cell? ⟨g, 5, none⟩ = some (.slice RA rn rc) := Hw21.out.b.cell 5
  go_wp2_with fail
  refine (cBal.out _ Hw21.out).mono ?_
  rintro e w22 ⟨BA, bcp, rfl, hR, hb⟩
  have Hw22 := hide (Hw21.out.step hb)
  have Kw22 := hide (Kw21.out.step hb)
  have cBalT := hide (tp_many (c := bcp) Hw22.out hR hWB.out (by omega))
  clear hb Hw21 Kw21 hR c4 c5 cBal
  go_wp2_with fail
  refine (cBalT.out).mono ?_
  rintro e w23 ⟨rfl, hb⟩
  have Hw23 := hide (Hw22.out.step hb)
  have Kw23 := hide (Kw22.out.step hb)
  clear hb Hw22 Kw22
  have c6 : w23.cell? ⟨g, 6, none⟩ = some (.int .i64 D.sz) := Hw23.out.b.cell 6
  have c7 : w23.cell? ⟨g, 7, none⟩ = some (.int .i64 D.ac) := Hw23.out.b.cell 7
  go_wp2_with fail
  refine (cAcc.out _).mono ?_
  rintro e w24 ⟨rfl, hb⟩
  have Hw24 := hide (Hw23.out.step hb)
  have Kw24 := hide (Kw23.out.step hb)
  clear hb Hw23 Kw23
  clear c6 c7
  go_wp2_with fail
  refine (cAccT.out _ Hw24.out _).mono ?_
  rintro e w25 ⟨rfl, hb⟩
  have Hw25 := hide (Hw24.out.step hb)
  have Kw25 := hide (Kw24.out.step hb)
  clear hb Hw24 Kw24
  have c6 : w25.cell? ⟨g, 6, none⟩ = some (.int .i64 D.sz) := Hw25.out.b.cell 6
  have c7 : w25.cell? ⟨g, 7, none⟩ = some (.int .i64 D.ac) := Hw25.out.b.cell 7
  go_wp2_with fail
  refine (cMl.out _).mono ?_
  rintro e w26 ⟨rfl, hb⟩
  have Hw26 := hide (Hw25.out.step hb)
  have Kw26 := hide (Kw25.out.step hb)
  clear hb Hw25 Kw25
  clear c6 c7
  go_wp2_with fail
  refine (cMlT.out _ Hw26.out _).mono ?_
  rintro e w27 ⟨rfl, hb⟩
  have Hw27 := hide (Hw26.out.step hb)
  have Kw27 := hide (Kw26.out.step hb)
  clear hb Hw26 Kw26
  have c0 : w27.cell? ⟨g, 0, none⟩ = some (.slice LA ln lc) := Hw27.out.b.cell 0
  go_wp2_with fail
  refine (cOrd.out _ Hw27.out).mono ?_
  rintro e w28 ⟨go, ocp, rfl, _, hR, hb⟩
  have Hw28 := hide (Hw27.out.step hb)
  have Kw28 := hide (Kw27.out.step hb)
  have Rw28 := hide (rowL_reads hR)
  clear hb Hw27 Kw27 hR c0 cOrd
  clear cFail cSum cSumT cTabT cSur cSurT cBalT cAcc cAccT cMl cMlT hWB e2
  go_upto_if 308 with (fail)
  obtain ⟨q1, hq1⟩ : ∃ q : Int, q = 1 + (if k1 = true then 0 else 1) := ⟨_, rfl⟩
  obtain ⟨q2, hq2⟩ : ∃ q : Int, q = q1 + (if k2 = true then 0 else 1) := ⟨_, rfl⟩
  have q1a : 1 ≤ q1 ∧ q1 ≤ 2 := by rw [hq1]; split <;> omega
  have q2a : 1 ≤ q2 ∧ q2 ≤ 3 := by rw [hq2]; split <;> omega
  have HW : Hid (wrongN (ok1 D lot bad) (ok2 D lot bad) = q2) := hide (by rw [hq2, hq1, HK1.out, HK2.out]; rfl)
  have HQ1 := hide hq1
  have HQ2 := hide hq2
  clear hq1 hq2
  have q1b := q1a.1
  have q1c := q1a.2
  have q2b := q2a.1
  have q2c := q2a.2
  clear q1a q2a
  go_cut [45, 54] from 307 to 310 (fun s45 s54 wx => s45 = .string (yesT k1 (kT D lot bad)) ∧ s54 = .int .i64 q1 ∧ wx = w28)
  case first =>
    cases k1 with
    | true =>
      go_wp2_with fail
      go_meet
      exact ⟨rfl, by rw [HQ1.out]; rfl, rfl⟩
    | false =>
      go_wp2_with fail
      go_meet
      exact ⟨rfl, by rw [HQ1.out]; rfl, rfl⟩
  case rest =>
    obtain ⟨rfl, rfl, hwc⟩ := hcut
    subst hwc
    go_upto_if 312 with (fail)
    go_cut [50, 54] from 311 to 314 (fun s50 s54 wx => s50 = .string (yesT k2 (lT D lot bad)) ∧ s54 = .int .i64 q2 ∧ wx = wc)
    case first =>
      cases k2 with
      | true =>
        go_wp2_with fail
        go_meet
        exact ⟨rfl, by rw [HQ2.out]; simp, rfl⟩
      | false =>
        go_wp2_with fail
        go_meet
        exact ⟨rfl, by rw [HQ2.out]; simp, rfl⟩
    case rest =>
    obtain ⟨rfl, rfl, hwc⟩ := hcut
    subst hwc
    have z13 : (yesT k1 (kT D lot bad)).size ≤ 1000 := by rw [HK1.out]; exact Nat.le_trans (list_size _ _) (by decide)
    have z14 : (yesT k2 (lT D lot bad)).size ≤ 1000 := by rw [HK2.out]; exact Nat.le_trans (list_size _ _) (by decide)
    obtain ⟨f1, f2, f3, f4, f5, f6, f7, f8, f9, f10, f11, f12, f13, f14, f15, f16, f17, f18, f19, f20, f21, f22, rf1, rf2, rf3, rf4, rf5, rf6, rf7, rf8, rf9, rf10, rf11, rf12, rf13, rf14, rf15, rf16, rf17, rf18, rf19, rf20, rf21, rf22, zf, ef⟩ := want_runs (a := livesB D.lv) (b := lawS D) (c := chnS D) (e := planS D.sz D.ac) (f := failS D) (g := sumS D) (h := tabT D.lv) (i := surS D (r8x p)) (j := numT (balL D.rs m)) (k := yesT k1 (kT D lot bad)) (l := yesT k2 (lT D lot bad)) HZ.out.1 HZ.out.2.1 HZ.out.2.2.1 HZ.out.2.2.2.1 HZ.out.2.2.2.2.1 HZ.out.2.2.2.2.2.1 HZ.out.2.2.2.2.2.2.1 HZ.out.2.2.2.2.2.2.2.1 HZ.out.2.2.2.2.2.2.2.2.1 z13 z14
    have EF : Hid (f22 = wantD D (r8x p) lot bad m) := hide (by rw [ef, HK1.out, HK2.out]; rfl)
    clear ef z13 z14
    have hc8 : (cntF D.lv : Int) < 100 := by have h1 : cntF D.lv ≤ D.lv.length := List.countP_le_length; have h2 := H8.out.l8; omega
    have hsame : ((wantD D (r8x p) lot bad m).toList == f22.toList) = true := by rw [EF.out]; simp
    have cCnt := hide (tp_count (lot := lot) (bad := bad) (n := m) (W := wc) H8.out (r8x p) Hw28.out.G.m2 (by rw [← EF.out]; exact zf))
    rw [HW.out] at cCnt
    go_wp2_with fail
    refine (i_DecimalS (cntF D.lv : Int) (by omega) hc8 _).mono ?_
    rintro e w' ⟨rfl, hww⟩
    subst hww
    have eF : numS (cntF D.lv : Int) = failS D := rfl
    try rw [eF]
    clear eF
    go_wp2_with fail
    clear rf1 rf2 rf3 rf4 rf5 rf6 rf7 rf8 rf9 rf10 rf11 rf12 rf13 rf14 rf15 rf16 rf17 rf18 rf19 rf20 rf21 rf22
    refine cCnt.out.mono ?_
    rintro e w29 ⟨rfl, hb⟩
    have Hw29 := hide (Hw28.out.step hb)
    have Kw29 := hide (Kw28.out.step hb)
    have Rw29 := hide ((Rw28.out.below hb).more hb.size)
    clear hb Hw28 Kw28 Rw28 cCnt
    have m1 : (q2 == q2) = true := by simp
    have m2 : ((17 : Int) - q2 == 17 - q2) = true := by simp
    have c1 : w29.cell? ⟨g, 1, none⟩ = some (.int .i64 D.kd) := Hw29.out.b.cell 1
    have c2 : w29.cell? ⟨g, 2, none⟩ = some (.float .f32 D.sh) := Hw29.out.b.cell 2
    have c3 : w29.cell? ⟨g, 3, none⟩ = some (.float .f32 D.sc) := Hw29.out.b.cell 3
    have c4 : w29.cell? ⟨g, 4, none⟩ = some (.int .i64 D.st) := Hw29.out.b.cell 4
    have c5 : w29.cell? ⟨g, 5, none⟩ = some (.slice RA rn rc) := Hw29.out.b.cell 5
    have c6 : w29.cell? ⟨g, 6, none⟩ = some (.int .i64 D.sz) := Hw29.out.b.cell 6
    have c7 : w29.cell? ⟨g, 7, none⟩ = some (.int .i64 D.ac) := Hw29.out.b.cell 7
    have y0 : w29.cell? ⟨g2, 0, none⟩ = some (.slice LA' ln' lc') := Kw29.out.b.cell 0
    have y1 : w29.cell? ⟨g2, 1, none⟩ = some (.int .i64 D.kd) := Kw29.out.b.cell 1
    have y2 : w29.cell? ⟨g2, 2, none⟩ = some (.float .f32 D.sh) := Kw29.out.b.cell 2
    have y3 : w29.cell? ⟨g2, 3, none⟩ = some (.float .f32 D.sc) := Kw29.out.b.cell 3
    have y4 : w29.cell? ⟨g2, 4, none⟩ = some (.int .i64 D.st) := Kw29.out.b.cell 4
    have y5 : w29.cell? ⟨g2, 5, none⟩ = some (.slice RA' rn' rc') := Kw29.out.b.cell 5
    have y6 : w29.cell? ⟨g2, 6, none⟩ = some (.int .i64 D.sz) := Kw29.out.b.cell 6
    have y7 : w29.cell? ⟨g2, 7, none⟩ = some (.int .i64 D.ac) := Kw29.out.b.cell 7
    go_wp2_with fail
    refine (tp_same Hw29.out Kw29.out HGd.out Rw29.out).mono ?_
    rintro e w30 ⟨rfl, hb⟩
    have HB := hide (Hw29.out.h.trans (hb.mono Hw29.out.h.size))
    clear hb
    go_wp2
    go_ret
    exact ⟨rfl, HB.out⟩
theorem law_TopAll {A A' : Option Addr} {n n' c c' : Nat} {xs ys : List Int} {w : World} (h : Reads w w.heap.size 1 A n (xs.map (Value.int .u8))) (hx : ∀ a ∈ xs, (Lit.int .u8 a).wf = true) (h' : Reads w w.heap.size 1 A' n' (ys.map (Value.int .u8))) (hy : ∀ a ∈ ys, (Lit.int .u8 a).wf = true) (hG0 : Gl w) :
    Calls Tryz.prog 3 #[.slice A n c, .slice A' n' c'] w fun e w' => e = .returned (.bool true) ∧ Below w.heap.size w w' := by
  by_cases hn : n ≤ 48
  · by_cases hn' : n' ≤ 48
    · exact law_Top h hx h' hy hG0 hn hn'
    · have hl := tpLong_yes (A := A) (A' := A') (n := n) (n' := n') (c := c) (c' := c') (w := w) (.inr (by omega))
      go_enter Tryz.func3, Tryz.ntmps3
      go_wp2_with fail
      refine hl.mono ?_
      rintro e w1 ⟨rfl, rfl⟩
      go_wp2
      go_ret
      exact ⟨rfl, Below.refl _ _⟩
  · have hl := tpLong_yes (A := A) (A' := A') (n := n) (n' := n') (c := c) (c' := c') (w := w) (.inl (by omega))
    go_enter Tryz.func3, Tryz.ntmps3
    go_wp2_with fail
    refine hl.mono ?_
    rintro e w1 ⟨rfl, rfl⟩
    go_wp2
    go_ret
    exact ⟨rfl, Below.refl _ _⟩
end Go.Proofs.YtjmpldcnhjgpkaaGreatDoor
