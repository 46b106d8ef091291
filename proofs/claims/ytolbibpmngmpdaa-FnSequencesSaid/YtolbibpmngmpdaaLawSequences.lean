/-
  The law FnSequences returns true for all arguments, and writes nothing that was there.
-/
import Derived.Test.YtolbibpmngmpdaaSqD
import Derived.Deep.RegionHeld3
import Derived.Deep.CutRange
import Derived.BigQuiet
import Derived.Deep.QuietTactic
namespace Go.Proofs.Ytolbibpmngmpdaa
open Go.RowKit Fl Mem
set_option linter.unusedVariables false
set_option maxRecDepth 100000

set_option maxHeartbeats 8000000 in
theorem law_Sequences (A0 : Option Addr) (n0 c0 : Nat) (xs0 : List Int) (A1 : Option Addr) (n1 c1 : Nat) (xs1 : List Int) (w : World)
    (hA0 : Reads w w.heap.size 1 A0 n0 (xs0.map (Value.int .u8))) (hn0 : n0 ≤ c0) (hc0 : c0 ≤ maxLen) (hw0 : ∀ a ∈ xs0, (Lit.int .u8 a).wf = true)
    (hA1 : Reads w w.heap.size 1 A1 n1 (xs1.map (Value.int .u8))) (hn1 : n1 ≤ c1) (hc1 : c1 ≤ maxLen) (hw1 : ∀ a ∈ xs1, (Lit.int .u8 a).wf = true) :
    Calls Try.prog 4 #[.slice A0 n0 c0, .slice A1 n1 c1] w fun e w' => e = .returned (.bool true) ∧ Below w.heap.size w w' := by
  by_cases hL : 48 < n0 ∨ 48 < n1
  · go_enter Try.func4, Try.ntmps4
    go_wp2_with (go_at_call 7; refine (l_r8Long_yes hL).mono ?_; rintro e w' ⟨rfl, rfl⟩)
    go_ret
    exact ⟨rfl, Below.refl _ _⟩
  have hy0 : n0 ≤ 48 := by omega
  have hy1 : n1 ≤ 48 := by omega
  have hz0 : n0 ≤ 1048576 := by omega
  have hz1 : n1 ≤ 1048576 := by omega
  clear hL hn0 hn1 hc0 hc1
  go_enter Try.func4, Try.ntmps4
  go_wp2_with fail
  refine (l_r8Long_no hy0 hy1).mono ?_
  rintro e w' ⟨rfl, rfl⟩
  go_wp2_with fail
  refine (l_r8At hA1 hw1 hz1 (by omega) (by omega) (by omega) (by omega)).mono ?_
  rintro e w' ⟨l, rfl, p0, rfl⟩
  have l6 : l < 6 := by omega
  obtain ⟨LO, hLO⟩ : ∃ LO, shq (l + 1) = LO := ⟨_, rfl⟩
  have e1 : (((l + 1 : Nat)) : Int) = (1 : Int) + (l : Int) := by omega
  have f1 := (sh_tab (l + 1) (by omega)).1
  have q1 : ∀ W, flR .quo .f32 (floatOfInt .f32 ((1 : Int) + (l : Int))) 1098907648 W = LO := fun W => by
    rw [← hLO, ← e1]; exact flR_num (fin_nan f1) W
  have q1n : flN .quo .f32 (floatOfInt .f32 ((1 : Int) + (l : Int))) 1098907648 = 0 := by rw [← e1]; exact flN_num (fin_nan f1)
  have HLO := hide hLO
  clear hLO p0 e1 f1
  go_wp2_with fail
  refine (l_r8At hA1 hw1 hz1 (by omega) (by omega) (by omega) (by omega)).mono ?_
  rintro e w' ⟨h, rfl, p1, rfl⟩
  have h8 : h < 8 := by omega
  obtain ⟨SH, hSH⟩ : ∃ SH, shq (h + 1) = SH := ⟨_, rfl⟩
  obtain ⟨HI, hHI⟩ : ∃ HI, hiq l h = HI := ⟨_, rfl⟩
  have e1 : (((h + 1 : Nat)) : Int) = (1 : Int) + (h : Int) := by omega
  have f1 := (sh_tab (h + 1) (by omega)).1
  have f2 := hi_fin l l6 h h8
  have q2 : ∀ W, flR .quo .f32 (floatOfInt .f32 ((1 : Int) + (h : Int))) 1098907648 W = SH := fun W => by
    rw [← hSH, ← e1]; exact flR_num (fin_nan f1) W
  have q2n : flN .quo .f32 (floatOfInt .f32 ((1 : Int) + (h : Int))) 1098907648 = 0 := by rw [← e1]; exact flN_num (fin_nan f1)
  have q3 : ∀ W, flR .add .f32 LO SH W = HI := fun W => by
    rw [← hSH, ← hHI, ← HLO.out]; exact flR_num (fin_nan f2) W
  have q3n : flN .add .f32 LO SH = 0 := by rw [← hSH, ← HLO.out]; exact flN_num (fin_nan f2)
  have HHI := hide hHI
  clear hHI hSH p1 e1 f1 f2
  go_wp2_with fail
  refine (l_r8At hA1 hw1 hz1 (by omega) (by omega) (by omega) (by omega)).mono ?_
  rintro e w' ⟨a, rfl, p0, rfl⟩
  clear q1 q1n q2 q2n q3 q3n
  have a7 : a < 7 := by omega
  obtain ⟨AL, hAL⟩ : ∃ AL, shq (a + 1) = AL := ⟨_, rfl⟩
  have e1 : (((a + 1 : Nat)) : Int) = (1 : Int) + (a : Int) := by omega
  have f1 := (sh_tab (a + 1) (by omega)).1
  have q1 : ∀ W, flR .quo .f32 (floatOfInt .f32 ((1 : Int) + (a : Int))) 1098907648 W = AL := fun W => by
    rw [← hAL, ← e1]; exact flR_num (fin_nan f1) W
  have q1n : flN .quo .f32 (floatOfInt .f32 ((1 : Int) + (a : Int))) 1098907648 = 0 := by rw [← e1]; exact flN_num (fin_nan f1)
  have HAL := hide hAL
  clear hAL p0 e1 f1
  go_wp2_with fail
  refine (l_r8At hA1 hw1 hz1 (by omega) (by omega) (by omega) (by omega)).mono ?_
  rintro e w' ⟨b, rfl, p0, rfl⟩
  have b7 : b < 7 := by omega
  obtain ⟨BE, hBE⟩ : ∃ BE, shq (b + 1) = BE := ⟨_, rfl⟩
  have e1 : (((b + 1 : Nat)) : Int) = (1 : Int) + (b : Int) := by omega
  have f1 := (sh_tab (b + 1) (by omega)).1
  have q2 : ∀ W, flR .quo .f32 (floatOfInt .f32 ((1 : Int) + (b : Int))) 1098907648 W = BE := fun W => by
    rw [← hBE, ← e1]; exact flR_num (fin_nan f1) W
  have q2n : flN .quo .f32 (floatOfInt .f32 ((1 : Int) + (b : Int))) 1098907648 = 0 := by rw [← e1]; exact flN_num (fin_nan f1)
  have HF : Hid (Four l h a b LO HI AL BE) := hide ⟨l6, h8, a7, b7, HLO.out, HHI.out, HAL.out, hBE⟩
  obtain ⟨_, _, _, b1, b2⟩ := bars_in a a7 b b7
  obtain ⟨BA, hBA⟩ : ∃ BA, barA a b = BA := ⟨_, rfl⟩
  obtain ⟨BB, hBB⟩ : ∃ BB, barB a b = BB := ⟨_, rfl⟩
  rw [hBA] at b1
  rw [hBB] at b2
  clear hBE p0 e1 f1 HLO HHI HAL
  go_wp2_with fail
  refine HF.out.bars.mono ?_
  rintro e w2 ⟨rfl, bel2⟩
  replace bel2 : Below w.heap.size w w2 := bel2
  rw [hBA, hBB]
  have HBA := hide hBA
  have HBB := hide hBB
  have hA1' := hA1.below bel2
  have hA0' := hA0.below bel2
  have hs2 := bel2.size
  clear q1 q1n q2 q2n hBA hBB
  -- [SA
  have bel3 := bel2.alloc hs2 (.cells #[] 4)
  go_wp2_with fail
  go_loopw [12, 13] (fun v12 v13 wr => ∃ (k : Nat) (bs : List Bool), k ≤ 40 ∧ v13 = .int .i64 (k : Int) ∧ Hid (wr.ownsRow w.heap.size 4 1 v12 k (bl bs)) ∧ w.heap.size ≤ wr.heap.size ∧ Below w.heap.size w wr) (fun _ v13 _ => 40 - (intOf v13).toNat)
  case atStart => exact ⟨0, [], by omega, rfl, hide (own_emp rfl hs2), by simp; omega, bel3⟩
  case round =>
    clear bel3 hA1' hA0' hs2 bel2
    obtain ⟨k, bs, hk, rfl, Hown, hsz, bel⟩ := hrel
    go_wp2_with fail
    refine (l_r8At (hA1.below bel) hw1 hz1 (by omega) (by omega) (by omega) (by omega)).mono ?_
    rintro e w' ⟨v, rfl, p0, rfl⟩
    by_cases hlt : k < v
    · have hI : (k : Int) < (v : Int) := by omega
      have hk40 : k < 40 := by omega
      go_wp2_with fail
      refine (l_r8At (hA0.below bel) hw0 hz0 (by omega) (by omega) (by omega) (by omega)).mono ?_
      rintro e w' ⟨x, rfl, p1, rfl⟩
      go_wp2_with (at_builtin; refine wpList_append1 rfl (.tmp 80) (.tmp 85) 46 rfl w.heap.size 4 (.bool false) _ 1 info_bool Try.underlying46 rfl rfl _ _ _ rfl Hown.out rfl rfl (by omega) (by omega) hsz ?_)
      intro v' w' hown' hb'
      have HT := hide (snoc_bl hown')
      have bel4 := bel.trans hb'
      have hsz4 := bel4.size
      clear hown' hb' bel Hown hsz
      go_wp2
      go_roundw
      case rel => exact ⟨k + 1, _, by omega, by go_num, HT, hsz4, bel4⟩
      case measure => simp [intOf]; omega
    · have hI : ¬ (k : Int) < (v : Int) := by omega
      obtain ⟨AG, cg, rfl⟩ := own_shape Hown.out
      obtain ⟨E, M, m1, m2, m3, m4, m5⟩ := seqRes_0 (A := barA a b) (B := barB a b) (up := upU l h) (dn := upD l h) bs
      have hlen := (Reads.of_own Hown.out).map_len
      have hRD := Reads.of_own Hown.out
      have HM := hide m4
      clear m4 p0
      go_wp2_with fail
      refine (HF.out.test hRD (by omega) m1).mono ?_
      rintro e w3 ⟨rfl, hb3⟩
      have bel5 := bel.trans (hb3.mono bel.size)
      have Hown3 := hide (own_below Hown.out hb3)
      have hRD3 := Reads.of_own Hown3.out
      have mk : M ≤ k := by omega
      have mn : (if (M : Int) < (k : Int) then (M : Int) else (k : Int)) = (M : Int) := by split <;> omega
      have mc : M ≤ cg := Nat.le_trans mk (own_cap2 Hown3.out)
      clear hb3 bel hRD Hown hsz m1
      go_upto_region 14 with (fail)
      go_cut [17, 18, 19] from 97 to 112 (fun s17 s18 s19 wx => s17 = .int .i64 E ∧ s18 = .int .i64 (M : Int) ∧ s19 = .bool true ∧ Hid (Below w.heap.size w wx))
      case first =>
        rcases Nat.eq_zero_or_pos M with h0 | h0
        · subst h0
          go_wp2_with fail
          refine (HF.out.test (reads_take hRD3 (Nat.zero_le _)) (by omega) m5).mono ?_
          rintro e w4 ⟨rfl, hb4⟩
          go_wp2_with fail
          go_meet
          exact ⟨rfl, rfl, rfl, hide (bel5.trans (hb4.mono bel5.size))⟩
        · go_wp2_with fail
          refine (HF.out.test (reads_take hRD3 mk) (by omega) m5).mono ?_
          rintro e w4 ⟨rfl, hb4⟩
          go_wp2_with fail
          go_meet
          exact ⟨rfl, rfl, rfl, hide (bel5.trans (hb4.mono bel5.size))⟩
      case rest =>
      obtain ⟨rfl, rfl, rfl, bel6⟩ := hcut
      replace bel6 := bel6.out
      clear mn mc m5 bel5 Hown3 hRD3
      obtain ⟨w4, hw4⟩ : ∃ w4, wc = w4 := ⟨_, rfl⟩
      rw [hw4] at bel6 ⊢
      clear hw4
      go_upto_region 15 with (fail)
      go_cut [168] from 113 to 168 (fun s wx => s = .bool false ∧ wx = w4)
      case first =>
        have M0 : (0 : Int) ≤ (M : Int) := by omega
        have Mk : (M : Int) ≤ (k : Int) := by omega
        have ee : (E != E) = false := by simp
        have mm : ((M : Int) != (M : Int)) = false := by simp
        have Mn : ¬ k < M := by omega
        have md : decide ((k : Int) < (M : Int)) = false := by simp; omega
        rcases m3 with rfl | rfl | rfl
        · obtain rfl : M = k := by rw [HM.out rfl, hlen]
          go_wp2_with fail
          all_goals first
            | (exfalso; omega)
            | (go_meet; exact ⟨rfl, rfl⟩)
        all_goals
          go_wp2_with fail
          all_goals first
            | (exfalso; omega)
            | (go_meet; exact ⟨rfl, rfl⟩)
      case rest =>
        obtain ⟨rfl, rfl⟩ := hcut
        clear m3 HM mk m2 hlen
        have hmk := run_make_bool
        have hrb := hide (reads_bools wc)
        obtain ⟨s1, s2, s3, s4⟩ := stepS_spec l6 h8 a7 b7
        have wt := worst_told l6 h8 a7 b7
        go_wp2_with fail
        refine (HF.out.test hrb.out (by omega) wt).mono ?_
        rintro e w5 ⟨rfl, hb5⟩
        obtain ⟨fs, hfs⟩ : ∃ fs, stepS l h a b = fs := ⟨_, rfl⟩
        have bel7 : Below w.heap.size w w5 := (bel6.alloc bel6.size _).trans (hb5.mono (Nat.le_trans bel6.size (by simp)))
        have st := (step_tab l l6 h h8 a a7 b b7).2.2
        have hA7 := hA1.below bel7
        rw [hfs] at s1 s2 st ⊢
        clear hmk hrb s3 s4 wt hb5 bel6
        go_wp2_with fail
        refine (l_r8At hA7 hw1 hz1 (by omega) (by omega) (by omega) (by omega)).mono ?_
        rintro e w' ⟨sj, rfl, p0, rfl⟩
        have j17 : sj < 17 := by omega
        obtain ⟨sh1, sh2, _⟩ := six_sh j17
        obtain ⟨SJ, hSJ⟩ : ∃ SJ, shW sj = SJ := ⟨_, rfl⟩
        have f1 := (sh_tab sj j17).1
        have q1 : ∀ W, flR .quo .f32 (floatOfInt .f32 (sj : Int)) 1098907648 W = SJ := fun W => by
          rw [← hSJ]; exact flR_num (fin_nan f1) W
        have q1n : flN .quo .f32 (floatOfInt .f32 (sj : Int)) 1098907648 = 0 := flN_num (fin_nan f1)
        clear p0 sh1 f1
        go_wp2_with fail
        refine (l_r8At hA7 hw1 hz1 (by omega) (by omega) (by omega) (by omega)).mono ?_
        rintro e w' ⟨ms, rfl, p0, rfl⟩
        have m30 : ms < 30 := by omega
        clear p0
        obtain ⟨o0, o1, o2, oe, of, r0, r1, r2, ⟨r5, r3⟩, r4⟩ := chance_ok (barA a b) (barB a b) (upU l h) (upD l h) j17 m30
        go_wp2_with fail
        refine (HF.out.chances (m := ms) (by rw [← hSJ]; exact sh2) (by omega) (by rw [← hSJ]; exact oe) of).mono ?_
        rintro e w6 ⟨ga, ca, rfl, hoa, hb6⟩
        have bel8 := bel7.trans (hb6.mono bel7.size)
        have sure := sure_told l6 h8 a7 b7
        obtain ⟨t1, t2, _, _⟩ := stepP_spec l6 h8 a7 b7
        obtain ⟨fp, hfp⟩ : ∃ fp, stepP l h a b = fp := ⟨_, rfl⟩
        rw [hfp] at sure t1 t2 st
        have k64 := (k_F fp (by omega)).2.2
        clear q1 q1n hb6 sh2 oe hA7 hSJ bel7 hfp hfs
        have shOne : shB 1065353216 = true := by decide +kernel
        have f01 : fin .f32 0 = true ∧ fin .f32 one32 = true ∧ fin .f32 (Fn fp) = true := ⟨by decide +kernel, by decide +kernel, k64⟩
        go_wp2_with fail
        refine (HF.out.chances (m := 64) shOne (by omega) sure f01).mono ?_
        rintro e w7 ⟨gs, cs, rfl, hos, hb7⟩
        have bel9 := bel8.trans (hb7.mono bel8.size)
        have hoa7 := own_below hoa hb7
        have ca0 : w7.cell? ⟨ga, 0, none⟩ = some (.float .f32 o0) := own_cellI hoa7 rfl
        have ca1 : w7.cell? ⟨ga, 1, none⟩ = some (.float .f32 o1) := own_cellI hoa7 rfl
        have ca2 : w7.cell? ⟨ga, 2, none⟩ = some (.float .f32 o2) := own_cellI hoa7 rfl
        have cs0 : w7.cell? ⟨gs, 0, none⟩ = some (.float .f32 0) := own_cellI hos rfl
        have cs1 : w7.cell? ⟨gs, 1, none⟩ = some (.float .f32 1065353216) := own_cellI hos rfl
        have cs2 : w7.cell? ⟨gs, 2, none⟩ = some (.float .f32 (Fn fp)) := own_cellI hos rfl
        have HCS := hide (And.intro cs0 (And.intro cs1 cs2))
        obtain ⟨v0, v0n⟩ := cv_fin of.1
        obtain ⟨v1, v1n⟩ := cv_fin of.2.1
        obtain ⟨v2, v2n⟩ := cv_fin of.2.2
        obtain ⟨SS, hSS⟩ : ∃ SS, fb .add .f64 (wide o0) (wide o1) = SS := ⟨_, rfl⟩
        have y1 : ∀ W, flR .add .f64 (wide o0) (wide o1) W = SS := fun W => by rw [← hSS]; exact flR_num (fin_nan64 r5) W
        have y1n : flN .add .f64 (wide o0) (wide o1) = 0 := flN_num (fin_nan64 r5)
        rw [hSS] at r3
        obtain ⟨ST, hST⟩ : ∃ ST, fb .add .f64 (floatOfInt .f64 (ms : Int)) 4576918229304087675 = ST := ⟨_, rfl⟩
        have r6 := (c_most ms m30).1
        have y2 : ∀ W, flR .add .f64 (floatOfInt .f64 (ms : Int)) 4576918229304087675 W = ST := fun W => by rw [← hST]; exact flR_num (fin_nan64 r6) W
        have y2n : flN .add .f64 (floatOfInt .f64 (ms : Int)) 4576918229304087675 = 0 := flN_num (fin_nan64 r6)
        rw [hST] at r4
        clear hSS hST r5 r6
        have s1I : (1 : Int) ≤ (fs : Int) := by omega
        have HFP := hide f01.2.2
        clear shOne f01 hoa hoa7 hos hb7 sure bel8 cs0 cs1 cs2 of k64
        go_upto_region 22 with (fail)
        go_cut [270] from 203 to 270 (fun s wx => s = .bool false ∧ ∃ m, wx = w7.drewN m)
        case first =>
          -- [SB
          as_aux_lemma =>
            have s1n : ¬ (fs : Int) < 1 := by omega
            have s1d : decide ((fs : Int) < 1) = false := by simp; omega
            refine wp_region_quiet_lit (by kernel_rfl) (by as_aux_lemma => kernel_rfl) ?_
            simp only [List.append_eq, List.cons_append, List.nil_append]
            repeat (go_big_quiet_step (fail))
            refine wpQuiet_nil ?_
            intro _ hw'
            obtain ⟨nq, hw''⟩ := hw'
            subst hw''
            go_wp2_with fail
            go_meet
            exact ⟨rfl, _, rfl⟩
          -- SB]
        case rest =>
        obtain ⟨rfl, m7, rfl⟩ := hcut
        -- [SC
        have bel10 := below_drewN bel9 m7
        have ks0 : (w7.drewN m7).cell? ⟨gs, 0, none⟩ = some (.float .f32 0) := HCS.out.1
        have ks1 : (w7.drewN m7).cell? ⟨gs, 1, none⟩ = some (.float .f32 1065353216) := HCS.out.2.1
        have ks2 : (w7.drewN m7).cell? ⟨gs, 2, none⟩ = some (.float .f32 (Fn fp)) := HCS.out.2.2
        obtain ⟨w8, hw8⟩ : ∃ w8, w7.drewN m7 = w8 := ⟨_, rfl⟩
        rw [hw8] at bel10 ks0 ks1 ks2 ⊢
        clear hw8 y1 y1n y2 y2n v0 v0n v1 v1n v2 v2n r0 r1 r2 r3 r4 ca0 ca1 ca2 bel9 HCS b1 b2
        go_upto_region 24 with (fail)
        go_cut [294] from 271 to 294 (fun s wx => s = .bool false ∧ ∃ m, wx = w8.drewN m)
        case first =>
          -- [SD
          as_aux_lemma =>
            have fsI : (fs : Int) < 60 := by omega
            have fone : fin .f32 1065353216 = true := by decide +kernel
            obtain ⟨g3, ffs⟩ := gapF_ok (fs := fs) (fp := fp) (by omega) (by omega) (by omega) (by omega)
            have g1 := one_gap
            have g2 : (FloatKind.f32.format.order 0 0 != some .eq) = false := by decide +kernel
            have ff := HFP.out
            obtain ⟨FP, hFP⟩ : ∃ FP, Fn fp = FP := ⟨_, rfl⟩
            rw [hFP] at ks2 g3 ff
            obtain ⟨GV, hGV⟩ : ∃ GV, gapV 1065353216 1065353216 = GV := ⟨_, rfl⟩
            obtain ⟨GW, hGW⟩ : ∃ GW, gapV FP (floatOfInt .f32 (fs : Int)) = GW := ⟨_, rfl⟩
            have C1 : Hid (∀ W, Calls Try.prog 12 #[.float .f32 1065353216, .float .f32 1065353216] W fun e w' => e = .returned (.float .f64 GV) ∧ ∃ m, w' = W.drewN m) := hide (fun W => by rw [← hGV]; exact l_r8GapF fone fone)
            have C2 : Hid (∀ W, Calls Try.prog 12 #[.float .f32 FP, .float .f32 (floatOfInt .f32 (fs : Int))] W fun e w' => e = .returned (.float .f64 GW) ∧ ∃ m, w' = W.drewN m) := hide (fun W => by rw [← hGW]; exact l_r8GapF ff ffs)
            rw [hGV] at g1
            rw [hGW] at g3
            clear hFP hGV hGW ff fone ffs st t1 t2
            go_wp2_with fail
            refine (C1.out _).mono ?_
            rintro e w' ⟨rfl, mg, rfl⟩
            go_wp2_with fail
            refine (C2.out _).mono ?_
            rintro e w' ⟨rfl, mg2, rfl⟩
            go_wp2_with fail
            go_meet
            exact ⟨rfl, _, rfl⟩
          -- SD]
        case rest =>
        obtain ⟨rfl, m8, rfl⟩ := hcut
        -- [SE
        have bel11 := below_drewN bel10 m8
        obtain ⟨w9, hw9⟩ : ∃ w9, w8.drewN m8 = w9 := ⟨_, rfl⟩
        rw [hw9] at bel11 ⊢
        clear hw9 ks0 ks1 ks2 bel10 s1I
        obtain ⟨_, ca, cb, gca, gcb⟩ := cap_ok
        obtain ⟨CA, hCA⟩ : ∃ CA, capA capL 3212836864 1084227584 = CA := ⟨_, rfl⟩
        obtain ⟨CB, hCB⟩ : ∃ CB, capB capL 3212836864 1084227584 = CB := ⟨_, rfl⟩
        rw [hCA] at ca gca
        rw [hCB] at cb gcb
        have HCA := hide hCA
        have HCB := hide hCB
        clear hCA hCB
        go_wp2_with fail
        refine (q_Cap (reads_new (Value.float .f32) _ _ [1065353216, 1073741824, 1077936128])).mono ?_
        rintro e w10 ⟨rfl, hb10⟩
        rw [HCA.out, HCB.out]
        have bel12 : Below w.heap.size w w10 := (bel11.alloc bel11.size _).trans (hb10.mono (Nat.le_trans bel11.size (by simp)))
        have hA10 := hA1.below bel12
        have hB10 := hA0.below bel12
        clear hb10 bel11
        go_wp2_with fail
        refine (l_r8At hA10 hw1 hz1 (by omega) (by omega) (by omega) (by omega)).mono ?_
        rintro e w' ⟨vn, rfl, p0, rfl⟩
        obtain ⟨n, hn⟩ : ∃ n : Nat, (1 : Int) + (vn : Int) = (n : Int) := ⟨1 + vn, by omega⟩
        have n1' : 1 ≤ n := by omega
        have n4 : n ≤ 4 := by omega
        obtain ⟨N, hN⟩ : ∃ N, n * n = N := ⟨_, rfl⟩
        have N16 : N ≤ 16 := by have := Nat.mul_le_mul n4 n4; omega
        have N1 : 1 ≤ N := by have := Nat.mul_le_mul n1' n1'; omega
        have hnn : (n : Int) * (n : Int) = (N : Int) := by rw [← hN, Int.natCast_mul]
        have HN := hide hN
        clear hN p0
        go_wp2_with fail
        refine (s_R8Below (N := N) (M := 6) (hB10.more bel12.size) hw0 hz0 (by omega) (by omega) (by omega)).mono ?_
        rintro e w11 ⟨vt, zs, rfl, hown, hzz, hb11⟩
        obtain ⟨gt, ct, rfl, hgt, RT⟩ := row_of_own hown (by omega)
        have bel13 := bel12.trans (hb11.mono bel12.size)
        have hgt2 : w.heap.size ≤ gt := Nat.le_trans bel12.size hgt
        have HTab := hide (tab_inc (n := n) (by rw [HN.out]; exact RT.len) hzz.out)
        have HZ := hide RT.len
        have HRT := hide RT
        clear hown hb11 bel12 hA10 hB10 hgt RT hn
        go_wp2_with fail
        go_loopw [34] (fun v34 wr => ∃ i : Nat, i ≤ n ∧ v34 = .int .i64 (i : Int) ∧ Hid (RowI wr gt N (incT zs n i)) ∧ Hid (Below w.heap.size w wr)) (fun v34 _ => n - (intOf v34).toNat)
        case atStart => exact ⟨0, Nat.zero_le _, rfl, HRT, hide bel13⟩
        case round =>
          clear HRT bel13
          obtain ⟨i, hi, rfl, HR, HB⟩ := hrel
          by_cases hlt : i < n
          · have iI : (i : Int) < (n : Int) := by omega
            obtain ⟨q, q1, q2, q3⟩ := mul_idx hlt hlt HN.out
            have small : 0 ≤ (incT zs n i).getD (q + i) 0 ∧ (incT zs n i).getD (q + i) 0 ≤ 6 := by
              rw [q2, incT_get (by rw [HN.out]; exact HZ.out) hlt hlt i hi, if_neg (by omega)]
              have := small_at HZ.out hzz.out (k := i * n + i) (by omega)
              omega
            have hc := HR.out.cell q3
            have hf := HR.out.frozen (q + i)
            obtain ⟨X, hX⟩ : ∃ X, (incT zs n i).getD (q + i) 0 = X := ⟨_, rfl⟩
            rw [hX] at hc small
            obtain ⟨x0, x6⟩ := small
            have HP : Hid (RowI (wr.setCell ⟨gt, q + i, none⟩ (.int .i64 (X + 1))) gt N (incT zs n (i + 1))) := hide (by
              have := HR.out.put q3 (X + 1)
              rw [incT, ← q2, hX]; exact this)
            have HB2 := hide (HB.out.setCell (p := ⟨gt, q + i, none⟩) hgt2 (.int .i64 (X + 1)))
            clear hX q2
            go_wp2
            go_roundw
            case rel => exact ⟨i + 1, by omega, by go_num, HP, HB2⟩
            case measure => simp [intOf]; omega
          · obtain rfl : i = n := by omega
            have iI : ¬ (i : Int) < (i : Int) := by omega
            -- [SF
            have hmk := run_make_i64 (N := N) (by omega)
            have hgl := HR.out.lt
            have RW0 := hide (RowI.made wr N)
            have RT0 := hide (HR.out.alloc (.cells (Array.replicate N (.int .i64 0)) 2))
            have B0 := hide (HB.out.alloc HB.out.size (.cells (Array.replicate N (.int .i64 0)) 2))
            have hsw := HB.out.size
            have hne : gt ≠ wr.heap.size := by omega
            obtain ⟨gw, hgw⟩ : ∃ gw, wr.heap.size = gw := ⟨_, rfl⟩
            have HT := hide (tab_wh (n := i) HTab.out)
            clear HR HB
            go_wp2_with fail
            rw [hgw] at RW0 hne hsw
            go_loopw [36] (fun v36 wx => ∃ j : Nat, j ≤ i ∧ v36 = .int .i64 (j : Int) ∧ Hid (RowI wx gt N (incT zs i i)) ∧ Hid (RowI wx gw N (whT (incT zs i i) i N j)) ∧ Hid (Below w.heap.size w wx)) (fun v36 _ => i - (intOf v36).toNat)
            case atStart => exact ⟨0, Nat.zero_le _, rfl, RT0, RW0, B0⟩
            case round =>
              clear RT0 RW0 B0 hmk hgw
              obtain ⟨j, hj, rfl, HR, HW, HB⟩ := hrel
              rename World => wx
              by_cases hlt2 : j < i
              · have jI : (j : Int) < (i : Int) := by omega
                obtain ⟨q, q1, q2, q3⟩ := mul_idx hlt2 hlt2 HN.out
                have hc := HR.out.cell q3
                have hf := HW.out.frozen (q + j)
                have hcw := HW.out.cell q3
                obtain ⟨X2, hX2⟩ : ∃ X2, (whT (incT zs i i) i N j).getD (q + j) 0 = X2 := ⟨_, rfl⟩
                rw [hX2] at hcw
                obtain ⟨X, hX⟩ : ∃ X, (incT zs i i).getD (q + j) 0 = X := ⟨_, rfl⟩
                rw [hX] at hc
                have HP : Hid (RowI (wx.setCell ⟨gw, q + j, none⟩ (.int .i64 X)) gw N (whT (incT zs i i) i N (j + 1))) := hide (by
                  have := HW.out.put q3 X
                  rw [whT, ← q2, hX]; exact this)
                have HQ := hide (HR.out.far (p := ⟨gw, q + j, none⟩) hne (.int .i64 X))
                have HB2 := hide (HB.out.setCell (p := ⟨gw, q + j, none⟩) hsw (.int .i64 X))
                clear hX hX2 q2
                go_wp2
                go_roundw
                case rel => exact ⟨j + 1, by omega, by go_num, HQ, HP, HB2⟩
                case measure => simp [intOf]; omega
              · obtain rfl : j = i := by omega
                have jI : ¬ (j : Int) < (j : Int) := by omega
                have hof : ∀ x y, x < j → y < j → x ≠ y → (whT (incT zs j j) j (j * j) j).getD (x * j + y) 0 = 0 := fun x y hx hy hxy => by rw [whT_get hx hy j (Nat.le_refl _), if_neg (by omega)]
                have hmid : 2 ≤ j → diI (whT (incT zs j j) j (j * j) j) j j = (whT (incT zs j j) j (j * j) j).sum := fun h2 => mid_all h2 n4 (whT_len _ _ _ _) hof
                rw [HN.out] at hmid
                have HT2 := hide HT.out
                rw [HN.out] at HT2
                clear HT hof
                obtain ⟨T, hT⟩ : ∃ T, incT zs j j = T := ⟨_, rfl⟩
                rw [hT] at HR HW HT2 HTab hmid
                obtain ⟨U, hU⟩ : ∃ U, whT T j N j = U := ⟨_, rfl⟩
                rw [hU] at HW HT2 hmid
                clear hT hU hzz HZ hA0 hA1 hw0 hw1 hy0 hy1 hz0 hz1 HF HBA HBB HFP iI jI hnn hlt hlt2 hi hj
                obtain ⟨GA, hGA⟩ : ∃ GA, gapV CA 1065353216 = GA := ⟨_, rfl⟩
                obtain ⟨GB, hGB⟩ : ∃ GB, gapV CB 1065353216 = GB := ⟨_, rfl⟩
                have fone : fin .f32 1065353216 = true := by decide +kernel
                have C1 : Hid (∀ W, Calls Try.prog 12 #[.float .f32 CA, .float .f32 1065353216] W fun e w' => e = .returned (.float .f64 GA) ∧ ∃ m, w' = W.drewN m) := hide (fun W => by rw [← hGA]; exact l_r8GapF ca fone)
                have C2 : Hid (∀ W, Calls Try.prog 12 #[.float .f32 CB, .float .f32 1065353216] W fun e w' => e = .returned (.float .f64 GB) ∧ ∃ m, w' = W.drewN m) := hide (fun W => by rw [← hGB]; exact l_r8GapF cb fone)
                rw [hGA] at gca
                rw [hGB] at gcb
                clear hGA hGB
                rcases Nat.eq_or_lt_of_le n1' with h1 | h1
                ·
                  -- [SG
                  as_aux_lemma =>
                    obtain rfl : j = 1 := h1.symm
                    obtain rfl : N = 1 := by have := HN.out; omega
                    go_wp2_with fail
                    refine (agree_no HR.out HTab.out).mono ?_
                    rintro e w12 ⟨rfl, hb12⟩
                    have HW2 := hide (HW.out.below hb12)
                    have HB2 := hide (HB.out.trans (hb12.mono HB.out.size))
                    clear hb12
                    go_wp2_with fail
                    refine (agree_no HW2.out HT2.out).mono ?_
                    rintro e w13 ⟨rfl, hb13⟩
                    have HB3 := hide (HB2.out.trans (hb13.mono HB2.out.size))
                    clear hb13
                    go_wp2_with fail
                    refine (C1.out _).mono ?_
                    rintro e w' ⟨rfl, m1, rfl⟩
                    go_wp2_with fail
                    refine (C2.out _).mono ?_
                    rintro e w' ⟨rfl, m2, rfl⟩
                    go_wp2
                    go_ret
                    exact ⟨rfl, below_drewN HB3.out _⟩
                  -- SG]
                ·
                  -- [SH
                  as_aux_lemma =>
                    have j2 : 2 ≤ j := h1
                    obtain ⟨_, _, _, k1, k2, k3, _⟩ := agree_told HTab.out j2 n4
                    obtain ⟨_, _, _, l1, _, _, l4⟩ := agree_told HT2.out j2 n4
                    replace l4 := l4 (hmid j2)
                    have A1 := fun W c h => agree_yes (w := W) (g := gt) (c := c) (N := N) h HTab.out HN.out j2 n4
                    have A2 := fun W c h => agree_yes (w := W) (g := gw) (c := c) (N := N) h HT2.out HN.out j2 n4
                    obtain ⟨VA, hVA⟩ : ∃ VA, agV (diI T j j) T.sum (agL T j j) = VA := ⟨_, rfl⟩
                    obtain ⟨VU, hVU⟩ : ∃ VU, agV (diI U j j) U.sum (agL U j j) = VU := ⟨_, rfl⟩
                    rw [hVA] at k1 k2 k3
                    rw [hVU] at l1 l4
                    simp only [hVA] at A1
                    simp only [hVU] at A2
                    have HA1 := hide A1
                    have HA2 := hide A2
                    obtain ⟨GU, hGU⟩ : ∃ GU, gapV VU 1065353216 = GU := ⟨_, rfl⟩
                    have C3 : Hid (∀ W, Calls Try.prog 12 #[.float .f32 VU, .float .f32 1065353216] W fun e w' => e = .returned (.float .f64 GU) ∧ ∃ m, w' = W.drewN m) := hide (fun W => by rw [← hGU]; exact l_r8GapF l1 fone)
                    rw [hGU] at l4
                    obtain ⟨v0, v0n⟩ := cv_fin k1
                    have jI2 : (1 : Int) < (j : Int) := by omega
                    have jn : 1 < j := h1
                    clear A1 A2 hVA hVU hGU hmid h1
                    go_wp2_with fail
                    refine (HA1.out _ _ HR.out).mono ?_
                    rintro e w12 ⟨rfl, hb12⟩
                    have HW2 := hide (HW.out.below hb12)
                    have HB2 := hide (HB.out.trans (hb12.mono HB.out.size))
                    clear hb12
                    go_wp2_with fail
                    refine (HA2.out _ _ HW2.out).mono ?_
                    rintro e w13 ⟨rfl, hb13⟩
                    have HB3 := hide (HB2.out.trans (hb13.mono HB2.out.size))
                    clear hb13
                    go_wp2_with fail
                    refine (C1.out _).mono ?_
                    rintro e w' ⟨rfl, m1, rfl⟩
                    go_wp2_with fail
                    refine (C2.out _).mono ?_
                    rintro e w' ⟨rfl, m2, rfl⟩
                    go_wp2_with fail
                    refine (C3.out _).mono ?_
                    rintro e w' ⟨rfl, m3, rfl⟩
                    go_wp2
                    go_ret
                    exact ⟨rfl, below_drewN HB3.out _⟩
                  -- SH]
            -- SF]
        -- SE]
        -- SC]
  -- SA]
end Go.Proofs.Ytolbibpmngmpdaa
