/-
  The law FnCharts returns true for all arguments, and writes nothing that was there.
-/
import Derived.Test.YtolbibpmngmpdaaChtL
namespace Go.Proofs.Ytolbibpmngmpdaa
open Go.RowKit Fl Mem
set_option linter.unusedVariables false
set_option maxRecDepth 100000

theorem gap_flR {a b x y : Nat} {op op' : BinOp} (w1 w2 : World) : gapV (flR op .f32 a b w1) (flR op' .f32 x y w2) = gapV (fb op .f32 a b) (fb op' .f32 x y) := by
  unfold gapV
  rw [← wide_cn (flR op .f32 a b w1), ← wide_cn (flR op' .f32 x y w2), cn_flR, cn_flR]
theorem run_get {sh n i : Nat} (h : i ≤ 20) : (runL sh n 20)[i]? = some (rcSt sh n i).2 := by
  unfold runL
  rw [List.getElem?_map, List.getElem?_range (by omega)]; rfl
theorem run_fin {j n : Nat} (hj : j < 15) (hn : n < 4) : (runL (shW (j + 1)) (n + 1) 20).all (fin .f32) = true ∧ ∀ i, i < 20 → rcChk (shW (j + 1)) (n + 1) (i + 1) (rcSt (shW (j + 1)) (n + 1) i).2 (rcSt (shW (j + 1)) (n + 1) (i + 1)).2 = true := by
  have h := rc_loop 20 0 (rc_tab j hj n hn)
  refine ⟨?_, fun i hi => by have := h i hi; rwa [Nat.zero_add] at this⟩
  rw [List.all_eq_true]
  intro x hx
  unfold runL at hx
  obtain ⟨i, hi, rfl⟩ := List.mem_map.1 hx
  have hi := List.mem_range.1 hi
  cases i with
  | zero => exact (by decide +kernel : fin .f32 0 = true)
  | succ i =>
    have := h i (by omega)
    rw [Nat.zero_add] at this
    unfold rcChk at this
    simp only [Bool.and_eq_true] at this
    exact this.1
theorem far_pre (ct wd : Nat) (xs : List Nat) : ∀ (d i : Nat), ∃ r, farTo ct wd xs (i + d) = farTo ct wd xs i ++ r ∧ ∀ z ∈ r, (i : Int) ≤ z
  | 0, i => ⟨[], by simp, fun z hz => by cases hz⟩
  | d + 1, i => by
    obtain ⟨r, h1, h2⟩ := far_pre ct wd xs d i
    rw [← Nat.add_assoc]
    simp only [farTo]
    split
    · refine ⟨r ++ [((i + d : Nat) : Int)], by rw [h1, List.append_assoc], fun z hz => ?_⟩
      rcases List.mem_append.1 hz with h | h
      · exact h2 z h
      · rw [List.mem_singleton] at h; omega
    · exact ⟨r, h1, h2⟩
theorem far_yes {ct wd n i : Nat} {xs : List Nat} (h : i < n) (hb : farB ct wd (xs.getD i 0) = true) : (farTo ct wd xs n)[(farTo ct wd xs i).length]? = some (i : Int) ∧ (farTo ct wd xs i).length < (farTo ct wd xs n).length ∧ (farTo ct wd xs (i + 1)).length = (farTo ct wd xs i).length + 1 := by
  obtain ⟨r, h1, _⟩ := far_pre ct wd xs (n - (i + 1)) (i + 1)
  rw [show i + 1 + (n - (i + 1)) = n by omega] at h1
  have h2 : farTo ct wd xs (i + 1) = farTo ct wd xs i ++ [(i : Int)] := by rw [farTo, if_pos hb]
  rw [h2] at h1 ⊢
  rw [h1]
  refine ⟨?_, ?_, by simp⟩
  · rw [List.append_assoc, List.getElem?_append_right (Nat.le_refl _), Nat.sub_self]; rfl
  · rw [List.length_append, List.length_append]; simp; omega
theorem far_no {ct wd n i : Nat} {xs : List Nat} (h : i < n) (hb : farB ct wd (xs.getD i 0) = false) : ((farTo ct wd xs n).length = (farTo ct wd xs i).length ∨ ∃ z, (farTo ct wd xs n)[(farTo ct wd xs i).length]? = some z ∧ z ≠ (i : Int) ∧ (farTo ct wd xs i).length < (farTo ct wd xs n).length) ∧ farTo ct wd xs (i + 1) = farTo ct wd xs i := by
  have h2 : farTo ct wd xs (i + 1) = farTo ct wd xs i := by rw [farTo, if_neg (by rw [hb]; simp)]
  obtain ⟨r, h1, h3⟩ := far_pre ct wd xs (n - (i + 1)) (i + 1)
  rw [show i + 1 + (n - (i + 1)) = n by omega, h2] at h1
  refine ⟨?_, h2⟩
  rw [h1]
  cases r with
  | nil => left; simp
  | cons z r =>
    right
    refine ⟨z, ?_, ?_, ?_⟩
    · rw [List.getElem?_append_right (Nat.le_refl _), Nat.sub_self]; rfl
    · have := h3 z (List.mem_cons_self ..); omega
    · rw [List.length_append]; simp
set_option maxHeartbeats 8000000 in
theorem law_Charts (A0 : Option Addr) (n0 c0 : Nat) (xs0 : List Int) (A1 : Option Addr) (n1 c1 : Nat) (xs1 : List Int) (w : World)
    (hA0 : Reads w w.heap.size 1 A0 n0 (xs0.map (Value.int .u8))) (hn0 : n0 ≤ c0) (hc0 : c0 ≤ maxLen) (hw0 : ∀ a ∈ xs0, (Lit.int .u8 a).wf = true)
    (hA1 : Reads w w.heap.size 1 A1 n1 (xs1.map (Value.int .u8))) (hn1 : n1 ≤ c1) (hc1 : c1 ≤ maxLen) (hw1 : ∀ a ∈ xs1, (Lit.int .u8 a).wf = true) :
    Calls Try.prog 3 #[.slice A0 n0 c0, .slice A1 n1 c1] w fun e w' => e = .returned (.bool true) ∧ Below w.heap.size w w' := by
  by_cases hL : 48 < n0 ∨ 48 < n1
  · go_enter Try.func3, Try.ntmps3
    go_wp2_with (go_at_call 7; refine (l_r8Long_yes hL).mono ?_; rintro e w' ⟨rfl, rfl⟩)
    go_ret
    exact ⟨rfl, Below.refl _ _⟩
  have hy0 : n0 ≤ 48 := by omega
  have hy1 : n1 ≤ 48 := by omega
  have hz1 : n1 ≤ 1048576 := by omega
  clear hL hn0 hn1 hc0 hc1
  go_enter Try.func3, Try.ntmps3
  go_wp2_with fail
  refine (l_r8Long_no hy0 hy1).mono ?_
  rintro e w' ⟨rfl, rfl⟩
  go_wp2_with fail
  refine (l_r8At hA1 hw1 hz1 (by omega) (by omega) (by omega) (by omega)).mono ?_
  rintro e w' ⟨v0, rfl, p0, rfl⟩
  obtain ⟨sz, hsz⟩ : ∃ sz : Nat, (1 : Int) + (v0 : Int) = (sz : Int) := ⟨1 + v0, by omega⟩
  have sz1 : 1 ≤ sz := by omega
  have sz2 : sz ≤ 12 := by omega
  have mn : (if (sz : Int) < 4 then (sz : Int) else 4) = (min 4 sz : Nat) := by split <;> omega
  go_wp2_with fail
  refine (l_r8At hA1 hw1 hz1 (by omega) (by omega) (by omega) (by omega)).mono ?_
  rintro e w' ⟨ac, rfl, p1, rfl⟩
  have ac4 : ac < 4 := by omega
  have acs : ac ≤ sz := by omega
  clear mn p1 p0 hsz
  have bel0 := (Below.refl w.heap.size w).alloc (Nat.le_refl _) (.cells #[.int .i64 sz, .int .i64 ac] 26)
  have hA2 := hA1.below bel0
  have blk := Blk.new w 26 #[.int .i64 sz, .int .i64 ac]
  go_wp2_with fail
  refine (l_r8At hA2 hw1 hz1 (by omega) (by omega) (by omega) (by omega)).mono ?_
  rintro e w1 ⟨j, rfl, p2, rfl⟩
  have j15 : j < 15 := by omega
  obtain ⟨S, hS⟩ : ∃ S, shW (j + 1) = S := ⟨_, rfl⟩
  obtain ⟨q1, q2, q3⟩ := six_sh (j := j + 1) (by omega)
  have e1 : (((j + 1 : Nat)) : Int) = (1 : Int) + (j : Int) := by omega
  have hq : ∀ W, flR .quo .f32 (floatOfInt .f32 ((1 : Int) + (j : Int))) 1098907648 W = S := fun W => by
    rw [← hS, ← e1]; exact flR_num (fin_nan q3) W
  have hq0 : flN .quo .f32 (floatOfInt .f32 ((1 : Int) + (j : Int))) 1098907648 = 0 := by rw [← e1]; exact flN_num (fin_nan q3)
  have hsub : shW j = fb .sub .f32 S 1031798784 := by
    have := sh_chk2 j (by omega)
    unfold shChk2 at this
    rw [Bool.and_eq_true] at this
    rw [← hS]; exact (eq_of_beq this.1).symm
  obtain ⟨r1, r2, r3⟩ := six_sh (j := j) (by omega)
  obtain ⟨T, hT⟩ : ∃ T, shW j = T := ⟨_, rfl⟩
  have hs : ∀ W, flR .sub .f32 S 1031798784 W = T := fun W => by rw [← hT, hsub]; exact flR_num (by rw [← hsub]; exact fin_nan r3) W
  have hs0 : flN .sub .f32 S 1031798784 = 0 := flN_num (by rw [← hsub]; exact fin_nan r3)
  have HS := hide hS
  have HT := hide hT
  have ta := ac_tab sz (by omega) ac ac4 (j + 1) (by omega)
  have tb := ac_tab sz (by omega) ac ac4 j (by omega)
  have tm := ac_mono sz (by omega) ac ac4 j (by omega)
  have tn := ac_none sz (by omega) ac ac4
  unfold acChk at ta tb
  unfold acMono gtD at tm
  unfold acNone gtD at tn
  simp only [Bool.and_eq_true, Bool.not_eq_true'] at ta tb tm tn
  rw [hS] at ta tm q2
  rw [hT] at tb tm r2
  have ta1 := ta.1
  have ta2 := ta.2.1
  have tb1 := tb.1
  have tn1 := tn.1
  have tn2 := tn.2
  clear ta tb tn
  have hpl : planOkTC sz ac = true := by unfold planOkTC inB; simp; omega
  have h0s : shB 0 = true := by decide +kernel
  clear hS hT hsub q1 r1 r3 e1 p2
  go_wp2_with fail
  refine (i_ChanceAccept hpl q2 (by omega) acs ta1).mono ?_
  rintro e w2 ⟨rfl, hb2⟩
  have blk2 := blk.below hb2 blk.lt
  have bel2 := bel0.trans (hb2.mono bel0.size)
  have k2a : w2.cell? ⟨w.heap.size, 0, none⟩ = some (.int .i64 sz) := blk2.cell 0
  have k2b : w2.cell? ⟨w.heap.size, 1, none⟩ = some (.int .i64 ac) := blk2.cell 1
  obtain ⟨Va, hVa⟩ : ∃ Va, acV sz ac S = Va := ⟨_, rfl⟩
  rw [hVa]
  clear hb2 blk bel0 hA2
  go_wp2_with fail
  refine (i_ChanceAccept hpl r2 (by omega) acs tb1).mono ?_
  rintro e w3 ⟨rfl, hb3⟩
  have blk3 := blk2.below hb3 blk2.lt
  have bel3 := bel2.trans (hb3.mono bel2.size)
  have k3a : w3.cell? ⟨w.heap.size, 0, none⟩ = some (.int .i64 sz) := blk3.cell 0
  have k3b : w3.cell? ⟨w.heap.size, 1, none⟩ = some (.int .i64 ac) := blk3.cell 1
  obtain ⟨Vb, hVb⟩ : ∃ Vb, acV sz ac T = Vb := ⟨_, rfl⟩
  rw [hVb]
  clear hb3 blk2 bel2 k2a k2b
  go_wp2_with fail
  refine (i_ChanceAccept hpl h0s (by omega) acs tn1).mono ?_
  rintro e w4 ⟨rfl, hb4⟩
  have blk4 := blk3.below hb4 blk3.lt
  have bel4 := bel3.trans (hb4.mono bel3.size)
  have k4a : w4.cell? ⟨w.heap.size, 0, none⟩ = some (.int .i64 sz) := blk4.cell 0
  have k4b : w4.cell? ⟨w.heap.size, 1, none⟩ = some (.int .i64 ac) := blk4.cell 1
  obtain ⟨Vn, hVn⟩ : ∃ Vn, acV sz ac 0 = Vn := ⟨_, rfl⟩
  rw [hVn]
  have hA4 := hA1.below bel4
  clear hb4 blk3 bel3 k3a k3b
  go_wp2_with fail
  refine (l_r8At hA4 hw1 hz1 (by omega) (by omega) (by omega) (by omega)).mono ?_
  rintro e w' ⟨v3, rfl, p3, rfl⟩
  obtain ⟨lot, hlot⟩ : ∃ lot : Nat, (sz : Int) + (v3 : Int) = (lot : Int) := ⟨sz + v3, by omega⟩
  have lot1 : sz ≤ lot := by omega
  have lot2 : lot ≤ 40 := by omega
  have hlk : lotOkC lot sz ac = true := by unfold lotOkC planOkTC inB; simp; omega
  clear p3
  have of1 : fin .f32 (outV lot sz ac S) = true := by rw [← HS.out]; exact out_fin (by omega) (by omega) lot1 lot2 ac4 (by omega)
  have hk16 : ∀ k, k < 17 → shB (sixT k) = true ∧ fin .f32 (sixT k) = true ∧ fin .f32 (acV sz ac (sixT k)) = true ∧ fin .f32 (outV lot sz ac (sixT k)) = true := fun k hk => by
    obtain ⟨h1, h2, h3⟩ := six_sh hk
    have h4 := ac_tab sz (by omega) ac ac4 k hk
    unfold acChk at h4
    simp only [Bool.and_eq_true] at h4
    rw [h1]
    exact ⟨h2, h3, h4.1, out_fin (by omega) (by omega) lot1 lot2 ac4 hk⟩
  obtain ⟨kb, kb1, kb2, kb3⟩ := ws_told (fun k hk => (hk16 k hk).2.2.2) 16 (by omega)
  obtain ⟨hw1', hw2', hw3', hw4'⟩ := hk16 kb kb1
  have hge := kb3 (j + 1) (by omega)
  rw [(six_sh (j := j + 1) (by omega)).1, HS.out] at hge
  obtain ⟨Vo, hVo⟩ : ∃ Vo, outV lot sz ac S = Vo := ⟨_, rfl⟩
  obtain ⟨Wm, hWm⟩ : ∃ Wm, outV lot sz ac (sixT kb) = Wm := ⟨_, rfl⟩
  obtain ⟨Ws, hWs⟩ : ∃ Ws, sixT kb = Ws := ⟨_, rfl⟩
  have HK16 := hide hk16
  clear kb3 hk16
  go_wp2_with fail
  refine (i_OutgoingOf hlk q2 ta1 of1).mono ?_
  rintro e w5 ⟨rfl, hb5⟩
  rw [hVo]
  have blk5 := blk4.below hb5 blk4.lt
  have bel5 := bel4.trans (hb5.mono bel4.size)
  have k5a : w5.cell? ⟨w.heap.size, 0, none⟩ = some (.int .i64 sz) := blk5.cell 0
  have k5b : w5.cell? ⟨w.heap.size, 1, none⟩ = some (.int .i64 ac) := blk5.cell 1
  clear hb5 blk4 bel4 k4a k4b hA4
  go_wp2_with fail
  refine (i_WorstOutgoing hlk HK16.out).mono ?_
  rintro e w6 ⟨rfl, hb6⟩
  rw [kb2]
  dsimp only
  rw [hWm, hWs]
  rw [hWs] at hw1' hw3' hw4'
  have blk6 := blk5.below hb6 blk5.lt
  have bel6 := bel5.trans (hb6.mono bel5.size)
  have k6a : w6.cell? ⟨w.heap.size, 0, none⟩ = some (.int .i64 sz) := blk6.cell 0
  have k6b : w6.cell? ⟨w.heap.size, 1, none⟩ = some (.int .i64 ac) := blk6.cell 1
  clear hb6 blk5 bel5 k5a k5b
  go_wp2_with fail
  refine (i_OutgoingOf hlk hw1' hw3' hw4').mono ?_
  rintro e w7 ⟨rfl, hb7⟩
  have hWm2 : outV lot sz ac Ws = Wm := by rw [← hWs]; exact hWm
  rw [hWm2]
  have bel7 := bel6.trans (hb7.mono bel6.size)
  have g4 : (FloatKind.f32.format.order Wm Vo == some .lt) = false := by
    rw [← hWm, ← hVo, ord_lt (by rw [hWs]; exact hw4') of1, decide_eq_false_iff_not]
    exact Rat.not_lt.2 hge
  have g5 : (FloatKind.f32.format.order Wm Wm != some .eq) = false := by
    have h : fin .f32 Wm = true := by rw [← hWm2]; exact hw4'
    rw [order_self, fin_nan h]; rfl
  have cva := cv_fin ta1
  have cvb := cv_fin tb1
  rw [hVa] at ta2 tm cva
  rw [hVb] at tm cvb
  rw [hVn] at tn2
  obtain ⟨cva1, cva2⟩ := cva
  obtain ⟨cvb1, cvb2⟩ := cvb
  have HA7 := hide (hA1.below bel7)
  have hA1w : ∀ {w' : World}, Below w.heap.size w w' → Reads w' w.heap.size 1 A1 n1 (xs1.map (Value.int .u8)) := fun h => hA1.below h
  have BEL := hide bel7
  have Q2 := hide q2
  clear hb7 blk6 bel6 k6a k6b hge hw1' hw3' hw4' hWm hWm2 hVo hWs hVa hVb hVn ta1 tb1 tn1 of1 kb2 hlk hpl h0s r2 hlot q2 bel7 q3 hA1
  go_wp2_with (go_at_call 12; refine l_r8Gap.mono ?_; rintro e w' ⟨zg, rfl, hzg, mg, rfl⟩; have g3 : (FloatKind.f64.format.order zg 4562254508917369340 == some .gt) = false := (by rw [← order_cnl, hzg]; exact tn2))
  obtain ⟨w8, hw8⟩ : ∃ w8, w7.drewN (flN .add .f64 (wide Vb) 4562254508917369340 + mg) = w8 := ⟨_, rfl⟩
  have HA8 : Reads w8 w.heap.size 1 A1 n1 (xs1.map (Value.int .u8)) := by rw [← hw8]; exact HA7.out.drewN _
  have bel8 : Below w.heap.size w w8 := by rw [← hw8]; exact below_drewN BEL.out _
  rw [hw8]
  clear hw8 HA7 BEL hzg g3 tm ta2 tn2 g4 g5 cva1 cva2 cvb1 cvb2 hq hq0 hs hs0 HK16
  refine (l_r8At HA8 hw1 hz1 (by omega) (by omega) (by omega) (by omega)).mono ?_
  rintro e w' ⟨v4, rfl, p4, rfl⟩
  have v44 : v4 < 4 := by omega
  obtain ⟨n, hn⟩ : ∃ n : Nat, (1 : Int) + (v4 : Int) = (n : Int) := ⟨1 + v4, by omega⟩
  have hnv : v4 + 1 = n := by omega
  have n1' : 1 ≤ n := by omega
  have n4 : n ≤ 4 := by omega
  have sx := sh_chk2 j (by omega)
  unfold shChk2 at sx
  rw [Bool.and_eq_true, HS.out] at sx
  have sx2 : (FloatKind.f32.format.order S 0 == some .eq) = false := by simpa using sx.2
  have f1 : fin .f32 (wtV S n) = true := by rw [← HS.out]; exact wt_fin j j15 n (by omega)
  have f2 : fin .f32 (wtV S (n + 1)) = true := by rw [← HS.out]; exact wt_fin j j15 (n + 1) (by omega)
  have wc := wt_tab j j15 v4 v44
  unfold wtChk gtD at wc
  rw [HS.out, hnv] at wc
  simp only [Bool.and_eq_true, Bool.not_eq_true'] at wc
  obtain ⟨wc1, wc2⟩ := wc
  obtain ⟨rf1, rf2⟩ := run_fin j15 v44
  rw [HS.out, hnv] at rf1 rf2
  have RF := hide rf2
  clear sx rf2 p4 hnv
  go_wp2_with fail
  refine (i_WaitForRun Q2.out sx2 n1' (by omega) f1).mono ?_
  rintro e w9 ⟨rfl, m9, rfl⟩
  obtain ⟨Vt, hVt⟩ : ∃ Vt, wtV S n = Vt := ⟨_, rfl⟩
  obtain ⟨Vx, hVx⟩ : ∃ Vx, wtV S (n + 1) = Vx := ⟨_, rfl⟩
  rw [hVt]
  rw [hVt, hVx] at wc1
  rw [hVt] at wc2
  have cvt := cv_fin f1
  rw [hVt] at cvt
  obtain ⟨cvt1, cvt2⟩ := cvt
  go_wp2_with fail
  rw [show (n : Int) + 1 = ((n + 1 : Nat) : Int) by omega]
  refine (i_WaitForRun Q2.out sx2 (by omega) (by omega) f2).mono ?_
  rintro e w10 ⟨rfl, m10, rfl⟩
  rw [hVx]
  go_wp2_with fail
  refine (i_RunChances (n := 20) Q2.out n1' (by omega) (by omega) rf1).mono ?_
  rintro e w11 ⟨vr, zs, rfl, hor, hzr, hb11⟩
  obtain ⟨gr, cr, rfl⟩ := own_addr hor (by omega)
  have bel11 := (below_drewN bel8 _).trans (hb11.mono (show w.heap.size ≤ _ from bel8.size))
  have HA11 := hide (hA1w bel11)
  subst hzr
  have HR : Hid (∀ i, i ≤ 20 → w11.cell? ⟨gr, i, none⟩ = some (.float .f32 (rcSt S n i).2)) := hide (fun i hi => own_cellI hor (by
    have := run_get (sh := S) (n := n) hi
    simp [fl, this]))
  have k0 : w11.cell? ⟨gr, 0, none⟩ = some (.float .f32 0) := HR.out 0 (by omega)
  have g7 : (FloatKind.f32.format.order 0 0 != some .eq) = false := by decide +kernel
  have BEL11 := hide bel11
  clear hor hb11 hVt hVx HA8 bel8 f1 f2 rf1 sx2
  go_wp2_with (go_at_call 12; refine l_r8Gap.mono ?_; rintro e w' ⟨zg, rfl, hzg, mg, rfl⟩; rw [gap_flR] at hzg; have g6 : ∀ W, (FloatKind.f64.format.order zg (fb .mul .f64 4562254508917369340 (flR .add .f64 4607182418800017408 (wide Vt) W)) == some .gt) = false := (fun W => by rw [← order_cnl, hzg, ← fb_cnr .mul .f64 4562254508917369340, cn_flR]; exact wc1))
  clear hzg g6 wc1 wc2 cvt1 cvt2 k0 g7
  go_loopw [29, 30] (fun v29 v30 wr => ∃ k m z : Nat, k ≤ n ∧ v30 = .int .i64 (k : Int) ∧ v29 = .float .f32 z ∧ Hid (cn .f32 z = pwr S 1065353216 k) ∧ wr = w11.drewN m) (fun _ v30 _ => n - (intOf v30).toNat)
  case atStart => exact ⟨0, _, 1065353216, Nat.zero_le _, rfl, rfl, hide (by rw [pwr]; decide +kernel), rfl⟩
  case round =>
    obtain ⟨k, m, z, hk, rfl, rfl, hz, rfl⟩ := hrel
    by_cases hlt : k < n
    · have kI : (k : Int) < (n : Int) := by omega
      go_wp2
      go_roundw
      case rel => exact ⟨k + 1, _, _, by omega, by go_num, rfl, hide (pwr_step hz.out _), rfl⟩
      case measure => simp [intOf]; omega
    obtain rfl : k = n := by omega
    have kI : ¬ (k : Int) < (k : Int) := by omega
    have fz : fin .f32 (pwr S 1065353216 k) = true := by rw [← HS.out]; exact pwr_fin j j15 k (by omega)
    have hzz := fin_word hz.out fz
    obtain ⟨Pw, hPw⟩ : ∃ Pw, pwr S 1065353216 k = Pw := ⟨_, rfl⟩
    rw [hPw] at fz hzz
    subst hzz
    have HP := hide hPw
    clear hz hPw
    go_wp2
    go_loopw [31] (fun v31 wr => ∃ i m : Nat, i ≤ 20 ∧ v31 = .int .i64 ((i : Int) + 1) ∧ wr = w11.drewN m) (fun v31 _ => 22 - (intOf v31).toNat)
    case atStart => exact ⟨0, _, by omega, rfl, rfl⟩
    case round =>
      obtain ⟨i, m2, hi, rfl, rfl⟩ := hrel
      by_cases hil : i < 20
      · have iI : (i : Int) + 1 ≤ 20 := by omega
        have rc := RF.out i hil
        obtain ⟨d, hd⟩ : ∃ d, (rcSt S k i).2 = d := ⟨_, rfl⟩
        obtain ⟨d', hd'⟩ : ∃ d', (rcSt S k (i + 1)).2 = d' := ⟨_, rfl⟩
        have ci : (w11.drewN m2).cell? ⟨gr, i, none⟩ = some (.float .f32 d) := by rw [← hd]; exact HR.out i (by omega)
        have ci' : (w11.drewN m2).cell? ⟨gr, i + 1, none⟩ = some (.float .f32 d') := by rw [← hd']; exact HR.out (i + 1) (by omega)
        have cj : w11.cell? ⟨gr, i, none⟩ = some (.float .f32 d) := ci
        have cj' : w11.cell? ⟨gr, i + 1, none⟩ = some (.float .f32 d') := ci'
        unfold rcChk gtD at rc
        rw [hd, hd', HP.out] at rc
        simp only [Bool.and_eq_true, Bool.not_eq_true', Bool.or_eq_true, decide_eq_false_iff_not] at rc
        obtain ⟨fd', x1, x2, x3, x4⟩ := rc
        obtain ⟨cvd1, cvd2⟩ := cv_fin fd'
        have i21 : (i : Int) + 1 < 21 := by omega
        have i20 : (i : Int) < 21 := by omega
        have i0 : (0 : Int) ≤ (i : Int) + 1 := by omega
        have wi : IntKind.i64.wrap (i : Int) = (i : Int) := by rw [IntKind.wrap_i64]; omega
        clear hd hd'
        rcases Nat.lt_trichotomy (i + 1) k with hc | hc | hc
        ·
          -- [PA
          as_aux_lemma =>
            have b1 : decide ((i : Int) + 1 < (k : Int)) = true := by simp; omega
            have b2 : ((i : Int) + 1 == (k : Int)) = false := by rw [beq_eq_false_iff_ne]; omega
            have b3 : (FloatKind.f32.format.order d' 0 != some .eq) = false := by
              have := x3.resolve_left (by omega)
              rw [eq_of_beq this]; rfl
            clear x3 x4 hc
            go_wp2
            go_quiet ((go_at_call 12; exact Calls.quiet_of (l_r8GapF fd' fz)))
            go_wp2
            go_roundw
            case rel => exact ⟨i + 1, _, by omega, by go_num, rfl⟩
            case measure => simp [intOf]; omega
          -- PA]
        ·
          -- [PB
          as_aux_lemma =>
            have b3 := x4.resolve_left (by omega)
            subst hc
            clear x3 x4
            obtain ⟨wq, hwq⟩ : ∃ wq, w11.drewN m2 = wq := ⟨_, rfl⟩
            have HWq := hide hwq
            rw [hwq] at ci ci' ⊢
            clear hwq cj cj'
            go_wp2
            go_quiet ((go_at_call 12; exact Calls.quiet_of (l_r8GapF fd' fz)))
            go_wp2
            go_roundw
            case rel => exact ⟨i + 1, _, by omega, by go_num, by rw [← HWq.out, World.drewN_drewN]⟩
            case measure => simp [intOf]; omega
          -- PB]
        ·
          -- [PC
          as_aux_lemma =>
            have b1 : decide ((i : Int) + 1 < (k : Int)) = false := by simp; omega
            have b2 : ((i : Int) + 1 == (k : Int)) = false := by rw [beq_eq_false_iff_ne]; omega
            clear x3 x4 hc
            go_wp2
            go_quiet ((go_at_call 12; exact Calls.quiet_of (l_r8GapF fd' fz)))
            go_wp2
            go_roundw
            case rel => exact ⟨i + 1, _, by omega, by go_num, rfl⟩
            case measure => simp [intOf]; omega
          -- PC]
      · obtain rfl : i = 20 := by omega
        -- [PD
        have bel12 := below_drewN bel11 m2
        have hA12 := hA1w bel12
        have hB12 := (hA0.below bel12).more bel12.size
        obtain ⟨w12, hw12⟩ : ∃ w12, w11.drewN m2 = w12 := ⟨_, rfl⟩
        rw [hw12] at bel12 hA12 hB12 ⊢
        have HB12 := hide hB12
        clear hw12 HR RF hB12
        go_wp2_with fail
        refine (l_r8At hA12 hw1 hz1 (by omega) (by omega) (by omega) (by omega)).mono ?_
        rintro e w' ⟨v5, rfl, p5, rfl⟩
        obtain ⟨N, hN⟩ : ∃ N : Nat, (1 : Int) + (v5 : Int) = (N : Int) := ⟨1 + v5, by omega⟩
        have N1 : 1 ≤ N := by omega
        have N2 : N ≤ 20 := by omega
        clear p5
        go_wp2_with fail
        refine (s_R8Numbers (N := N) HB12.out hw0 (by omega) (by omega)).mono ?_
        rintro e w13 ⟨vl, zs, rfl, hol, hof, hb13⟩
        obtain ⟨gl, cl, rfl⟩ := own_addr hol (by omega)
        have bel13 := bel12.trans (hb13.mono bel12.size)
        have hA13 := hA1w bel13
        have hzl : zs.length = N := (Reads.of_own hol).map_len
        have HOL := hide hol
        clear hb13 hol bel12 hA12 HB12 hN
        go_wp2_with fail
        refine (l_r8At hA13 hw1 hz1 (by omega) (by omega) (by omega) (by omega)).mono ?_
        rintro e w' ⟨jc, rfl, p6, rfl⟩
        have jc9 : jc < 9 := by omega
        have qc0 := qc_tab 0 (by omega) jc jc9
        unfold qcChk at qc0
        simp only [Bool.and_eq_true] at qc0
        have fC := qc0.2.1
        obtain ⟨C, hC⟩ : ∃ C, cW jc = C := ⟨_, rfl⟩
        have hqc : ∀ W, flR .quo .f32 (floatOfInt .f32 ((jc : Int) - 4)) 1082130432 W = C := fun W => by rw [← hC]; exact flR_num (fin_nan fC) W
        have hqc0 : flN .quo .f32 (floatOfInt .f32 ((jc : Int) - 4)) 1082130432 = 0 := flN_num (fin_nan fC)
        clear qc0 p6
        go_wp2_with fail
        refine (l_r8At hA13 hw1 hz1 (by omega) (by omega) (by omega) (by omega)).mono ?_
        rintro e w' ⟨jw, rfl, p7, rfl⟩
        have jw8 : jw < 8 := by omega
        have qw0 := qw_tab 0 (by omega) jc jc9 jw jw8
        unfold qwChk at qw0
        simp only [Bool.and_eq_true] at qw0
        have lW := qw0.1
        obtain ⟨W, hW⟩ : ∃ W, wW jw = W := ⟨_, rfl⟩
        have fW : fin .f32 (wW jw) = true := by unfold leastFN at lW; rw [Bool.and_eq_true] at lW; exact lW.1
        have hqw : ∀ w', flR .quo .f32 (floatOfInt .f32 (jw : Int)) 1073741824 w' = W := fun w' => by rw [← hW]; exact flR_num (fin_nan fW) w'
        have hqw0 : flN .quo .f32 (floatOfInt .f32 (jw : Int)) 1073741824 = 0 := flN_num (fin_nan fW)
        have hT1 : isToldL zs = true := by
          unfold isToldL
          simp only [Bool.and_eq_true, decide_eq_true_iff, List.all_eq_true]
          refine ⟨⟨by omega, by omega⟩, fun x hx => ?_⟩
          obtain ⟨q, hq, rfl⟩ := hof.out x hx
          have := qc_tab q hq jc jc9
          unfold qcChk at this
          simp only [Bool.and_eq_true] at this
          exact this.1
        have hT2 : ∀ x ∈ zs, fin .f32 (fb .sub .f32 x C) = true := fun x hx => by
          obtain ⟨q, hq, rfl⟩ := hof.out x hx
          have := qc_tab q hq jc jc9
          unfold qcChk at this
          simp only [Bool.and_eq_true] at this
          rw [← hC]; exact this.2.2.1
        have HRD := hide (Reads.of_own HOL.out)
        have hC2 : fin .f32 C = true := by rw [← hC]; exact fC
        have hW2 : leastFN W = true := by rw [← hW]; exact lW
        clear qw0 p7 hA13
        go_wp2_with fail
        refine (i_OutOf HRD.out (by omega) hT1 hC2 hW2 hT2).mono ?_
        rintro e w14 ⟨vf, rfl, hof14, hb14⟩
        have bel14 := bel13.trans (hb14.mono bel13.size)
        have HOL14 := hide (own_below HOL.out hb14)
        have HRD14 := hide (Reads.of_own HOL14.out)
        obtain ⟨FL, hFL⟩ : ∃ FL, (farTo C W zs N).length = FL := ⟨_, rfl⟩
        rw [hFL] at hof14
        obtain ⟨Af, cf, rfl⟩ := own_shape hof14
        have HOF := hide hof14
        have HFL := hide hFL
        have hlo := far_len C W zs N
        rw [hFL] at hlo
        clear hb14 hof14 hFL hT2 hqw hqw0 hqc hqc0 HOL HRD bel13 lW fW
        go_wp2_with fail
        refine (i_SameSide (long := k) HRD14.out (by omega) hT1 hC2 n1' (by omega)).mono ?_
        rintro e w' ⟨rfl, m15, rfl⟩
        obtain ⟨FN, hFN⟩ : ∃ FN, firstAt C k zs N = FN := ⟨_, rfl⟩
        obtain ⟨PL, hPL⟩ : ∃ PL : Int, (if firstAt C k zs N < 0 then 0 else firstAt C k zs N) = PL := ⟨_, rfl⟩
        obtain ⟨BF, hBF⟩ : ∃ BF : Bool, decide (0 ≤ firstAt C k zs N) = BF := ⟨_, rfl⟩
        rw [hPL, hBF]
        rw [hFN] at hPL hBF
        have HFN := hide hFN
        have HPL := hide hPL
        have HBF := hide hBF
        have HC := hide hC
        have HW := hide hW
        clear hFN hPL hBF hC hW hT1 hW2 hA1w bel11 HA11 BEL11 HP fz hA0 hw0 hw1 hy0 hy1 hz1 HS HT Q2 hw2' kb1 v44 lot1 lot2 j15 ac4 acs sz1 sz2 hzl
        go_wp2
        go_loopw [39, 40, 41, 42, 43, 44] (fun v39 v40 v41 v42 v43 _ wr => ∃ i m : Nat, i ≤ N ∧ v43 = .int .i64 (i : Int) ∧ v39 = .int .i64 ((farTo C W zs i).length : Int) ∧ v40 = .int .i64 (upC C zs i : Int) ∧ v41 = .int .i64 (dnC C zs i : Int) ∧ v42 = .int .i64 (firstAt C k zs i) ∧ wr = w14.drewN m) (fun _ _ _ _ v43 _ _ => N - (intOf v43).toNat)
        case atStart => exact ⟨0, _, Nat.zero_le _, rfl, rfl, rfl, rfl, rfl, rfl⟩
        case round =>
          obtain ⟨i, m3, hiN, rfl, rfl, rfl, rfl, rfl, rfl⟩ := hrel
          by_cases hil : i < N
          ·
            -- [PE
            have iI : (i : Int) < (N : Int) := by omega
            obtain ⟨ad, x, hA, hab, hx, hcx⟩ := HRD14.out.map_at hil
            injection hA with hA
            have hcx2 : w14.cell? ⟨gl, i, none⟩ = some (.float .f32 x) := by rw [← hA] at hcx; simpa [Addr.add_lit] using hcx
            have hcx3 : (w14.drewN m3).cell? ⟨gl, i, none⟩ = some (.float .f32 x) := hcx2
            have hxg : zs.getD i 0 = x := by rw [List.getD_eq_getElem?_getD, hx]; rfl
            obtain ⟨q, hq, hxq⟩ := hof.out x (List.mem_of_getElem? hx)
            have tq := qc_tab q hq jc jc9
            have tw := qw_tab q hq jc jc9 jw jw8
            unfold qcChk at tq
            unfold qwChk gtD at tw
            rw [HC.out, ← hxq] at tq tw
            rw [HW.out] at tw
            simp only [Bool.and_eq_true] at tq tw
            have fx := tq.1
            have t1 := tq.2.2.2.1
            have t2 := tq.2.2.2.2
            have t3 := tw.2.1
            have t4 := tw.2.2
            clear tq tw
            replace t1 := eq_of_beq t1
            replace t2 := eq_of_beq t2
            replace t3 := (eq_of_beq t3).symm
            replace t4 := eq_of_beq t4
            obtain ⟨cw1, cw2⟩ := cv_fin (show fin .f32 W = true by rw [← HW.out]; have := (qw_tab q hq jc jc9 jw jw8); unfold qwChk leastFN at this; simp only [Bool.and_eq_true] at this; exact this.1.1)
            obtain ⟨G, hG⟩ : ∃ G, gapV x C = G := ⟨_, rfl⟩
            rw [hG] at t3 t4
            have HG := hide hG
            have hU := upC_le C zs i
            have hD := dnC_le C zs i
            have hK := far_len C W zs i
            obtain ⟨u, hu⟩ : ∃ u, upC C zs i = u := ⟨_, rfl⟩
            obtain ⟨d, hd⟩ : ∃ d, dnC C zs i = d := ⟨_, rfl⟩
            obtain ⟨F, hF⟩ : ∃ F, firstAt C k zs i = F := ⟨_, rfl⟩
            have HU : Hid (upC C zs (i + 1) = if (FloatKind.f32.format.order x C == some .gt) = true then u + 1 else 0) := hide (by rw [upC, hxg, hu])
            have HD : Hid (dnC C zs (i + 1) = if (FloatKind.f32.format.order x C == some .lt) = true then d + 1 else 0) := hide (by rw [dnC, hxg, hd])
            have HF : Hid (firstAt C k zs (i + 1) = if F < 0 ∧ (k ≤ upC C zs (i + 1) ∨ k ≤ dnC C zs (i + 1)) then (i : Int) else F) := hide (by rw [firstAt, hF])
            rw [hu] at hU ⊢
            rw [hd] at hD ⊢
            rw [hF]
            have fC2 := hC2
            obtain ⟨b, hb⟩ : ∃ b, farB C W x = b := ⟨_, rfl⟩
            rw [hb] at t3 t4
            have hbx : farB C W (zs.getD i 0) = b := by rw [hxg]; exact hb
            clear hu hd hF hx hxg hq hG hA hcx hab hxq hn hk hlt kI hi fC jc9 jw8 HC HW HPL HBF HFN HOL14 hof HRD14 hcx3
            have hcx4 : ∀ m, (w14.drewN m).cell? ⟨gl, i, none⟩ = some (.float .f32 x) := fun m => hcx2
            -- [PG
            cases b with
            | true =>
              -- [PJ
              as_aux_lemma =>
                obtain ⟨y1, y2, y3⟩ := far_yes hil hbx
                rw [HFL.out] at y2
                obtain ⟨K, hKK⟩ : ∃ K, (farTo C W zs i).length = K := ⟨_, rfl⟩
                rw [hKK] at y1 y2 y3 hK ⊢
                obtain ⟨gf, cf2, hfe⟩ := own_addr HOF.out (by omega)
                injection hfe with hf1 hf2 hf3
                subst hf1 hf3
                clear hf2
                have cf1 : (w14.drewN m3).cell? ⟨gf, K, none⟩ = some (.int .i64 (i : Int)) := (by exact own_cellI HOF.out (by unfold il; rw [List.getElem?_map, y1]; rfl) : w14.cell? ⟨gf, K, none⟩ = some (.int .i64 (i : Int)))
                have KI : (K : Int) < (FL : Int) := by omega
                have ii : ((i : Int) == (i : Int)) = true := by simp
                have cg1 : w14.cell? ⟨gf, K, none⟩ = some (.int .i64 (i : Int)) := cf1
                have HY3 := hide y3
                simp only [Bool.not_true] at t4
                clear y1 y3 hbx
                go_wp2_with fail
                refine (l_r8GapF fx fC2).mono ?_
                rintro e w' ⟨rfl, m4, rfl⟩
                rw [HG.out]
                cases hg : (FloatKind.f32.format.order x C == some .gt) <;> cases hl : (FloatKind.f32.format.order x C == some .lt)
                case true.true => (exfalso; have h1 := eq_of_beq hg; have h2 := eq_of_beq hl; rw [h1] at h2; cases h2)
                all_goals
                  rw [hg] at HU
                  rw [hl] at HD
                  rw [hg, hl] at t1 t2
                  simp only [if_true, if_false, Bool.false_eq_true] at HU HD
                  try simp only [Bool.false_or, Bool.true_or, Bool.not_true, Bool.not_false] at t1
                  try simp only [Bool.false_or, Bool.true_or, Bool.not_true, Bool.not_false] at t2
                  go_wp2
                  all_goals first
                    | (refine ⟨⟨i + 1, _, by omega, by go_num, by rw [HY3.out]; rfl, by rw [HU.out]; rfl, by rw [HD.out]; rfl, by rw [HF.out, HU.out, HD.out]; first | rw [if_pos (by omega)] | rw [if_neg (by omega)], rfl⟩, ?_⟩
                       simp [intOf]; omega)
                    | (go_roundw
                       case rel => exact ⟨i + 1, _, by omega, by go_num, by rw [HY3.out]; rfl, by rw [HU.out]; rfl, by rw [HD.out]; rfl, by rw [HF.out, HU.out, HD.out]; first | rw [if_pos (by omega)] | rw [if_neg (by omega)], rfl⟩
                       case measure => simp [intOf]; omega)
              -- PJ]
            | false =>
              obtain ⟨y1, y3⟩ := far_no hil hbx
              rw [HFL.out] at y1
              have HY3 : Hid ((farTo C W zs (i + 1)).length = (farTo C W zs i).length) := hide (by rw [y3])
              obtain ⟨K, hKK⟩ : ∃ K, (farTo C W zs i).length = K := ⟨_, rfl⟩
              rw [hKK] at y1 HY3 hK ⊢
              simp only [Bool.not_false] at t4
              rcases y1 with y1 | ⟨z0, y1, y2, y4⟩
              · have KI : ¬ (K : Int) < (FL : Int) := by omega
                have KD : decide ((K : Int) < (FL : Int)) = false := by simp; omega
                clear y3 hbx hKK y1 hlo
                -- [PH
                as_aux_lemma =>
                  go_wp2_with fail
                  refine (l_r8GapF fx fC2).mono ?_
                  rintro e w' ⟨rfl, m4, rfl⟩
                  rw [HG.out]
                  cases hg : (FloatKind.f32.format.order x C == some .gt) <;> cases hl : (FloatKind.f32.format.order x C == some .lt)
                  case true.true => (exfalso; have h1 := eq_of_beq hg; have h2 := eq_of_beq hl; rw [h1] at h2; cases h2)
                  all_goals
                    rw [hg] at HU
                    rw [hl] at HD
                    rw [hg, hl] at t1 t2
                    simp only [if_true, if_false, Bool.false_eq_true] at HU HD
                    try simp only [Bool.false_or, Bool.true_or, Bool.not_true, Bool.not_false] at t1
                    try simp only [Bool.false_or, Bool.true_or, Bool.not_true, Bool.not_false] at t2
                    go_wp2
                    all_goals first
                      | (exfalso; omega)
                      | (refine ⟨⟨i + 1, _, by omega, by go_num, by rw [HY3.out], by rw [HU.out]; rfl, by rw [HD.out]; rfl, by rw [HF.out, HU.out, HD.out]; first | rw [if_pos (by omega)] | rw [if_neg (by omega)], rfl⟩, ?_⟩
                         simp [intOf]; omega)
                      | (go_roundw
                         case rel => exact ⟨i + 1, _, by omega, by go_num, by rw [HY3.out], by rw [HU.out]; rfl, by rw [HD.out]; rfl, by rw [HF.out, HU.out, HD.out]; first | rw [if_pos (by omega)] | rw [if_neg (by omega)], rfl⟩
                         case measure => simp [intOf]; omega)
                -- PH]
              · obtain ⟨gf, cf2, hfe⟩ := own_addr HOF.out (by omega)
                injection hfe with hf1 hf2 hf3
                subst hf1 hf3
                clear hf2
                have cg1 : w14.cell? ⟨gf, K, none⟩ = some (.int .i64 z0) := own_cellI HOF.out (by unfold il; rw [List.getElem?_map, y1]; rfl)
                have cf1 : (w14.drewN m3).cell? ⟨gf, K, none⟩ = some (.int .i64 z0) := cg1
                have KI : (K : Int) < (FL : Int) := by omega
                have ii : (z0 == (i : Int)) = false := by rw [beq_eq_false_iff_ne]; exact y2
                clear y1 y3 hbx hKK y2
                -- [PI
                as_aux_lemma =>
                  go_wp2_with fail
                  refine (l_r8GapF fx fC2).mono ?_
                  rintro e w' ⟨rfl, m4, rfl⟩
                  rw [HG.out]
                  cases hg : (FloatKind.f32.format.order x C == some .gt) <;> cases hl : (FloatKind.f32.format.order x C == some .lt)
                  case true.true => (exfalso; have h1 := eq_of_beq hg; have h2 := eq_of_beq hl; rw [h1] at h2; cases h2)
                  all_goals
                    rw [hg] at HU
                    rw [hl] at HD
                    rw [hg, hl] at t1 t2
                    simp only [if_true, if_false, Bool.false_eq_true] at HU HD
                    try simp only [Bool.false_or, Bool.true_or, Bool.not_true, Bool.not_false] at t1
                    try simp only [Bool.false_or, Bool.true_or, Bool.not_true, Bool.not_false] at t2
                    go_wp2
                    all_goals first
                      | (refine ⟨⟨i + 1, _, by omega, by go_num, by rw [HY3.out], by rw [HU.out]; rfl, by rw [HD.out]; rfl, by rw [HF.out, HU.out, HD.out]; first | rw [if_pos (by omega)] | rw [if_neg (by omega)], rfl⟩, ?_⟩
                         simp [intOf]; omega)
                      | (go_roundw
                         case rel => exact ⟨i + 1, _, by omega, by go_num, by rw [HY3.out], by rw [HU.out]; rfl, by rw [HD.out]; rfl, by rw [HF.out, HU.out, HD.out]; first | rw [if_pos (by omega)] | rw [if_neg (by omega)], rfl⟩
                         case measure => simp [intOf]; omega)
                -- PI]
            -- PG]
            -- PE]
          · obtain rfl : i = N := by omega
            have iI : ¬ (i : Int) < (i : Int) := by omega
            have e1 := HFN.out
            have e2 := HFL.out
            rw [e1, e2]
            have ef : ((FL : Int) == (FL : Int)) = true := by simp
            -- [PF
            as_aux_lemma =>
              by_cases hf : FN < 0
              · have h1 : BF = false := by rw [← HBF.out]; simp; omega
                have h2 : decide (0 ≤ FN) = false := by simp; omega
                subst h1
                clear e1 e2
                go_wp2
                go_ret
                exact ⟨rfl, below_drewN bel14 _⟩
              · have h1 : BF = true := by rw [← HBF.out]; simp; omega
                have h2 : decide (0 ≤ FN) = true := by simp; omega
                have h3 : PL = FN := by rw [← HPL.out, if_neg hf]
                have h4 : (FN == FN) = true := by simp
                subst h1 h3
                clear e1 e2
                go_wp2
                go_ret
                exact ⟨rfl, below_drewN bel14 _⟩
            -- PF]
        -- PD]
end Go.Proofs.Ytolbibpmngmpdaa
