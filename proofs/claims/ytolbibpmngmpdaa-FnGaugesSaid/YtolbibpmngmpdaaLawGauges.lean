/-
  The law FnGauges returns true for all arguments, and writes nothing that was there.
-/
import Derived.Test.YtolbibpmngmpdaaGaB
import Derived.Deep.RegionHeld3
import Derived.Deep.CutRange
import Derived.BigQuiet
import Derived.Deep.QuietTactic
namespace Go.Proofs.Ytolbibpmngmpdaa
open Go.RowKit Fl Mem
set_option linter.unusedVariables false
set_option maxRecDepth 100000

theorem own_cellF {w : World} {base : Nat} {e : TypeId} {g n c : Nat} {xs : List Value} (h : w.ownsRow base e 1 (.slice (some ⟨g, 0, none⟩) n c) n xs) {i : Nat} {u : Value} (hu : xs[i]? = some u) : w.cell? ⟨g, i, none⟩ = some u := by
  have := h.cells (g := g) rfl i u hu
  simpa [Addr.add_lit] using this
set_option maxHeartbeats 8000000 in
theorem law_Gauges (A0 : Option Addr) (n0 c0 : Nat) (xs0 : List Int) (A1 : Option Addr) (n1 c1 : Nat) (xs1 : List Int) (w : World)
    (hA0 : Reads w w.heap.size 1 A0 n0 (xs0.map (Value.int .u8))) (hn0 : n0 ≤ c0) (hc0 : c0 ≤ maxLen) (hw0 : ∀ a ∈ xs0, (Lit.int .u8 a).wf = true)
    (hA1 : Reads w w.heap.size 1 A1 n1 (xs1.map (Value.int .u8))) (hn1 : n1 ≤ c1) (hc1 : c1 ≤ maxLen) (hw1 : ∀ a ∈ xs1, (Lit.int .u8 a).wf = true) :
    Calls Try.prog 5 #[.slice A0 n0 c0, .slice A1 n1 c1] w fun e w' => e = .returned (.bool true) ∧ Below w.heap.size w w' := by
  by_cases hL : 1048576 < n0 ∨ 1048576 < n1
  · go_enter Try.func5, Try.ntmps5
    go_wp2_with (go_at_call 24; refine (l_b10Long_yes hL).mono ?_; rintro e w' ⟨rfl, rfl⟩)
    go_ret
    exact ⟨rfl, Below.refl _ _⟩
  have hz0 : n0 ≤ 1048576 := by omega
  have hz1 : n1 ≤ 1048576 := by omega
  clear hL hn0 hn1 hc0 hc1
  go_enter Try.func5, Try.ntmps5
  go_wp2_with fail
  refine (l_b10Long_no hz0 hz1).mono ?_
  rintro e w' ⟨rfl, rfl⟩
  go_wp2_with fail
  refine (l_b10At hA1 hw1 hz1 (by omega) (by omega) (by omega) (by omega)).mono ?_
  rintro e w' ⟨v0, rfl, p0, p1, rfl⟩
  obtain ⟨n, hn⟩ : ∃ n : Nat, (2 : Int) + v0 = (n : Int) := ⟨(2 + v0).toNat, by omega⟩
  have n2 : 2 ≤ n := by omega
  have n21 : n ≤ 21 := by omega
  clear p0 p1
  go_wp2_with fail
  refine (s_B10List (N := n) hA0 hw0 hz0 (by omega)).mono ?_
  rintro e w1 ⟨va, xs, rfl, hown, hof, hb1⟩
  obtain ⟨ga, ca, rfl⟩ := own_addr hown (by omega)
  have hlx := (Reads.of_own hown).map_len
  have hS : Sg xs := ⟨hof.out, by omega, by omega⟩
  have hS1 := hb1.size
  have n100 : n ≤ 100 := by omega
  have HS := hide hS
  have HL := hide hlx
  clear hof hA0 hw0 hz0 hn hS hlx
  go_wp2_with fail
  refine (c_Root HS.out (Reads.of_own hown) n100).mono ?_
  rintro e w2 ⟨rfl, hb2⟩
  have how2 := own_below hown hb2
  have bel2 := hb1.trans (hb2.mono hS1)
  clear hb2 hown hb1
  obtain ⟨R, hR⟩ : ∃ R, rpR xs = R := ⟨_, rfl⟩
  rw [hR]
  go_wp2_with fail
  refine (i_PeakRatio (Reads.of_own how2) (by unfold maxLen; omega)).mono ?_
  rintro e w3 ⟨z1, rfl, hz1', hb3⟩
  have how3 := own_below how2 hb3
  have bel3 := bel2.trans (hb3.mono bel2.size)
  have r1 := ratio_pr HS.out hz1'.out
  obtain ⟨pb, hpb⟩ : ∃ pb, prOk xs = pb := ⟨_, rfl⟩
  rw [hpb] at r1
  rw [hpb]
  clear hb3 how2 bel2 hz1'
  go_wp2_with fail
  refine (s_PeakRatio (Reads.of_own how3) (by unfold maxLen; omega)).mono ?_
  rintro e w4 ⟨z2, rfl, _, hb4⟩
  have how4 := own_below how3 hb4
  have bel4 := bel3.trans (hb4.mono bel3.size)
  rw [hpb]
  clear hb4 how3 bel3
  go_wp2_with fail
  refine (i_FourthRatio (Reads.of_own how4) (by unfold maxLen; omega)).mono ?_
  rintro e w5 ⟨z3, rfl, hz3, hb5⟩
  have how5 := own_below how4 hb5
  have bel5 := bel4.trans (hb5.mono bel4.size)
  have r2 := ratio_fr HS.out hz3.out
  obtain ⟨fb_, hfb⟩ : ∃ fb_, frOk xs = fb_ := ⟨_, rfl⟩
  rw [hfb] at r2
  rw [hfb]
  clear hb5 how4 bel4 hz3
  go_wp2_with fail
  refine (s_FourthRatio (Reads.of_own how5) (by unfold maxLen; omega)).mono ?_
  rintro e w6 ⟨z4, rfl, _, hb6⟩
  have how6 := own_below how5 hb6
  have bel6 := bel5.trans (hb6.mono bel5.size)
  rw [hfb]
  clear hb6 how5 bel5 hpb hfb
  have HX : Hid (∀ k, k < n → w6.cell? ⟨ga, k, none⟩ = some (.float .f32 (xs.getD k 0))) := hide (fun k hk => own_cellF how6 (by
    unfold fl
    rw [List.getElem?_map, List.getD_eq_getElem?_getD, List.getElem?_eq_getElem (by rw [HL.out]; exact hk)]; rfl))
  have HQ : Hid (∀ k, k < n → ∃ X P, xs.getD k 0 = X ∧ ((∀ W : World, cvR .f32 .f64 X W = wide X) ∧ cvN .f32 .f64 X = 0) ∧ ((∀ W, flR .mul .f64 (wide X) (wide X) W = P) ∧ flN .mul .f64 (wide X) (wide X) = 0) ∧ ((∀ W, flR .add .f64 (sqW xs k) P W = sqW xs (k + 1)) ∧ flN .add .f64 (sqW xs k) P = 0)) := hide (fun k hk => by
    have hx := HS.out.at_ (getD_mem (show k < xs.length by rw [HL.out]; exact hk))
    obtain ⟨_, m1, _⟩ := mul_q hx
    obtain ⟨⟨x1, _⟩, _⟩ := qF_gr hx
    have hsq := fin_nn64 (sqW_ok HS.out (k + 1) (by rw [HL.out]; omega)).1
    exact ⟨_, _, rfl, cv_fn x1, ⟨fun W => flR_num (fin_nn64 m1) W, flN_num (fin_nn64 m1)⟩, ⟨fun W => flR_num hsq W, flN_num hsq⟩⟩)
  have HOW := hide how6
  clear how6
  -- [GA
  go_wp2_with fail
  go_loopw [17, 72] (fun v17 v72 wr => ∃ k m : Nat, k ≤ n ∧ v72 = .int .i64 (k : Int) ∧ v17 = .float .f64 (sqW xs k) ∧ wr = w6.drewN m) (fun _ v72 _ => n - (intOf v72).toNat)
  case atStart => exact ⟨0, 0, Nat.zero_le _, rfl, rfl, rfl⟩
  case round =>
    obtain ⟨k, m, hk, rfl, rfl, rfl⟩ := hrel
    by_cases hkt : k < n
    · have kI : (k : Int) < (n : Int) := by omega
      have hc := HX.out k hkt
      obtain ⟨X, P, hX, ⟨v1, v1n⟩, ⟨q1, q1n⟩, ⟨a1, a1n⟩⟩ := HQ.out k hkt
      rw [hX] at hc
      obtain ⟨SQ, hSQ⟩ : ∃ SQ, sqW xs k = SQ := ⟨_, rfl⟩
      obtain ⟨SQ2, hSQ2⟩ : ∃ SQ2, sqW xs (k + 1) = SQ2 := ⟨_, rfl⟩
      rw [hSQ, hSQ2] at a1
      rw [hSQ] at a1n ⊢
      have H2 := hide hSQ2
      have hcw : (w6.drewN m).cell? ⟨ga, k, none⟩ = some (.float .f32 X) := hc
      clear hSQ hSQ2 hX
      go_wp2
      go_quiet (fail)
      go_wp2
      go_roundw
      case rel => exact ⟨k + 1, _, by omega, by go_num, by rw [H2.out], rfl⟩
      case measure => simp [intOf]; omega
    · obtain rfl : k = n := by omega
      obtain ⟨w7, hw7⟩ : ∃ w7, w6.drewN m = w7 := ⟨_, rfl⟩
      have bel7 : Below w.heap.size w w7 := by rw [← hw7]; exact below_drewN bel6 m
      have how7 : w7.ownsRow w.heap.size 27 1 (.slice (some ⟨ga, 0, none⟩) k ca) k (fl .f32 xs) := by rw [← hw7]; exact own_drewN HOW.out m
      rw [hw7]
      clear hw7 HX HQ HOW bel6
      have HB7 := hide bel7
      have HOW7 := hide how7
      obtain ⟨c1, c2, c3, c4, c5, c6, c7, c8⟩ := root_chk HS.out
      rw [HL.out, hR] at c3 c6 c7 c8
      rw [HL.out] at c4 c5
      rw [hR] at c1 c2
      obtain ⟨SQ, hSQ⟩ : ∃ SQ, sqW xs k = SQ := ⟨_, rfl⟩
      rw [hSQ] at c4 c5 c6 c7 c8 ⊢
      obtain ⟨vR, vRn⟩ := cv_fn c1
      obtain ⟨WR, hWR⟩ : ∃ WR, wide R = WR := ⟨_, rfl⟩
      rw [hWR] at vR c2 c3 c6 c7 c8
      obtain ⟨RR, hRR⟩ : ∃ RR, fb .mul .f64 WR WR = RR := ⟨_, rfl⟩
      have d1 : ∀ W, flR .mul .f64 WR WR W = RR := fun W => by rw [← hRR]; exact flR_num (fin_nn64 c2) W
      have d1n : flN .mul .f64 WR WR = 0 := flN_num (fin_nn64 c2)
      rw [hRR] at c3 c6 c7 c8
      obtain ⟨RN, hRN⟩ : ∃ RN, fb .mul .f64 RR (floatOfInt .f64 (k : Int)) = RN := ⟨_, rfl⟩
      have d2 : ∀ W, flR .mul .f64 RR (floatOfInt .f64 (k : Int)) W = RN := fun W => by rw [← hRN]; exact flR_num (fin_nn64 c3) W
      have d2n : flN .mul .f64 RR (floatOfInt .f64 (k : Int)) = 0 := flN_num (fin_nn64 c3)
      rw [hRN] at c6 c7 c8
      obtain ⟨S1, hS1'⟩ : ∃ S1, fb .add .f64 4607182418800017408 SQ = S1 := ⟨_, rfl⟩
      have d3 : ∀ W, flR .add .f64 4607182418800017408 SQ W = S1 := fun W => by rw [← hS1']; exact flR_num (fin_nn64 c4) W
      have d3n : flN .add .f64 4607182418800017408 SQ = 0 := flN_num (fin_nn64 c4)
      rw [hS1'] at c5 c8
      obtain ⟨S2, hS2⟩ : ∃ S2, fb .mul .f64 4562254508917369340 S1 = S2 := ⟨_, rfl⟩
      have d4 : ∀ W, flR .mul .f64 4562254508917369340 S1 W = S2 := fun W => by rw [← hS2]; exact flR_num (fin_nn64 c5) W
      have d4n : flN .mul .f64 4562254508917369340 S1 = 0 := flN_num (fin_nn64 c5)
      rw [hS2] at c8
      obtain ⟨GP, hGP⟩ : ∃ GP, gap64 RN SQ = GP := ⟨_, rfl⟩
      have C1 : Hid (∀ W, Calls Try.prog 32 #[.float .f64 RN, .float .f64 SQ] W fun e w' => e = .returned (.float .f64 GP) ∧ ∃ m, w' = W.drewN m) := hide (fun W => by rw [← hGP]; exact l_b10Gap c6 c7)
      rw [hGP] at c8
      clear hSQ hWR hRR hRN hS1' hS2 hGP c1 c2 c3 c4 c5 c6 c7 how7 bel7 hR
      go_upto_region 16 with (fail)
      go_cut [132] from 89 to 132 (fun s wx => s = .bool false ∧ ∃ m, wx = w7.drewN m)
      case first =>
        -- [GB
        as_aux_lemma =>
          cases pb <;> cases fb_
          · clear r1 r2
            go_wp2_with fail
            refine (C1.out _).mono ?_
            rintro e w' ⟨rfl, mg, rfl⟩
            go_wp2_with fail
            go_meet
            exact ⟨rfl, _, rfl⟩
          · obtain ⟨f1, f2⟩ := r2.yes rfl
            obtain ⟨v2, v2n⟩ := cv_fn f1
            clear r1 r2 f1
            go_wp2_with fail
            refine (C1.out _).mono ?_
            rintro e w' ⟨rfl, mg, rfl⟩
            go_wp2_with fail
            go_meet
            exact ⟨rfl, _, rfl⟩
          · obtain ⟨f1, f2⟩ := r1.yes rfl
            obtain ⟨v2, v2n⟩ := cv_fn f1
            clear r1 r2 f1
            go_wp2_with fail
            refine (C1.out _).mono ?_
            rintro e w' ⟨rfl, mg, rfl⟩
            go_wp2_with fail
            go_meet
            exact ⟨rfl, _, rfl⟩
          · obtain ⟨f1, f2⟩ := r1.yes rfl
            obtain ⟨v2, v2n⟩ := cv_fn f1
            obtain ⟨f3, f4⟩ := r2.yes rfl
            obtain ⟨v3, v3n⟩ := cv_fn f3
            clear r1 r2 f1 f3
            go_wp2_with fail
            refine (C1.out _).mono ?_
            rintro e w' ⟨rfl, mg, rfl⟩
            go_wp2_with fail
            go_meet
            exact ⟨rfl, _, rfl⟩
        -- GB]
      case rest =>
      obtain ⟨rfl, m8, rfl⟩ := hcut
      -- [GC
      have bel8 := below_drewN HB7.out m8
      have how8 := own_drewN HOW7.out m8
      obtain ⟨w8, hw8⟩ : ∃ w8, w7.drewN m8 = w8 := ⟨_, rfl⟩
      rw [hw8] at bel8 how8 ⊢
      clear hw8 HB7 HOW7 C1 c8 d1 d1n d2 d2n d3 d3n d4 d4n vR vRn r1 r2
      have hA8 := hA1.below bel8
      go_wp2_with fail
      refine (l_b10At hA8 hw1 hz1 (by omega) (by omega) (by omega) (by omega)).mono ?_
      rintro e w' ⟨vp, rfl, p0, p1, rfl⟩
      obtain ⟨p, hp⟩ : ∃ p : Nat, (1 : Int) + vp = (p : Int) := ⟨(1 + vp).toNat, by omega⟩
      have pp1 : 1 ≤ p := by omega
      have ppk : p ≤ k := by omega
      clear p0 p1 hA8
      go_wp2_with fail
      refine (c_Mean HS.out (Reads.of_own how8) n100 pp1 ppk).mono ?_
      rintro e w9 ⟨vm, rfl, hom, hb9⟩
      obtain ⟨gm, cm, rfl⟩ := own_addr hom (by omega)
      have how9 := own_below how8 hb9
      have bel9 := bel8.trans (hb9.mono bel8.size)
      clear hb9 how8 hp
      go_wp2_with fail
      refine (c_Rest HS.out (Reads.of_own how9) n100 pp1 ppk).mono ?_
      rintro e w10 ⟨vr, rfl, hor, hb10⟩
      obtain ⟨gr, cr, rfl⟩ := own_addr hor (by omega)
      have how10 := own_below how9 hb10
      have hom10 := own_below hom hb10
      have bel10 := bel9.trans (hb10.mono bel9.size)
      have HK : Hid (∀ i, i < k → ∃ X Y M : Nat, w10.cell? ⟨ga, i, none⟩ = some (.float .f32 X) ∧ w10.cell? ⟨gm, i % p, none⟩ = some (.float .f32 M) ∧ w10.cell? ⟨gr, i, none⟩ = some (.float .f32 Y) ∧ i % p < p ∧
          ((∀ W : World, cvR .f32 .f64 X W = wide X) ∧ cvN .f32 .f64 X = 0) ∧ ((∀ W : World, cvR .f32 .f64 Y W = wide Y) ∧ cvN .f32 .f64 Y = 0) ∧ ((∀ W : World, cvR .f32 .f64 M W = wide M) ∧ cvN .f32 .f64 M = 0) ∧
          ∃ S G : Nat, ((∀ W, flR .add .f64 (wide Y) (wide M) W = S) ∧ flN .add .f64 (wide Y) (wide M) = 0) ∧ (∀ W, Calls Try.prog 32 #[.float .f64 S, .float .f64 (wide X)] W fun e w' => e = .returned (.float .f64 G) ∧ ∃ m, w' = W.drewN m) ∧ (FloatKind.f64.format.order G 4562254508917369340 == some .gt) = false) := hide (fun i hi => by
        have hip := Nat.mod_lt i (show 0 < p by omega)
        have hx := HS.out.at_ (getD_mem (show i < xs.length by rw [HL.out]; exact hi))
        obtain ⟨⟨x1, _⟩, _, _, x2, x3⟩ := qF_gr hx
        have hpx : p ≤ xs.length := by rw [HL.out]; exact ppk
        obtain ⟨t1, t2, t3⟩ := turn_at HS.out hpx hip
        have hn := rest_near HS.out pp1 hpx (show i < xs.length by rw [HL.out]; exact hi)
        have ex : (fl .f32 xs)[i]? = some (.float .f32 (xs.getD i 0)) := by
          unfold fl
          rw [List.getElem?_map, List.getD_eq_getElem?_getD, List.getElem?_eq_getElem (by rw [HL.out]; exact hi)]; rfl
        have em : (fl .f32 (turnL xs p))[i % p]? = some (.float .f32 ((turnL xs p).getD (i % p) 0)) := by
          unfold fl
          rw [List.getElem?_map, List.getD_eq_getElem?_getD, List.getElem?_eq_getElem (by rw [turnL_len]; exact hip)]; rfl
        have er : (fl .f32 (restTo xs p k))[i]? = some (.float .f32 (fb .sub .f32 (xs.getD i 0) ((turnL xs p).getD (i % p) 0))) := by
          unfold fl restTo
          rw [List.getElem?_map, List.getElem?_map, List.getElem?_range hi]; rfl
        generalize (turnL xs p).getD (i % p) 0 = M at *
        generalize xs.getD i 0 = X at *
        have hb := big12
        obtain ⟨y1, y2⟩ := re_sub x1 t1 (by grind) (by grind)
        have y3 := y2 10 (by grind) (by grind)
        rw [uu32] at y3
        obtain ⟨wx, ux⟩ := re_wide x1
        obtain ⟨wy, uy⟩ := re_wide y1
        obtain ⟨wm, um⟩ := re_wide t1
        obtain ⟨s1, s2, s3⟩ := f64_add wy wm (by rw [uy, um]; grind) (by rw [uy, um]; grind)
        rw [uy, um] at s2 s3
        obtain ⟨g1, g2⟩ := gap_nn s1 wx (by rw [ux]; grind) (by rw [ux]; grind)
        exact ⟨X, _, M, own_cellF how10 ex, own_cellF hom10 em, own_cellF hor er, hip, cv_fn x1, cv_fn y1, cv_fn t1, _, _, ⟨fun W => flR_num (fin_nn64 s1) W, flN_num (fin_nn64 s1)⟩, fun W => l_b10Gap g1 g2, hn⟩)
      have HOW := hide how10
      have HB := hide bel10
      clear hb10 how9 hom hor how10 hom10 bel9 bel10 bel8
      have pI : (0 : Int) < (p : Int) := by omega
      go_wp2_with fail
      go_loopw [169] (fun v169 wr => ∃ i m : Nat, i ≤ k ∧ v169 = .int .i64 (i : Int) ∧ wr = w10.drewN m) (fun v169 _ => k - (intOf v169).toNat)
      case atStart => exact ⟨0, 0, Nat.zero_le _, rfl, rfl⟩
      case round =>
        obtain ⟨i, m, hi, rfl, rfl⟩ := hrel
        by_cases hik : i < k
        ·
          -- [GD
          as_aux_lemma =>
            have iI : (i : Int) < (k : Int) := by omega
            obtain ⟨X, Y, M, h1, h2, h3, h4, ⟨v1, v1n⟩, ⟨v2, v2n⟩, ⟨v3, v3n⟩, S, G, ⟨s1, s1n⟩, hg, ho⟩ := HK.out i hik
            have HG := hide hg
            obtain ⟨wq, hwq⟩ : ∃ wq, w10.drewN m = wq := ⟨_, rfl⟩
            have HWq := hide hwq
            have j1 : wq.cell? ⟨ga, i, none⟩ = some (.float .f32 X) := by rw [← hwq]; exact h1
            have j2 : wq.cell? ⟨gm, i % p, none⟩ = some (.float .f32 M) := by rw [← hwq]; exact h2
            have j3 : wq.cell? ⟨gr, i, none⟩ = some (.float .f32 Y) := by rw [← hwq]; exact h3
            rw [hwq]
            clear hwq h1 h2 h3 hg
            go_wp2
            go_quiet ((go_at_call 32; exact Calls.quiet_of (HG.out _)))
            go_wp2
            go_roundw
            case rel => exact ⟨i + 1, _, by omega, by go_num, by rw [← HWq.out, World.drewN_drewN]⟩
            case measure => simp [intOf]; omega
          -- GD]
        · obtain rfl : i = k := by omega
          -- [GE
          obtain ⟨w11, hw11⟩ : ∃ w11, w10.drewN m = w11 := ⟨_, rfl⟩
          have bel11 : Below w.heap.size w w11 := by rw [← hw11]; exact below_drewN HB.out m
          have how11 : w11.ownsRow w.heap.size 27 1 (.slice (some ⟨ga, 0, none⟩) i ca) i (fl .f32 xs) := by rw [← hw11]; exact own_drewN HOW.out m
          rw [hw11]
          clear hw11 HK HB HOW
          have hA11 := hA1.below bel11
          go_wp2_with fail
          refine (l_b10At hA11 hw1 hz1 (by omega) (by omega) (by omega) (by omega)).mono ?_
          rintro e w' ⟨vi, rfl, p0, p1, rfl⟩
          obtain ⟨j, rfl⟩ := Int.eq_ofNat_of_zero_le p0
          obtain ⟨lm, hlm⟩ : ∃ lm : Nat, (i : Int) - 1 = (lm : Int) := ⟨i - 1, by omega⟩
          have jl : j + 1 < i := by omega
          have li : lm + 1 = i := by omega
          clear p0 p1
          obtain ⟨AT, MD, MA, MQ, HT, ho, hR3, f3⟩ := place_told HS.out (i := j) (m := lm) (by rw [HL.out]; exact jl) (by rw [HL.out]; exact li)
          obtain ⟨HW, hHW⟩ : ∃ HW, hfW j = HW := ⟨_, rfl⟩
          have fH := (place_tab j (by omega)).2.2.2.2.2
          have hw2 : ∀ W, flR .add .f32 (floatOfInt .f32 (j : Int)) 1056964608 W = HW := fun W => by rw [← hHW]; exact flR_num (fin_n32 fH) W
          have hw2n : flN .add .f32 (floatOfInt .f32 (j : Int)) 1056964608 = 0 := flN_num (fin_n32 fH)
          have HP := hide (And.intro ho (And.intro hR3 f3))
          clear ho hR3 fH
          go_wp2_with fail
          rw [← hHW]
          refine (c_Places (i := j) (m := lm) HS.out (((Reads.of_own how11).alloc (Nat.le_refl _) _).more (by simp)) n100 (reads_new (Value.float .f32) _ _ [floatOfInt .f32 (j : Int), hfW j, floatOfInt .f32 (lm : Int)]) HP.out.1 HP.out.2.1 HT.f1 HT.f2 HP.out.2.2).mono ?_
          rintro e w12 ⟨g3, c3, rfl, ho3, hb12⟩
          have bel12 : Below w.heap.size w w12 := (bel11.alloc bel11.size _).trans (hb12.mono (Nat.le_trans bel11.size (by simp)))
          have how12 := own_below (how11.alloc _) hb12
          rw [hHW]
          have hX : ∀ q, q < i → w12.cell? ⟨ga, q, none⟩ = some (.float .f32 (xs.getD q 0)) ∧ fin .f32 (xs.getD q 0) = true := fun q hq => by
            have hx := HS.out.at_ (getD_mem (show q < xs.length by rw [HL.out]; exact hq))
            refine ⟨own_cellF how12 ?_, (qF_gr hx).1.1⟩
            unfold fl
            rw [List.getElem?_map, List.getD_eq_getElem?_getD, List.getElem?_eq_getElem (by rw [HL.out]; exact hq)]; rfl
          obtain ⟨x0, f0⟩ := hX j (by omega)
          obtain ⟨x1, f1⟩ := hX (j + 1) jl
          obtain ⟨x2, f2⟩ := hX lm (by omega)
          have d0 : w12.cell? ⟨g3, 0, none⟩ = some (.float .f32 AT) := own_cellF ho3 rfl
          have d1 : w12.cell? ⟨g3, 1, none⟩ = some (.float .f32 MD) := own_cellF ho3 rfl
          have d2 : w12.cell? ⟨g3, 2, none⟩ = some (.float .f32 (xs.getD lm 0)) := own_cellF ho3 rfl
          obtain ⟨X0, hX0⟩ : ∃ X0, xs.getD j 0 = X0 := ⟨_, rfl⟩
          obtain ⟨X1, hX1⟩ : ∃ X1, xs.getD (j + 1) 0 = X1 := ⟨_, rfl⟩
          obtain ⟨X2, hX2⟩ : ∃ X2, xs.getD lm 0 = X2 := ⟨_, rfl⟩
          rw [hX0] at x0 f0 HT
          rw [hX1] at x1 f1 HT
          rw [hX2] at x2 f2 d2
          have o2 : (FloatKind.f32.format.order X2 X2 != some .eq) = false := by rw [order_self, fin_n32 f2]; rfl
          obtain ⟨u1, u2, o1, u4, u5, ma, mq, b1, b2, o3⟩ := HT
          obtain ⟨y0, y0n⟩ := cv_fn f0
          obtain ⟨y1, y1n⟩ := cv_fn f1
          obtain ⟨y2, y2n⟩ := cv_fn u2
          have y3 : ∀ W, flR .add .f64 (wide X0) (wide X1) W = MA := fun W => by rw [← ma]; exact flR_num (fin_nn64 (by rw [ma]; exact u4)) W
          have y3n : flN .add .f64 (wide X0) (wide X1) = 0 := flN_num (fin_nn64 (by rw [ma]; exact u4))
          have y4 : ∀ W, flR .quo .f64 MA 4611686018427387904 W = MQ := fun W => by rw [← mq]; exact flR_num (fin_nn64 (by rw [mq]; exact u5)) W
          have y4n : flN .quo .f64 MA 4611686018427387904 = 0 := flN_num (fin_nn64 (by rw [mq]; exact u5))
          obtain ⟨GM, hGM⟩ : ∃ GM, gap64 (wide MD) MQ = GM := ⟨_, rfl⟩
          have C2 : Hid (∀ W, Calls Try.prog 32 #[.float .f64 (wide MD), .float .f64 MQ] W fun e w' => e = .returned (.float .f64 GM) ∧ ∃ m, w' = W.drewN m) := hide (fun W => by rw [← hGM]; exact l_b10Gap b1 b2)
          rw [hGM] at o3
          have HB12 := hide bel12
          have HOW12 := hide how12
          clear hX hX0 hX1 hX2 hGM ma mq b1 b2 u1 u2 u4 u5 f0 f1 f2 hb12 how11 bel11 ho3 hA11 HP hw2 hw2n hHW f3 bel12 how12
          go_upto_region 31 with (fail)
          go_cut [259] from 211 to 259 (fun s wx => s = .bool false ∧ ∃ m, wx = w12.drewN m)
          case first =>
            -- [GF
            as_aux_lemma =>
              go_quiet ((go_at_call 32; exact Calls.quiet_of (C2.out _)))
              go_wp2_with fail
              go_meet
              exact ⟨rfl, _, rfl⟩
            -- GF]
          case rest =>
          obtain ⟨rfl, m12, rfl⟩ := hcut
          -- [GG
          as_aux_lemma =>
            have bel13 := below_drewN HB12.out m12
            have how13 := own_drewN HOW12.out m12
            obtain ⟨w13, hw13⟩ : ∃ w13, w12.drewN m12 = w13 := ⟨_, rfl⟩
            rw [hw13] at bel13 how13 ⊢
            clear hw13 HB12 HOW12 C2 y0 y0n y1 y1n y2 y2n y3 y3n y4 y4n o1 o2 o3 x0 x1 x2 d0 d1 d2 hlm
            have hA13 := hA1.below bel13
            go_wp2_with fail
            refine (l_b10At hA13 hw1 hz1 (by omega) (by omega) (by omega) (by omega)).mono ?_
            rintro e w' ⟨vb, rfl, p0, p1, rfl⟩
            obtain ⟨b, rfl⟩ := Int.eq_ofNat_of_zero_le p0
            have b16 : b < 16 := by omega
            clear p0 p1
            have eb : (1 : Int) + (b : Int) = ((b + 1 : Nat) : Int) := by omega
            obtain ⟨nb, hnb⟩ : ∃ nb, b + 1 = nb := ⟨_, rfl⟩
            rw [hnb] at eb
            have HNB := hide hnb
            clear hnb
            go_wp2_with fail
            refine (l_b10At hA13 hw1 hz1 (by omega) (by omega) (by omega) (by omega)).mono ?_
            rintro e w' ⟨vc, rfl, p0, p1, rfl⟩
            obtain ⟨j2, rfl⟩ := Int.eq_ofNat_of_zero_le p0
            have j15 : j2 < 15 := by omega
            clear p0 p1 eb
            obtain ⟨RT, hRT⟩ : ∃ RT, shW (j2 + 1) = RT := ⟨_, rfl⟩
            have e1 : (((j2 + 1 : Nat)) : Int) = (1 : Int) + (j2 : Int) := by omega
            have fRT := (sh_br j2 j15).2.2.1
            have z1' : ∀ W, flR .quo .f32 (floatOfInt .f32 ((1 : Int) + (j2 : Int))) 1098907648 W = RT := fun W => by
              rw [← hRT, ← e1]; exact flR_num (fin_n32 fRT) W
            have z1n : flN .quo .f32 (floatOfInt .f32 ((1 : Int) + (j2 : Int))) 1098907648 = 0 := by rw [← e1]; exact flN_num (fin_n32 fRT)
            have HRT := hide hRT
            clear hRT e1 fRT
            go_wp2_with fail
            refine (l_b10At hA13 hw1 hz1 (by omega) (by omega) (by omega) (by omega)).mono ?_
            rintro e w' ⟨vd, rfl, p0, p1, rfl⟩
            obtain ⟨a2, rfl⟩ := Int.eq_ofNat_of_zero_le p0
            have a9 : a2 < 9 := by omega
            clear p0 p1 z1' z1n hA13
            obtain ⟨AW, hAW⟩ : ∃ AW, angW a2 = AW := ⟨_, rfl⟩
            have fAW := (cos_tab a2 a9).1
            have z2' : ∀ W, flR .quo .f32 (floatOfInt .f32 (a2 : Int)) 1115684864 W = AW := fun W => by
              rw [← hAW]; exact flR_num (fin_n32 fAW) W
            have z2n : flN .quo .f32 (floatOfInt .f32 (a2 : Int)) 1115684864 = 0 := flN_num (fin_n32 fAW)
            obtain ⟨q0, q1, q2, q3, SB, PB, HBr, hbo, hbr, fq3⟩ := bear_ok b16 j15 a9
            rw [HNB.out, HRT.out, hAW] at hbo hbr
            rw [HNB.out] at HBr
            clear hAW fAW
            go_wp2_with fail
            refine (c_Bear hbo hbr HBr.f0 HBr.f1 HBr.f2 fq3).mono ?_
            rintro e w14 ⟨gb, cb, rfl, hob, hb14⟩
            have bel14 := bel13.trans (hb14.mono bel13.size)
            have how14 := own_below how13 hb14
            clear hbo hbr fq3 z2' z2n hb14 bel13 how13
            go_wp2_with fail
            refine (i_RatePowers (((Reads.of_own how14).alloc (Nat.le_refl _) _).more (by simp)) HS.out (reads_new (Value.float .f32) _ _ [0, 1056964608])).mono ?_
            rintro e w15 ⟨v15, rfl, hop, hb15⟩
            obtain ⟨gp, cp, rfl⟩ := own_addr hop (by omega)
            have bel15 : Below w.heap.size w w15 := (bel14.alloc bel14.size _).trans (hb15.mono (Nat.le_trans bel14.size (by simp)))
            have how15 := own_below (how14.alloc _) hb15
            have hob15 := own_below (hob.alloc _) hb15
            clear hb15 bel14 how14 hob
            go_wp2_with fail
            refine (s_RatePowers (((Reads.of_own how15).alloc (Nat.le_refl _) _).more (by simp)) HS.out (reads_new (Value.float .f32) _ _ [0, 1056964608])).mono ?_
            rintro e w16 ⟨v16, rfl, hos, hb16⟩
            obtain ⟨gs, cs, rfl⟩ := own_addr hos (by omega)
            have bel16 : Below w.heap.size w w16 := (bel15.alloc bel15.size _).trans (hb16.mono (Nat.le_trans bel15.size (by simp)))
            have hop16 := own_below (hop.alloc _) hb16
            have hob16 := own_below (hob15.alloc _) hb16
            have t0 : w16.cell? ⟨gb, 0, none⟩ = some (.float .f32 q0) := own_cellF hob16 rfl
            have t1 : w16.cell? ⟨gb, 1, none⟩ = some (.float .f32 q1) := own_cellF hob16 rfl
            have t2 : w16.cell? ⟨gb, 2, none⟩ = some (.float .f32 q2) := own_cellF hob16 rfl
            have C5 : Hid (∀ q, Calls Try.prog 39 #[.slice (some ⟨gp, 0, none⟩) 2 cp, .slice (some ⟨gs, 0, none⟩) 2 cs] (w16.drewN q) fun e w' => e = .returned (.bool true) ∧ ∃ m, w' = (w16.drewN q).drewN m) := hide (fun q => by
              have wa : Wf .f32 (rpA xs) := wf_fb _ _ _ _
              have wb : Wf .f32 (rpB xs) := wf_fb _ _ _ _
              exact l_b10List2 ((Reads.of_own hop16).drewN q) ((Reads.of_own hos).drewN q) wa wb)
            have HB16 := hide bel16
            clear hb16 bel15 how15 hob15 hop hos hop16 hob16 bel16
            obtain ⟨f0, f1, f2, hs1, fs, hp1, fp, b1, b2, b3, b4, k1, k2⟩ := HBr
            obtain ⟨y0, y0n⟩ := cv_fn f0
            obtain ⟨y1, y1n⟩ := cv_fn f1
            obtain ⟨y2, y2n⟩ := cv_fn f2
            obtain ⟨W0, hW0⟩ : ∃ W0, wide q0 = W0 := ⟨_, rfl⟩
            obtain ⟨W1, hW1⟩ : ∃ W1, wide q1 = W1 := ⟨_, rfl⟩
            obtain ⟨W2, hW2⟩ : ∃ W2, wide q2 = W2 := ⟨_, rfl⟩
            obtain ⟨FN, hFN⟩ : ∃ FN, floatOfInt .f64 (nb : Int) = FN := ⟨_, rfl⟩
            rw [hW0] at y0 hp1
            rw [hW1] at y1 hs1 b3 b4 k2
            rw [hW2] at y2 hs1
            rw [hFN] at hp1 b1 b2 k1
            have y3 : ∀ W, flR .add .f64 W1 W2 W = SB := fun W => by rw [← hs1]; exact flR_num (fin_nn64 (by rw [hs1]; exact fs)) W
            have y3n : flN .add .f64 W1 W2 = 0 := flN_num (fin_nn64 (by rw [hs1]; exact fs))
            have y4 : ∀ W, flR .mul .f64 FN W0 W = PB := fun W => by rw [← hp1]; exact flR_num (fin_nn64 (by rw [hp1]; exact fp)) W
            have y4n : flN .mul .f64 FN W0 = 0 := flN_num (fin_nn64 (by rw [hp1]; exact fp))
            obtain ⟨G1, hG1⟩ : ∃ G1, gap64 SB FN = G1 := ⟨_, rfl⟩
            obtain ⟨G2, hG2⟩ : ∃ G2, gap64 W1 PB = G2 := ⟨_, rfl⟩
            have C3 : Hid (∀ W, Calls Try.prog 32 #[.float .f64 SB, .float .f64 FN] W fun e w' => e = .returned (.float .f64 G1) ∧ ∃ m, w' = W.drewN m) := hide (fun W => by rw [← hG1]; exact l_b10Gap b1 b2)
            have C4 : Hid (∀ W, Calls Try.prog 32 #[.float .f64 W1, .float .f64 PB] W fun e w' => e = .returned (.float .f64 G2) ∧ ∃ m, w' = W.drewN m) := hide (fun W => by rw [← hG2]; exact l_b10Gap b3 b4)
            rw [hG1] at k1
            rw [hG2] at k2
            clear hG1 hG2 hs1 hp1 fs fp b1 b2 b3 b4 f0 f1 f2 HRT HNB HS HL hA1 hW0 hW1 hW2
            go_upto_region 38 with (fail)
            -- [GH
            refine wp_region_quiet_lit (by kernel_rfl) (by kernel_rfl) ?_
            iterate 24 (go_big_quiet_step (fail))
            go_big_quiet_step ((go_at_call 32; exact Calls.quiet_of (C3.out _)))
            iterate 14 (go_big_quiet_step (fail))
            go_big_quiet_step ((go_at_call 32; exact Calls.quiet_of (C4.out _)))
            iterate 5 (go_big_quiet_step (fail))
            go_big_quiet_step ((go_at_call 39; exact Calls.quiet_of (C5.out _)))
            iterate 2 (go_big_quiet_step (fail))
            refine wpQuiet_nil ?_
            intro _ hw'
            obtain ⟨nq, hw''⟩ := hw'
            subst hw''
            go_wp2
            go_ret
            exact ⟨rfl, below_drewN HB16.out _⟩
            -- GH]
          -- GG]
          -- GE]
      -- GC]
  -- GA]
end Go.Proofs.Ytolbibpmngmpdaa
