/-
  The chances of a sequence test: the reference's walk.
-/
import Derived.Test.YthfdgffgihjglaaChJ
import Derived.Test.YthfdgffgihjglaaSeqS
import Derived.Test.YthfdgffgihjglaaCap
namespace Go.Proofs.Ythfdgffgihjglaa
open Go.RowKit Mem Fl
set_option linter.unusedVariables false
set_option maxRecDepth 100000

theorem s_l02List_yes {A : Option Addr} {n c : Nat} {xs : List Nat} {w : World} {B : Nat} (h : Reads w B 1 A n (fl .f32 xs)) (hn : n ≤ maxLen) (hf : xs.all (fin .f32) = true) :
    Calls Try.prog 59 #[.slice A n c] w fun e w' => e = .returned (.tuple #[.slice A n c, .bool true]) ∧ ∃ m, w' = w.drewN m := by
  go_enter Try.func59, Try.ntmps59
  go_wp2_with (go_at_call 78; refine (s_l02Finite _ _ _ xs _ _ h hn).mono ?_; rintro e w' ⟨rfl, m', rfl⟩; rw [hf])
  go_ret2
  exact ⟨rfl, _, rfl⟩
theorem s_l02List_no {A : Option Addr} {n c : Nat} {xs : List Nat} {w : World} {B : Nat} (h : Reads w B 1 A n (fl .f32 xs)) (hn : n ≤ maxLen) (hf : xs.all (fin .f32) = false) :
    Calls Try.prog 59 #[.slice A n c] w fun e w' => e = .returned (.tuple #[.slice none 0 0, .bool false]) ∧ ∃ m, w' = w.drewN m := by
  go_enter Try.func59, Try.ntmps59
  go_wp2_with (go_at_call 78; refine (s_l02Finite _ _ _ xs _ _ h hn).mono ?_; rintro e w' ⟨rfl, m', rfl⟩; rw [hf])
  go_ret2
  exact ⟨rfl, _, rfl⟩
set_option maxHeartbeats 8000000 in
theorem s_SequenceChances_true {sh lo hi a b : Nat} {m : Nat} {w : World} (hm : m ≤ 64) (wl : Wf .f32 lo) (wh : Wf .f32 hi) (wa : Wf .f32 a) (wb : Wf .f32 b)
    (hok : seqOk lo hi a b = true) (hsh : shB sh = true) (hin : inB (m : Int) 0 64 = true) :
    Calls Try.prog 15 #[.float .f32 sh, .float .f32 lo, .float .f32 hi, .float .f32 a, .float .f32 b, .int .i64 (m : Int)] w fun e w' => ChRd w.heap.size sh lo hi a b (m : Int) e w' ∧ Below w.heap.size w w' := by
  have HO : Hid (chO sh lo hi a b (m : Int) = ((chSt (bars1 a b) (bars2 a b) (sUp lo hi) (sDn lo hi) sh m).2).all (fin .f32)) := hide (by unfold chO chOk chV; rw [hok, hsh, hin]; simp)
  have HV : Hid (chV sh lo hi a b (m : Int) = (chSt (bars1 a b) (bars2 a b) (sUp lo hi) (sDn lo hi) sh m).2) := hide (by unfold chV; simp)
  have HA : ∀ W, _ := fun W => s_l06Test (w := W) wl wh wa wb
  replace HA := hide HA
  have h2 := hok
  unfold seqOk barsOk at h2
  rw [Bool.and_eq_true, Bool.and_eq_true] at h2
  obtain ⟨q1, e1, e2, q2, Q1, k1, k2, D1, D2, Q2, k3, k4, L1, L2⟩ := seq_facts wl wh h2.2
  have HBb := hide (fun W => s_l06Bars (w := W) wa wb h2.1.1)
  replace Q1 := hide Q1
  replace D1 := hide D1
  replace D2 := hide D2
  replace Q2 := hide Q2
  have hL := hide (And.intro L1 L2)
  replace k1 := hide k1
  replace k2 := hide k2
  replace k3 := hide k3
  replace k4 := hide k4
  clear L1 L2 h2 wl wh wa wb
  go_enter Try.func15, Try.ntmps15
  go_wp2_with (first
    | (go_at_call 56; refine s_l02Share.mono ?_; rintro e w' ⟨rfl, rfl⟩; rw [hsh])
    | (go_at_call 51; refine (HA.out _).mono ?_; rintro e w' ⟨rfl, m1, rfl⟩; rw [hok])
    | (go_at_call 57; refine (s_l00In _ _ _ _).mono ?_; rintro e w' ⟨rfl, rfl⟩; rw [hin])
    | (go_at_call 52; refine (HBb.out _).mono ?_; rintro e w2 ⟨x1, x2, rfl, C1, C2, m2, rfl⟩)
    | (go_at_call 53; rw [Q1.out]; refine (s_l01Log k1.out k2.out).mono ?_; rintro e w3 ⟨x3, rfl, C3, m3, rfl⟩)
    | (go_at_call 53; rw [D1.out, D2.out, Q2.out]; refine (s_l01Log k3.out k4.out).mono ?_; rintro e w4 ⟨x4, rfl, C4, m4, rfl⟩))
  rw [← hL.out.1] at C3
  rw [← hL.out.2] at C4
  generalize bars1 a b = A at *
  generalize bars2 a b = B at *
  generalize sUp lo hi = up at *
  generalize sDn lo hi = dn at *
  clear hsh hin hok HA HBb Q1 D1 D2 Q2 hL k1 k2 k3 k4
  go_loopw [18, 20] (fun cv i wr => ∃ (k gc cc : Nat) (cs os : List Nat), k ≤ m ∧ i = .int .i64 ((k : Int) + 1) ∧ cv = .slice (some ⟨gc, 0, none⟩) (k + 1) cc ∧ Hid (cs.map (cn .f32) = (chSt A B up dn sh k).1) ∧ Hid (os.map (cn .f32) = (chSt A B up dn sh k).2) ∧ Hid (Blk wr gc 23 (fl .f32 cs).toArray) ∧ Hid (Blk wr (w.heap.size + 1) 23 (fl .f32 os).toArray) ∧ gc ≠ w.heap.size + 1 ∧ w.heap.size ≤ gc ∧ Below w.heap.size w wr) (fun _ i _ => m + 1 - (intOf i).toNat)
  case atStart => exact ⟨0, w.heap.size, 1, [1065353216], [0, 0, 0], Nat.zero_le _, rfl, rfl, hide one_told, hide zero3_told, hide ((blk_new' _ _ _ _ rfl).alloc _), hide (blk_new' _ _ _ _ (by simp)), by omega, by omega, ((below_drewN (Below.refl _ _) _).alloc (Nat.le_refl _) _).alloc (by simp) _⟩
  case round =>
    obtain ⟨k, gc, cc, cs, os, hk, rfl, rfl, hcs, hos, bC, bO, ne1, ne2, hbel⟩ := hrel
    rename World => wo
    have hcl : cs.length = k + 1 := (told_lenC hcs.out).trans (chSt_len A B up dn sh k).1
    have hol : os.length = 3 := (told_lenC hos.out).trans (chSt_len A B up dn sh k).2
    have hszo := hbel.size
    by_cases hlt : k < m
    · have hltI : (k : Int) + 1 ≤ (m : Int) := by omega
      have hrd := reads_blk bC.out hcl (by omega)
      obtain ⟨o2, ho2⟩ : ∃ z, os[2]? = some z := ⟨_, List.getElem?_eq_getElem (by omega)⟩
      have k2 := cell_blk bO.out ho2
      have f2 := bO.out.frozen 2
      have Ho2 := hide (told_at hos.out ho2)
      clear ho2
      have HTn := hide (told_fsum hcs.out)
      have hmk : ∀ W : World, (Instr.makeSlice 29 (.int .i64 ((k : Int) + 1 + 1)) (.int .i64 ((k : Int) + 1 + 1))).run Try.prog W = .ok (.slice (some ⟨W.heap.size, 0, none⟩) (k + 1 + 1) (k + 1 + 1)) (W.alloc (.cells (fl .f32 (List.replicate (k + 1 + 1) 0)).toArray 23)) := by
        intro W
        have := run_make1 29 23 (.float .f32 0) 4 info_f32 Try.underlying29 rfl (k + 1 + 1) (by omega) (by omega) W
        rw [show ((k + 1 + 1 : Nat) : Int) = (k : Int) + 1 + 1 by omega] at this
        rw [this]; simp
      go_wp2
      go_region_with (go_at_call 58; refine (s_l06Total (by first | exact hrd | exact hrd.drew | exact hrd.drewN _) (by unfold maxLen; omega)).mono ?_; rintro e w' ⟨z, rfl, hz, mz, rfl⟩)
      all_goals
        clear hrd k2 f2
        generalize hW : (World.drewN wo _).setCell _ _ = W
        have F2 : ∃ Z2, cn .f32 Z2 = fb .add .f32 o2 z ∧ Blk W (w.heap.size + 1) 23 (fl .f32 (os.set 2 Z2)).toArray ∧ Blk W gc 23 (fl .f32 cs).toArray ∧ Below w.heap.size w W := by
          rw [← hW]
          exact ⟨_, cn_flR _ _ _ _ _, blk_setF (Value.float .f32) (bO.out.drewN _), (bC.out.drewN _).far (by simp; try omega) _, (below_drewN hbel _).setCell (by simp; try omega) _⟩
        obtain ⟨Z2, hZ2, gO, gC, gbel⟩ := F2
        have HT : Hid ((os.set 2 Z2).map (cn .f32) = chTot (chSt A B up dn sh k).1 (chSt A B up dn sh k).2) := hide (told_set (i := 2) hos.out (hZ2.trans (by rw [← fb_cn, Ho2.out, hz.out, HTn.out])))
        have hol2 : (os.set 2 Z2).length = 3 := by rw [List.length_set]; exact hol
        clear hW bO bC hbel hZ2 hz Ho2 HTn hos hol hszo
        generalize os.set 2 Z2 = os2 at *
        have gsz := gbel.size
        have nC := hide (gC.alloc (.cells (Array.replicate (k + 1 + 1) (Value.float .f32 0)) 23))
        have nO := hide (gO.alloc (.cells (Array.replicate (k + 1 + 1) (Value.float .f32 0)) 23))
        have nN : Hid (Blk (W.alloc (.cells (Array.replicate (k + 1 + 1) (Value.float .f32 0)) 23)) W.heap.size 23 (fl .f32 (List.replicate (k + 1 + 1) 0)).toArray) := hide (by have := Blk.new W 23 (Array.replicate (k + 1 + 1) (Value.float .f32 0)); simpa using this)
        have nbel := gbel.alloc gsz (.cells (Array.replicate (k + 1 + 1) (Value.float .f32 0)) 23)
        have l2 := gC.lt
        have l3 := gO.lt
        clear gC gO gbel
        go_wp2
        go_loopw [22] (fun j wr => ∃ (jj : Nat) (ns : List Nat), jj ≤ k + 1 ∧ j = .int .i64 jj ∧ Hid (ns.map (cn .f32) = chNext sh (chSt A B up dn sh k).1 jj) ∧ Hid (Blk wr gc 23 (fl .f32 cs).toArray) ∧ Hid (Blk wr (w.heap.size + 1) 23 (fl .f32 os2).toArray) ∧ Hid (Blk wr W.heap.size 23 (fl .f32 ns).toArray) ∧ Below w.heap.size w wr) (fun j _ => k + 1 - (intOf j).toNat)
        case atStart => exact ⟨0, List.replicate (k + 1 + 1) 0, Nat.zero_le _, rfl, hide ((told_rep _).trans (by unfold chNext; rw [(chSt_len A B up dn sh k).1])), nC, nO, nN, nbel⟩
        case round =>
          clear nC nO nN nbel
          obtain ⟨j, ns, hj, rfl, hns, bC, bO, bN, hbel⟩ := hrel
          rename World => wi
          have hnl : ns.length = k + 1 + 1 := (told_lenC hns.out).trans ((chNext_len _ _ _).trans (by rw [(chSt_len A B up dn sh k).1]))
          by_cases hjt : j < k + 1
          · have hjI : (j : Int) < (k : Int) + 1 := by omega
            obtain ⟨x, hx⟩ : ∃ z, cs[j]? = some z := ⟨_, List.getElem?_eq_getElem (by omega)⟩
            obtain ⟨y, hy⟩ : ∃ z, ns[j]? = some z := ⟨_, List.getElem?_eq_getElem (by omega)⟩
            obtain ⟨y2, hy2⟩ : ∃ z, ns[j + 1]? = some z := ⟨_, List.getElem?_eq_getElem (by omega)⟩
            have q1 := cell_blk bC.out hx
            have q2 := cell_blk bN.out hy
            have q3 := cell_blk bN.out hy2
            have f1 := bN.out.frozen j
            have f2 := bN.out.frozen (j + 1)
            have Hx := hide (told_at hcs.out hx)
            have Hy := hide (told_at hns.out hy)
            have Hy2 := hide (told_at hns.out hy2)
            have ne3 : gc ≠ W.heap.size := by omega
            have ne3' : ¬ W.heap.size = gc := by omega
            clear hx hy hy2
            go_wp2
            go_region
            go_wp2
            go_region
            go_wp2
            go_roundw
            case rel => exact ⟨j + 1, (ns.set j _).set (j + 1) _, by omega, by go_num, hide (next_told hns.out (am1 _ _ _ _ _ _ _) (am2 _ _ _ _ _) Hy.out Hy2.out Hx.out), hide ((((bC.out.drewN _).far (by simp; try omega) _).drewN _).far (by simp; try omega) _), hide ((((bO.out.drewN _).far (by simp; try omega) _).drewN _).far (by simp; try omega) _), hide (blk_setF (Value.float .f32) ((blk_setF (Value.float .f32) (bN.out.drewN _)).drewN _)), (below_drewN ((below_drewN hbel _).setCell (by simp; try omega) _) _).setCell (by simp; try omega) _⟩
            case measure => (simp [intOf]; try omega)
          · obtain rfl : j = k + 1 := by omega
            have hjI : ¬ (k : Int) + 1 < (k : Int) + 1 := by omega
            have hNX : Hid (ns.map (cn .f32) = chNext sh (chSt A B up dn sh k).1 (chSt A B up dn sh k).1.length) := hide (by rw [hns.out, (chSt_len A B up dn sh k).1])
            clear bC hns hjt
            go_wp2
            go_loopw [23] (fun jv wr => ∃ (jj : Nat) (ns os : List Nat), jj ≤ k + 1 + 1 ∧ jv = .int .i64 jj ∧ Hid (ns.map (cn .f32) = (chEnd A B up dn ((k + 1 : Nat) : Int) (chNext sh (chSt A B up dn sh k).1 (chSt A B up dn sh k).1.length) (chTot (chSt A B up dn sh k).1 (chSt A B up dn sh k).2) jj).1) ∧ Hid (os.map (cn .f32) = (chEnd A B up dn ((k + 1 : Nat) : Int) (chNext sh (chSt A B up dn sh k).1 (chSt A B up dn sh k).1.length) (chTot (chSt A B up dn sh k).1 (chSt A B up dn sh k).2) jj).2) ∧ Hid (Blk wr (w.heap.size + 1) 23 (fl .f32 os).toArray) ∧ Hid (Blk wr W.heap.size 23 (fl .f32 ns).toArray) ∧ Hid (ns.length = k + 1 + 1 ∧ os.length = 3) ∧ Below w.heap.size w wr) (fun jv _ => k + 1 + 1 - (intOf jv).toNat)
            case atStart => exact ⟨0, ns, os2, Nat.zero_le _, rfl, hNX, HT, bO, bN, hide ⟨hnl, hol2⟩, hbel⟩
            case round =>
              clear hNX HT bO bN hnl hol2 hbel
              obtain ⟨j, ns, os, hj, rfl, hns, hos, bO, bN, hlen, hbel⟩ := hrel
              rename World => wi
              obtain ⟨hnl, hol⟩ := hlen.out
              have hszi := hbel.size
              by_cases hjt : j < k + 1 + 1
              · have hjI : (j : Int) ≤ (k : Int) + 1 := by omega
                obtain ⟨x, hx⟩ : ∃ z, ns[j]? = some z := ⟨_, List.getElem?_eq_getElem (by omega)⟩
                obtain ⟨o0, ho0⟩ : ∃ z, os[0]? = some z := ⟨_, List.getElem?_eq_getElem (by omega)⟩
                obtain ⟨o1, ho1⟩ : ∃ z, os[1]? = some z := ⟨_, List.getElem?_eq_getElem (by omega)⟩
                have q1 := cell_blk bN.out hx
                have Hx := hide (told_at hns.out hx)
                have Ho0 := hide (told_at hos.out ho0)
                have Ho1 := hide (told_at hos.out ho1)
                obtain ⟨Z, hZ⟩ : ∃ Z, flR .add .f32 (flR .mul .f32 (floatOfInt .f32 (j : Int)) x3 wi) (flR .mul .f32 (floatOfInt .f32 ((k : Int) + 1 - (j : Int))) x4 (wi.drewN (flN .mul .f32 (floatOfInt .f32 (j : Int)) x3))) (wi.drewN (flN .mul .f32 (floatOfInt .f32 (j : Int)) x3 + flN .mul .f32 (floatOfInt .f32 ((k : Int) + 1 - (j : Int))) x4)) = Z := ⟨_, rfl⟩
                have HSz : cn .f32 Z = chSum up dn ((k + 1 : Nat) : Int) j := by rw [← hZ]; exact chSum_told C3.out C4.out _ _ _
                have HEz : seqEnd A B (chSum up dn ((k + 1 : Nat) : Int) j) = seqEnd x1 x2 Z := by rw [← HSz, ← C1.out, ← C2.out, seqEnd_cn]
                clear hx
                cases h5 : (FloatKind.f32.format.order Z x1 == some .lt || FloatKind.f32.format.order Z x1 == some .eq) with
                | true =>
                  have HN := hide (chEnd_at (nx := chNext sh (chSt A B up dn sh k).1 (chSt A B up dn sh k).1.length) (o := chTot (chSt A B up dn sh k).1 (chSt A B up dn sh k).2) (HEz.trans (end_lo h5)))
                  have r2 := cell_blk bO.out ho0
                  have g1 := bN.out.frozen j
                  have g2 := bO.out.frozen 0
                  have ne4 : ¬ w.heap.size + 1 = W.heap.size := by omega
                  have ne5 : ¬ W.heap.size = w.heap.size + 1 := by omega
                  clear ho0 ho1 HEz HSz
                  go_wp2
                  go_region
                  go_wp2
                  go_roundw
                  case rel =>
                    have HP := fun z hz => put_told_m (z := z) hns.out hos.out Hx.out Ho0.out hz
                    exact ⟨j + 1, ns.set j 0, os.set 0 _, by omega, by go_num, hide (by rw [HN.out]; exact (HP (fb .add .f32 o0 x) (cn_fb _ _ _ _)).1), hide (by rw [HN.out]; exact (HP _ (cn_flR _ _ _ _ _)).2), hide ((blk_setF (Value.float .f32) (bO.out.drewN _)).far (by simp; try omega) _), hide (blk_setF (Value.float .f32) ((bN.out.drewN _).far (by simp; try omega) _)), hide ⟨by rw [List.length_set]; exact hnl, by rw [List.length_set]; exact hol⟩, ((below_drewN hbel _).setCell (by simp; try omega) _).setCell (by simp; try omega) _⟩
                  case measure => (simp [intOf]; try omega)
                | false =>
                  cases h6 : (FloatKind.f32.format.order Z x2 == some .gt || FloatKind.f32.format.order Z x2 == some .eq) with
                  | true =>
                    have HN := hide (chEnd_at (nx := chNext sh (chSt A B up dn sh k).1 (chSt A B up dn sh k).1.length) (o := chTot (chSt A B up dn sh k).1 (chSt A B up dn sh k).2) (HEz.trans (end_hi h5 h6)))
                    have r2 := cell_blk bO.out ho1
                    have g1 := bN.out.frozen j
                    have g2 := bO.out.frozen 1
                    have ne4 : ¬ w.heap.size + 1 = W.heap.size := by omega
                    have ne5 : ¬ W.heap.size = w.heap.size + 1 := by omega
                    clear ho0 ho1 HEz HSz
                    go_wp2
                    go_region
                    go_wp2
                    go_roundw
                    case rel =>
                      have HP := fun z hz => put_told_p (z := z) hns.out hos.out Hx.out Ho1.out hz
                      exact ⟨j + 1, ns.set j 0, os.set 1 _, by omega, by go_num, hide (by rw [HN.out]; exact (HP (fb .add .f32 o1 x) (cn_fb _ _ _ _)).1), hide (by rw [HN.out]; exact (HP _ (cn_flR _ _ _ _ _)).2), hide ((blk_setF (Value.float .f32) (bO.out.drewN _)).far (by simp; try omega) _), hide (blk_setF (Value.float .f32) ((bN.out.drewN _).far (by simp; try omega) _)), hide ⟨by rw [List.length_set]; exact hnl, by rw [List.length_set]; exact hol⟩, ((below_drewN hbel _).setCell (by simp; try omega) _).setCell (by simp; try omega) _⟩
                    case measure => (simp [intOf]; try omega)
                  | false =>
                    have HN := hide (chEnd_at (nx := chNext sh (chSt A B up dn sh k).1 (chSt A B up dn sh k).1.length) (o := chTot (chSt A B up dn sh k).1 (chSt A B up dn sh k).2) (HEz.trans (end_no h5 h6)))
                    clear ho0 ho1 HEz HSz q1
                    go_wp2
                    go_roundw
                    case rel => exact ⟨j + 1, ns, os, by omega, by go_num, hide (by rw [HN.out, chPut_no rfl]; exact hns.out), hide (by rw [HN.out, chPut_no rfl]; exact hos.out), hide (bO.out.drewN _), hide (bN.out.drewN _), hlen, below_drewN hbel _⟩
                    case measure => (simp [intOf]; try omega)
              · obtain rfl : j = k + 1 + 1 := by omega
                have hjI : ¬ (k : Int) + 1 + 1 ≤ (k : Int) + 1 := by omega
                go_wp2
                go_roundw
                case rel => exact ⟨k + 1, W.heap.size, k + 1 + 1, ns, os, by omega, by go_num, rfl, hide (by rw [chSt_succ]; exact hns.out), hide (by rw [chSt_succ]; exact hos.out), bN, bO, by omega, by omega, hbel⟩
                case measure => (simp [intOf]; try omega)
    · obtain rfl : k = m := by omega
      have hltI : ¬ (k : Int) + 1 ≤ (k : Int) := by omega
      have hrd := reads_blk bO.out hol (by omega)
      have Hfin := hide (allfin_toldC hos.out)
      cases hf : os.all (fin .f32) with
      | false =>
        go_wp2_with (go_at_call 59; refine (s_l02List_no hrd (by simp [maxLen]) hf).mono ?_; rintro e w' ⟨rfl, m', rfl⟩)
        go_ret2
        exact ⟨ChRd.no (by rw [HO.out, ← Hfin.out, hf]), below_drewN hbel _⟩
      | true =>
        go_wp2_with (go_at_call 59; refine (s_l02List_yes hrd (by simp [maxLen]) hf).mono ?_; rintro e w' ⟨rfl, m', rfl⟩)
        go_ret2
        exact ⟨ChRd.yes (by rw [HO.out, ← Hfin.out, hf]) hol.symm (own_drewN (own_of_blk bO.out (by omega) (by simpa using hol) (by simp [maxLen])) _) (hos.out.trans HV.out.symm), below_drewN hbel _⟩
end Go.Proofs.Ythfdgffgihjglaa
