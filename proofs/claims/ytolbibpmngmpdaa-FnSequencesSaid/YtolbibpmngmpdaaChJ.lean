/-
  The chances of a sequence test: the program's walk, all ways.
-/
import Derived.Test.YtolbibpmngmpdaaChP
import Derived.Test.YtolbibpmngmpdaaTurn2
import Derived.Test.YtolbibpmngmpdaaDesk
import Derived.RegionTactic
import Derived.BigRegion
import Derived.Deep.RegionWith
namespace Go.Proofs.Ytolbibpmngmpdaa
open Go.RowKit Mem Fl
set_option linter.unusedVariables false
set_option maxRecDepth 100000

theorem reads_blk {w : World} {g n : Nat} {t : TypeId} {xs : List Nat} (h : Blk w g t (fl .f32 xs).toArray) (hl : xs.length = n) (hn : n ≤ 1000) : Reads w w.heap.size 1 (some ⟨g, 0, none⟩) n (fl .f32 xs) :=
  Reads.of_own (own_of_blk (base := 0) h (Nat.zero_le _) (by simpa using hl) (by unfold maxLen; omega))
theorem cell_blk {w : World} {g i z : Nat} {t : TypeId} {xs : List Nat} (h : Blk w g t (fl .f32 xs).toArray) (hz : xs[i]? = some z) : w.cell? ⟨g, i, none⟩ = some (.float .f32 z) := by
  rw [h.cell]; simp [hz]
set_option maxHeartbeats 8000000 in
theorem i_SequenceChances_true {sh lo hi a b : Nat} {m : Nat} {w : World} (hm : m ≤ 64) (wl : Wf .f32 lo) (wh : Wf .f32 hi) (wa : Wf .f32 a) (wb : Wf .f32 b)
    (hok : seqOk lo hi a b = true) (hsh : shB sh = true) (hin : inB (m : Int) 0 64 = true) :
    Calls Try.prog 20 #[.float .f32 sh, .float .f32 lo, .float .f32 hi, .float .f32 a, .float .f32 b, .int .i64 (m : Int)] w fun e w' => ChRd w.heap.size sh lo hi a b (m : Int) e w' ∧ Below w.heap.size w w' := by
  have HO : Hid (chO sh lo hi a b (m : Int) = ((chSt (bars1 a b) (bars2 a b) (sUp lo hi) (sDn lo hi) sh m).2).all (fin .f32)) := hide (by unfold chO chOk chV; rw [hok, hsh, hin]; simp)
  have HV : Hid (chV sh lo hi a b (m : Int) = (chSt (bars1 a b) (bars2 a b) (sUp lo hi) (sDn lo hi) sh m).2) := hide (by unfold chV; simp)
  have HA : ∀ W, _ := fun W => i_asSequence (w := W) wl wh wa wb
  replace HA := hide HA
  have hmk3 : ∀ W : World, (Instr.makeSlice 36 (.int .i64 3) (.int .i64 3)).run Try.prog W = .ok (.slice (some ⟨W.heap.size, 0, none⟩) 3 3) (W.alloc (.cells (fl .f32 [0, 0, 0]).toArray 27)) := by
    intro W
    have := run_make1 36 27 (.float .f32 0) 4 info_f32 Try.underlying36 rfl 3 (by omega) (by omega) W
    rw [show ((3 : Nat) : Int) = 3 from rfl] at this
    rw [this]; rfl
  clear wl wh wa wb
  go_enter Try.func20, Try.ntmps20
  go_wp2_with fail
  refine (HA.out _).mono ?_
  rintro e w1 ⟨⟨x1, x2, x3, x4, rfl, hx⟩, hb⟩
  obtain ⟨c1, c2, c3, c4⟩ := hx hok
  have C1 := hide c1
  have C2 := hide c2
  have C3 := hide c3
  have C4 := hide c4
  clear hx c1 c2 c3 c4 HA
  rw [hok]
  clear hok
  have sz1 := hb.size
  generalize bars1 a b = A at *
  generalize bars2 a b = B at *
  generalize sUp lo hi = up at *
  generalize sDn lo hi = dn at *
  have bS := ((Blk.new w1 88 (sqA x1 x2 x3 x4)).alloc (.cells (fl .f32 [1065353216]).toArray 27)).alloc (.cells (fl .f32 [0, 0, 0]).toArray 27)
  have bC := (blk_new' (w1.alloc (.cells (sqA x1 x2 x3 x4) 88)) (w1.heap.size + 1) 27 (fl .f32 [1065353216]).toArray (by simp)).alloc (.cells (fl .f32 [0, 0, 0]).toArray 27)
  have bO := blk_new' ((w1.alloc (.cells (sqA x1 x2 x3 x4) 88)).alloc (.cells (fl .f32 [1065353216]).toArray 27)) (w1.heap.size + 1 + 1) 27 (fl .f32 [0, 0, 0]).toArray (by simp)
  have bel : Below w.heap.size w (((w1.alloc (.cells (sqA x1 x2 x3 x4) 88)).alloc (.cells (fl .f32 [1065353216]).toArray 27)).alloc (.cells (fl .f32 [0, 0, 0]).toArray 27)) := ((hb.alloc sz1 _).alloc (by simp; omega) _).alloc (by simp; omega) _
  clear hb
  replace bS := hide bS
  replace bC := hide bC
  replace bO := hide bO
  go_wp2_with (first
    | (go_at_call 55; refine i_isShare.mono ?_; rintro e w' ⟨rfl, rfl⟩; rw [hsh])
    | (go_at_call 59; refine (i_within _ _ _ _).mono ?_; rintro e w' ⟨rfl, rfl⟩; rw [hin]))
  clear hsh hin
  go_loopw [16, 49] (fun cv i wr => ∃ (k gc cc : Nat) (cs os : List Nat), k ≤ m ∧ i = .int .i64 k ∧ cv = .slice (some ⟨gc, 0, none⟩) (k + 1) cc ∧ Hid (cs.map (cn .f32) = (chSt A B up dn sh k).1) ∧ Hid (os.map (cn .f32) = (chSt A B up dn sh k).2) ∧ Hid (Blk wr w1.heap.size 88 (sqA x1 x2 x3 x4)) ∧ Hid (Blk wr gc 27 (fl .f32 cs).toArray) ∧ Hid (Blk wr (w1.heap.size + 1 + 1) 27 (fl .f32 os).toArray) ∧ gc ≠ w1.heap.size + 1 + 1 ∧ gc ≠ w1.heap.size ∧ Below w.heap.size w wr) (fun _ i _ => m - (intOf i).toNat)
  case atStart => exact ⟨0, w1.heap.size + 1, 1, [1065353216], [0, 0, 0], Nat.zero_le _, rfl, by simp, hide one_told, hide zero3_told, bS, bC, bO, by omega, by omega, bel⟩
  case round =>
    clear bS bC bO bel
    obtain ⟨k, gc, cc, cs, os, hk, rfl, rfl, hcs, hos, bS, bC, bO, ne1, ne2, hbel⟩ := hrel
    rename World => wo
    have hcl : cs.length = k + 1 := (told_lenC hcs.out).trans (chSt_len A B up dn sh k).1
    have hol : os.length = 3 := (told_lenC hos.out).trans (chSt_len A B up dn sh k).2
    have hszo := hbel.size
    by_cases hlt : k < m
    · have hltI : (k : Int) < (m : Int) := by omega
      have hrd := reads_blk bC.out hcl (by omega)
      obtain ⟨o2, ho2⟩ : ∃ z, os[2]? = some z := ⟨_, List.getElem?_eq_getElem (by omega)⟩
      have k2 := cell_blk bO.out ho2
      have f2 := bO.out.frozen 2
      have Ho2 := hide (told_at hos.out ho2)
      clear ho2
      have HTn := hide (told_fsum hcs.out)
      have hmk : ∀ W : World, (Instr.makeSlice 36 (.int .i64 ((k : Int) + 1 + 1)) (.int .i64 ((k : Int) + 1 + 1))).run Try.prog W = .ok (.slice (some ⟨W.heap.size, 0, none⟩) (k + 1 + 1) (k + 1 + 1)) (W.alloc (.cells (fl .f32 (List.replicate (k + 1 + 1) 0)).toArray 27)) := by
        intro W
        have := run_make1 36 27 (.float .f32 0) 4 info_f32 Try.underlying36 rfl (k + 1 + 1) (by omega) (by omega) W
        rw [show ((k + 1 + 1 : Nat) : Int) = (k : Int) + 1 + 1 by omega] at this
        rw [this]; simp
      go_wp2
      go_region_with (go_at_call 72; refine (i_addUp (by first | exact hrd | exact hrd.drew | exact hrd.drewN _) (by unfold maxLen; omega)).mono ?_; rintro e w' ⟨z, rfl, hz, _, mz, rfl⟩)
      all_goals
        clear hrd k2 f2
        generalize hW : (World.drewN wo _).setCell _ _ = W
        have F2 : ∃ Z2, cn .f32 Z2 = fb .add .f32 o2 z ∧ Blk W (w1.heap.size + 1 + 1) 27 (fl .f32 (os.set 2 Z2)).toArray ∧ Blk W w1.heap.size 88 (sqA x1 x2 x3 x4) ∧ Blk W gc 27 (fl .f32 cs).toArray ∧ Below w.heap.size w W := by
          rw [← hW]
          exact ⟨_, cn_flR _ _ _ _ _, blk_setF (Value.float .f32) (bO.out.drewN _), (bS.out.drewN _).far (by simp; try omega) _, (bC.out.drewN _).far (by simp; omega) _, (below_drewN hbel _).setCell (by simp; omega) _⟩
        obtain ⟨Z2, hZ2, gO, gS, gC, gbel⟩ := F2
        have HT : Hid ((os.set 2 Z2).map (cn .f32) = chTot (chSt A B up dn sh k).1 (chSt A B up dn sh k).2) := hide (told_set (i := 2) hos.out (hZ2.trans (by rw [← fb_cn, Ho2.out, hz.out, HTn.out])))
        have hol2 : (os.set 2 Z2).length = 3 := by rw [List.length_set]; exact hol
        clear hW bO bS bC hbel hZ2 hz Ho2 HTn hos hol hszo
        generalize os.set 2 Z2 = os2 at *
        have gsz := gbel.size
        have nS := hide (gS.alloc (.cells (Array.replicate (k + 1 + 1) (Value.float .f32 0)) 27))
        have nC := hide (gC.alloc (.cells (Array.replicate (k + 1 + 1) (Value.float .f32 0)) 27))
        have nO := hide (gO.alloc (.cells (Array.replicate (k + 1 + 1) (Value.float .f32 0)) 27))
        have nN : Hid (Blk (W.alloc (.cells (Array.replicate (k + 1 + 1) (Value.float .f32 0)) 27)) W.heap.size 27 (fl .f32 (List.replicate (k + 1 + 1) 0)).toArray) := hide (by have := Blk.new W 27 (Array.replicate (k + 1 + 1) (Value.float .f32 0)); simpa using this)
        have nbel := gbel.alloc gsz (.cells (Array.replicate (k + 1 + 1) (Value.float .f32 0)) 27)
        have l1 := gS.lt
        have l2 := gC.lt
        have l3 := gO.lt
        clear gS gC gO gbel
        go_wp2
        go_loopw [66] (fun j wr => ∃ (jj : Nat) (ns : List Nat), jj ≤ k + 1 ∧ j = .int .i64 jj ∧ Hid (ns.map (cn .f32) = chNext sh (chSt A B up dn sh k).1 jj) ∧ Hid (Blk wr w1.heap.size 88 (sqA x1 x2 x3 x4)) ∧ Hid (Blk wr gc 27 (fl .f32 cs).toArray) ∧ Hid (Blk wr (w1.heap.size + 1 + 1) 27 (fl .f32 os2).toArray) ∧ Hid (Blk wr W.heap.size 27 (fl .f32 ns).toArray) ∧ Below w.heap.size w wr) (fun j _ => k + 1 - (intOf j).toNat)
        case atStart => exact ⟨0, List.replicate (k + 1 + 1) 0, Nat.zero_le _, rfl, hide ((told_rep _).trans (by unfold chNext; rw [(chSt_len A B up dn sh k).1])), nS, nC, nO, nN, nbel⟩
        case round =>
          clear nS nC nO nN nbel
          obtain ⟨j, ns, hj, rfl, hns, bS, bC, bO, bN, hbel⟩ := hrel
          rename World => wi
          have hnl : ns.length = k + 1 + 1 := (told_lenC hns.out).trans ((chNext_len _ _ _).trans (by rw [(chSt_len A B up dn sh k).1]))
          by_cases hjt : j < k + 1
          · have hjI : (j : Int) < (k : Int) + 1 := by omega
            obtain ⟨x, hx⟩ : ∃ z, cs[j]? = some z := ⟨_, List.getElem?_eq_getElem (by omega)⟩
            obtain ⟨y, hy⟩ : ∃ z, ns[j]? = some z := ⟨_, List.getElem?_eq_getElem (by omega)⟩
            obtain ⟨y2, hy2⟩ : ∃ z, ns[j + 1]? = some z := ⟨_, List.getElem?_eq_getElem (by omega)⟩
            have q1 := cell_blk bC.out hx
            have q2 := cell_blk bN.out hy
            have q3 := cell_blk bN.out hy2
            have f1 := bN.out.frozen j
            have f2 := bN.out.frozen (j + 1)
            have Hx := hide (told_at hcs.out hx)
            have Hy := hide (told_at hns.out hy)
            have Hy2 := hide (told_at hns.out hy2)
            have ne3 : gc ≠ W.heap.size := by omega
            have ne3' : ¬ W.heap.size = gc := by omega
            clear hx hy hy2
            go_wp2
            go_roundw
            case rel => exact ⟨j + 1, (ns.set j _).set (j + 1) _, by omega, by go_num, hide (next_told hns.out (am1 _ _ _ _ _ _ _) (am2 _ _ _ _ _) Hy.out Hy2.out Hx.out), hide ((((bS.out.drewN _).far (by simp; omega) _).drewN _).far (by simp; omega) _), hide ((((bC.out.drewN _).far (by simp; omega) _).drewN _).far (by simp; omega) _), hide ((((bO.out.drewN _).far (by simp; omega) _).drewN _).far (by simp; omega) _), hide (blk_setF (Value.float .f32) ((blk_setF (Value.float .f32) (bN.out.drewN _)).drewN _)), (below_drewN ((below_drewN hbel _).setCell (by simp; omega) _) _).setCell (by simp; omega) _⟩
            case measure => (simp [intOf]; try omega)
          · obtain rfl : j = k + 1 := by omega
            have hjI : ¬ (k : Int) + 1 < (k : Int) + 1 := by omega
            have hNX : Hid (ns.map (cn .f32) = chNext sh (chSt A B up dn sh k).1 (chSt A B up dn sh k).1.length) := hide (by rw [hns.out, (chSt_len A B up dn sh k).1])
            clear bC hns hjt
            go_wp2
            go_loopw [99] (fun jv wr => ∃ (jj : Nat) (ns os : List Nat), jj ≤ k + 1 + 1 ∧ jv = .int .i64 jj ∧ Hid (ns.map (cn .f32) = (chEnd A B up dn ((k + 1 : Nat) : Int) (chNext sh (chSt A B up dn sh k).1 (chSt A B up dn sh k).1.length) (chTot (chSt A B up dn sh k).1 (chSt A B up dn sh k).2) jj).1) ∧ Hid (os.map (cn .f32) = (chEnd A B up dn ((k + 1 : Nat) : Int) (chNext sh (chSt A B up dn sh k).1 (chSt A B up dn sh k).1.length) (chTot (chSt A B up dn sh k).1 (chSt A B up dn sh k).2) jj).2) ∧ Hid (Blk wr w1.heap.size 88 (sqA x1 x2 x3 x4)) ∧ Hid (Blk wr (w1.heap.size + 1 + 1) 27 (fl .f32 os).toArray) ∧ Hid (Blk wr W.heap.size 27 (fl .f32 ns).toArray) ∧ Hid (ns.length = k + 1 + 1 ∧ os.length = 3) ∧ Below w.heap.size w wr) (fun jv _ => k + 1 + 1 - (intOf jv).toNat)
            case atStart => exact ⟨0, ns, os2, Nat.zero_le _, rfl, hNX, HT, bS, bO, bN, hide ⟨hnl, hol2⟩, hbel⟩
            case round =>
              clear hNX HT bS bO bN hnl hol2 hbel
              obtain ⟨j, ns, os, hj, rfl, hns, hos, bS, bO, bN, hlen, hbel⟩ := hrel
              rename World => wi
              obtain ⟨hnl, hol⟩ := hlen.out
              have hszi := hbel.size
              by_cases hjt : j < k + 1 + 1
              · have hjI : (j : Int) < (k : Int) + 1 + 1 := by omega
                obtain ⟨x, hx⟩ : ∃ z, ns[j]? = some z := ⟨_, List.getElem?_eq_getElem (by omega)⟩
                obtain ⟨o0, ho0⟩ : ∃ z, os[0]? = some z := ⟨_, List.getElem?_eq_getElem (by omega)⟩
                obtain ⟨o1, ho1⟩ : ∃ z, os[1]? = some z := ⟨_, List.getElem?_eq_getElem (by omega)⟩
                have q1 := cell_blk bN.out hx
                have e0 := bS.out.cell 0
                have e1 := bS.out.cell 1
                have e2 := bS.out.cell 2
                have e3 := bS.out.cell 3
                have Hx := hide (told_at hns.out hx)
                have Ho0 := hide (told_at hos.out ho0)
                have Ho1 := hide (told_at hos.out ho1)
                have hzz := hide (And.intro hx (And.intro ho0 ho1))
                clear hx ho0 ho1
                rcases seqEnd_cases A B (chSum up dn ((k + 1 : Nat) : Int) j) with hE | hE | hE
                · have HN := hide (chEnd_at (nx := chNext sh (chSt A B up dn sh k).1 (chSt A B up dn sh k).1.length) (o := chTot (chSt A B up dn sh k).1 (chSt A B up dn sh k).2) hE)
                  have HE := hide hE
                  clear hE
                  go_wp2_with fail
                  refine (i_ends_told (chSum_told C3.out C4.out _ _ _) C1.out C2.out HE.out).mono ?_
                  rintro e w3 ⟨rfl, hb3⟩
                  have b3S := hide ((bS.out.drewN _).below hb3 bS.out.lt)
                  have b3O := hide ((bO.out.drewN _).below hb3 bO.out.lt)
                  have b3N := hide ((bN.out.drewN _).below hb3 bN.out.lt)
                  have bel3 : Below w.heap.size w w3 := (below_drewN hbel _).trans (hb3.mono hszi)
                  clear hb3 bS bO bN e0 e1 e2 e3 q1
                  go_wp2
                  go_roundw
                  case rel => exact ⟨j + 1, ns, os, by omega, by go_num, hide (by rw [HN.out, chPut_no rfl]; exact hns.out), hide (by rw [HN.out, chPut_no rfl]; exact hos.out), b3S, b3O, b3N, hlen, bel3⟩
                  case measure => (simp [intOf]; try omega)
                · have HN := hide (chEnd_at (nx := chNext sh (chSt A B up dn sh k).1 (chSt A B up dn sh k).1.length) (o := chTot (chSt A B up dn sh k).1 (chSt A B up dn sh k).2) hE)
                  have HE := hide hE
                  clear hE
                  go_wp2_with fail
                  refine (i_ends_told (chSum_told C3.out C4.out _ _ _) C1.out C2.out HE.out).mono ?_
                  rintro e w3 ⟨rfl, hb3⟩
                  have b3S := hide ((bS.out.drewN _).below hb3 bS.out.lt)
                  have b3O := hide ((bO.out.drewN _).below hb3 bO.out.lt)
                  have b3N := hide ((bN.out.drewN _).below hb3 bN.out.lt)
                  have bel3 : Below w.heap.size w w3 := (below_drewN hbel _).trans (hb3.mono hszi)
                  have r1 := cell_blk b3N.out hzz.out.1
                  have r2 := cell_blk b3O.out hzz.out.2.1
                  have g1 := b3N.out.frozen j
                  have g2 := b3O.out.frozen 0
                  have ne4 : ¬ w1.heap.size + 1 + 1 = W.heap.size := by omega
                  have ne5 : ¬ W.heap.size = w1.heap.size + 1 + 1 := by omega
                  clear hb3 bS bO bN e0 e1 e2 e3 q1
                  go_wp2
                  go_roundw
                  case rel =>
                    have HP := fun z hz => put_told_m (z := z) hns.out hos.out Hx.out Ho0.out hz
                    exact ⟨j + 1, ns.set j 0, os.set 0 _, by omega, by go_num, hide (by rw [HN.out]; exact (HP (fb .add .f32 o0 x) (cn_fb _ _ _ _)).1), hide (by rw [HN.out]; exact (HP _ (cn_flR _ _ _ _ _)).2), hide (((b3S.out.drewN _).far (by simp; try omega) _).far (by simp; omega) _), hide ((blk_setF (Value.float .f32) (b3O.out.drewN _)).far (by simp; omega) _), hide (blk_setF (Value.float .f32) ((b3N.out.drewN _).far (by simp; omega) _)), hide ⟨by rw [List.length_set]; exact hnl, by rw [List.length_set]; exact hol⟩, ((below_drewN bel3 _).setCell (by simp; omega) _).setCell (by simp; omega) _⟩
                  case measure => (simp [intOf]; try omega)
                · have HN := hide (chEnd_at (nx := chNext sh (chSt A B up dn sh k).1 (chSt A B up dn sh k).1.length) (o := chTot (chSt A B up dn sh k).1 (chSt A B up dn sh k).2) hE)
                  have HE := hide hE
                  clear hE
                  go_wp2_with fail
                  refine (i_ends_told (chSum_told C3.out C4.out _ _ _) C1.out C2.out HE.out).mono ?_
                  rintro e w3 ⟨rfl, hb3⟩
                  have b3S := hide ((bS.out.drewN _).below hb3 bS.out.lt)
                  have b3O := hide ((bO.out.drewN _).below hb3 bO.out.lt)
                  have b3N := hide ((bN.out.drewN _).below hb3 bN.out.lt)
                  have bel3 : Below w.heap.size w w3 := (below_drewN hbel _).trans (hb3.mono hszi)
                  have r1 := cell_blk b3N.out hzz.out.1
                  have r2 := cell_blk b3O.out hzz.out.2.2
                  have g1 := b3N.out.frozen j
                  have g2 := b3O.out.frozen 1
                  have ne4 : ¬ w1.heap.size + 1 + 1 = W.heap.size := by omega
                  have ne5 : ¬ W.heap.size = w1.heap.size + 1 + 1 := by omega
                  clear hb3 bS bO bN e0 e1 e2 e3 q1
                  go_wp2
                  go_roundw
                  case rel =>
                    have HP := fun z hz => put_told_p (z := z) hns.out hos.out Hx.out Ho1.out hz
                    exact ⟨j + 1, ns.set j 0, os.set 1 _, by omega, by go_num, hide (by rw [HN.out]; exact (HP (fb .add .f32 o1 x) (cn_fb _ _ _ _)).1), hide (by rw [HN.out]; exact (HP _ (cn_flR _ _ _ _ _)).2), hide (((b3S.out.drewN _).far (by simp; try omega) _).far (by simp; omega) _), hide ((blk_setF (Value.float .f32) (b3O.out.drewN _)).far (by simp; omega) _), hide (blk_setF (Value.float .f32) ((b3N.out.drewN _).far (by simp; omega) _)), hide ⟨by rw [List.length_set]; exact hnl, by rw [List.length_set]; exact hol⟩, ((below_drewN bel3 _).setCell (by simp; omega) _).setCell (by simp; omega) _⟩
                  case measure => (simp [intOf]; try omega)
              · obtain rfl : j = k + 1 + 1 := by omega
                have hjI : ¬ (k : Int) + 1 + 1 < (k : Int) + 1 + 1 := by omega
                go_wp2
                go_roundw
                case rel => exact ⟨k + 1, W.heap.size, k + 1 + 1, ns, os, by omega, by go_num, rfl, hide (by rw [chSt_succ]; exact hns.out), hide (by rw [chSt_succ]; exact hos.out), bS, bN, bO, by omega, by omega, hbel⟩
                case measure => (simp [intOf]; try omega)
    · obtain rfl : k = m := by omega
      have hltI : ¬ (k : Int) < (k : Int) := by omega
      have hrd := reads_blk bO.out hol (by omega)
      have Hfin := hide (allfin_toldC hos.out)
      cases hf : os.all (fin .f32) with
      | false =>
        go_wp2_with (go_at_call 60; refine (i_ifAll_no hrd (by simp [maxLen]) hf).mono ?_; rintro e w' ⟨rfl, m', rfl⟩)
        go_ret2
        exact ⟨ChRd.no (by rw [HO.out, ← Hfin.out, hf]), below_drewN hbel _⟩
      | true =>
        go_wp2_with (go_at_call 60; refine (i_ifAll_yes hrd (by simp [maxLen]) hf).mono ?_; rintro e w' ⟨rfl, m', rfl⟩)
        go_ret2
        exact ⟨ChRd.yes (by rw [HO.out, ← Hfin.out, hf]) hol.symm (own_drewN (own_of_blk bO.out (by omega) (by simpa using hol) (by simp [maxLen])) _) (hos.out.trans HV.out.symm), below_drewN hbel _⟩
end Go.Proofs.Ytolbibpmngmpdaa
namespace Go.Proofs.Ytolbibpmngmpdaa
open Go.RowKit Mem Fl
set_option linter.unusedVariables false
set_option maxRecDepth 100000

set_option maxHeartbeats 2000000 in
theorem i_SequenceChances_no {sh lo hi a b : Nat} {m : Int} {w : World} (wl : Wf .f32 lo) (wh : Wf .f32 hi) (wa : Wf .f32 a) (wb : Wf .f32 b) (h : chOk sh lo hi a b m = false) :
    Calls Try.prog 20 #[.float .f32 sh, .float .f32 lo, .float .f32 hi, .float .f32 a, .float .f32 b, .int .i64 m] w fun e w' => ChRd w.heap.size sh lo hi a b m e w' ∧ Below w.heap.size w w' := by
  have HN : Hid (chO sh lo hi a b m = false) := hide (by unfold chO; rw [h]; rfl)
  have HA : ∀ W, _ := fun W => i_asSequence (w := W) wl wh wa wb
  replace HA := hide HA
  unfold chOk at h
  clear wl wh wa wb
  go_enter Try.func20, Try.ntmps20
  go_wp2_with fail
  refine (HA.out _).mono ?_
  rintro e w1 ⟨⟨x1, x2, x3, x4, rfl, _⟩, hb⟩
  have bel := hb.alloc hb.size (.cells (sqA x1 x2 x3 x4) 88)
  clear hb HA
  cases h1 : seqOk lo hi a b with
  | false =>
    go_wp2
    go_ret2
    exact ⟨ChRd.no HN.out, bel⟩
  | true =>
    cases h2 : shB sh with
    | false =>
      go_wp2_with (go_at_call 55; refine i_isShare.mono ?_; rintro e w' ⟨rfl, rfl⟩; rw [h2])
      go_ret2
      exact ⟨ChRd.no HN.out, bel⟩
    | true =>
      have h3 : inB m 0 64 = false := by rw [h1, h2] at h; simpa using h
      clear h
      go_wp2_with (first
        | (go_at_call 55; refine i_isShare.mono ?_; rintro e w' ⟨rfl, rfl⟩; rw [h2])
        | (go_at_call 59; refine (i_within _ _ _ _).mono ?_; rintro e w' ⟨rfl, rfl⟩; rw [h3]))
      go_ret2
      exact ⟨ChRd.no HN.out, bel⟩
theorem chOk_parts {sh lo hi a b : Nat} {m : Int} (h : chOk sh lo hi a b m = true) : seqOk lo hi a b = true ∧ shB sh = true ∧ inB m 0 64 = true := by
  unfold chOk at h
  rw [Bool.and_eq_true, Bool.and_eq_true] at h
  exact h
theorem i_SequenceChances {sh lo hi a b : Nat} {m : Int} {w : World} (wl : Wf .f32 lo) (wh : Wf .f32 hi) (wa : Wf .f32 a) (wb : Wf .f32 b) :
    Calls Try.prog 20 #[.float .f32 sh, .float .f32 lo, .float .f32 hi, .float .f32 a, .float .f32 b, .int .i64 m] w fun e w' => ChRd w.heap.size sh lo hi a b m e w' ∧ Below w.heap.size w w' := by
  cases h : chOk sh lo hi a b m with
  | false => exact i_SequenceChances_no wl wh wa wb h
  | true =>
    obtain ⟨h1, h2, h3⟩ := chOk_parts h
    have hin := inB_iff.1 h3
    obtain ⟨n, rfl⟩ := Int.eq_ofNat_of_zero_le (show 0 ≤ m by omega)
    exact i_SequenceChances_true (by omega) wl wh wa wb h1 h2 h3
end Go.Proofs.Ytolbibpmngmpdaa
