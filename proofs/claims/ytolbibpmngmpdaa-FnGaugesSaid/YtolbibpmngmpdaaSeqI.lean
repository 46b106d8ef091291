/-
  A sequence test: the program's walk.
-/
import Derived.Test.YtolbibpmngmpdaaSeqP
import Derived.Test.YtolbibpmngmpdaaAlarm3
namespace Go.Proofs.Ytolbibpmngmpdaa
open Go.RowKit Mem Fl
set_option linter.unusedVariables false
set_option maxRecDepth 100000

set_option maxHeartbeats 4000000 in
theorem i_asSequence {lo hi a b : Nat} {w : World} (wl : Wf .f32 lo) (wh : Wf .f32 hi) (wa : Wf .f32 a) (wb : Wf .f32 b) :
    Calls Try.prog 70 #[.float .f32 lo, .float .f32 hi, .float .f32 a, .float .f32 b] w fun e w' => SeqR lo hi a b e ∧ Below w.heap.size w w' := by
  have hp : Hid (seqOk lo hi a b = (barsOk a b && ((innr lo 1065353216 && innr hi 1065353216) && (FloatKind.f32.format.order lo hi == some .lt)))) := hide rfl
  have HF : Hid (seqIn lo hi = true → _) := hide (fun h => seq_facts wl wh h)
  have HIn : Hid (seqIn lo hi = ((innr lo 1065353216 && innr hi 1065353216) && (FloatKind.f32.format.order lo hi == some .lt))) := hide rfl
  have HB : ∀ W, _ := fun W => i_SequenceBars (w := W) wa wb
  replace HB := hide HB
  clear wl wh wa wb
  go_enter Try.func70, Try.ntmps70
  go_wp2_with fail
  refine (HB.out _).mono ?_
  rintro e w1 ⟨⟨x, y, rfl, hx, hy⟩, hb⟩
  have blkB := (Blk.new w 88 (sqA 0 0 0 0)).below hb (by simp)
  have bel1 : Below w.heap.size w w1 := ((Below.refl _ _).alloc (Nat.le_refl _) _).trans (hb.mono (by simp))
  clear hb HB
  cases h1 : barsOk a b with
  | false =>
    have HN : Hid (seqOk lo hi a b = false) := hide (by rw [hp.out, h1]; rfl)
    have d0 := blkB.cell 0
    have d1 := blkB.cell 1
    have d2 := blkB.cell 2
    have d3 := blkB.cell 3
    have f0 := blkB.frozen 0
    have f1 := blkB.frozen 1
    have f2 := blkB.frozen 2
    have f3 := blkB.frozen 3
    clear hx hy
    go_wp2
    refine bodyPost_ret (results_rowT (P := Try.prog) rfl _ _ w.heap.size 88 (sqA 0 0 0 0) (0, 0) _ rfl ((((blkB.set_ 0 _).set_ 1 _).set_ 2 _).set_ 3 _) Try.underlying88 rfl (by kernel_rfl)) rfl ?_
    exact ⟨SeqR.no HN.out, ((((bel1.setCell (Nat.le_refl _) _).setCell (Nat.le_refl _) _).setCell (Nat.le_refl _) _).setCell (Nat.le_refl _) _)⟩
  | true =>
    rw [h1, if_pos rfl] at hx hy
    have HX := hide hx
    have HY := hide hy
    clear hx hy
    cases h2 : innr lo 1065353216 with
    | false =>
      have HN : Hid (seqOk lo hi a b = false) := hide (by rw [hp.out, h1, h2]; rfl)
      have d0 := blkB.cell 0
      have d1 := blkB.cell 1
      have d2 := blkB.cell 2
      have d3 := blkB.cell 3
      have f0 := blkB.frozen 0
      have f1 := blkB.frozen 1
      have f2 := blkB.frozen 2
      have f3 := blkB.frozen 3
      go_wp2_with (go_at_call 67; refine i_isInner.mono ?_; rintro e w' ⟨rfl, rfl⟩; rw [h2])
      refine bodyPost_ret (results_rowT (P := Try.prog) rfl _ _ w.heap.size 88 (sqA 0 0 0 0) (0, 0) _ rfl ((((blkB.set_ 0 _).set_ 1 _).set_ 2 _).set_ 3 _) Try.underlying88 rfl (by kernel_rfl)) rfl ?_
      exact ⟨SeqR.no HN.out, ((((bel1.setCell (Nat.le_refl _) _).setCell (Nat.le_refl _) _).setCell (Nat.le_refl _) _).setCell (Nat.le_refl _) _)⟩
    | true =>
      cases h3 : innr hi 1065353216 with
      | false =>
        have HN : Hid (seqOk lo hi a b = false) := hide (by rw [hp.out, h1, h2, h3]; rfl)
        have d0 := blkB.cell 0
        have d1 := blkB.cell 1
        have d2 := blkB.cell 2
        have d3 := blkB.cell 3
        have f0 := blkB.frozen 0
        have f1 := blkB.frozen 1
        have f2 := blkB.frozen 2
        have f3 := blkB.frozen 3
        go_wp2_with (go_at_call 67; refine i_isInner.mono ?_; rintro e w' ⟨rfl, rfl⟩; (first | rw [h2] | rw [h3]))
        refine bodyPost_ret (results_rowT (P := Try.prog) rfl _ _ w.heap.size 88 (sqA 0 0 0 0) (0, 0) _ rfl ((((blkB.set_ 0 _).set_ 1 _).set_ 2 _).set_ 3 _) Try.underlying88 rfl (by kernel_rfl)) rfl ?_
        exact ⟨SeqR.no HN.out, ((((bel1.setCell (Nat.le_refl _) _).setCell (Nat.le_refl _) _).setCell (Nat.le_refl _) _).setCell (Nat.le_refl _) _)⟩
      | true =>
        cases h4 : (FloatKind.f32.format.order lo hi == some .lt) with
        | false =>
          have HN : Hid (seqOk lo hi a b = false) := hide (by rw [hp.out, h1, h2, h3, h4]; rfl)
          have d0 := blkB.cell 0
          have d1 := blkB.cell 1
          have d2 := blkB.cell 2
          have d3 := blkB.cell 3
          have f0 := blkB.frozen 0
          have f1 := blkB.frozen 1
          have f2 := blkB.frozen 2
          have f3 := blkB.frozen 3
          go_wp2_with (go_at_call 67; refine i_isInner.mono ?_; rintro e w' ⟨rfl, rfl⟩; (first | rw [h2] | rw [h3]))
          refine bodyPost_ret (results_rowT (P := Try.prog) rfl _ _ w.heap.size 88 (sqA 0 0 0 0) (0, 0) _ rfl ((((blkB.set_ 0 _).set_ 1 _).set_ 2 _).set_ 3 _) Try.underlying88 rfl (by kernel_rfl)) rfl ?_
          exact ⟨SeqR.no HN.out, ((((bel1.setCell (Nat.le_refl _) _).setCell (Nat.le_refl _) _).setCell (Nat.le_refl _) _).setCell (Nat.le_refl _) _)⟩
        | true =>
          have HN : Hid (seqOk lo hi a b = true) := hide (by rw [hp.out, h1, h2, h3, h4]; rfl)
          obtain ⟨q1, e1, e2, q2, Q1, k1, k2, D1, D2, Q2, k3, k4, L1, L2⟩ := HF.out (by rw [HIn.out, h2, h3, h4]; rfl)
          replace Q1 := hide Q1
          replace D1 := hide D1
          replace D2 := hide D2
          replace Q2 := hide Q2
          have hL := hide (And.intro L1 L2)
          replace k1 := hide k1
          replace k2 := hide k2
          replace k3 := hide k3
          replace k4 := hide k4
          clear L1 L2 HF HIn hp
          have d0 := blkB.cell 0
          have d1 := blkB.cell 1
          have d2 := blkB.cell 2
          have d3 := blkB.cell 3
          have f0 := blkB.frozen 0
          have f1 := blkB.frozen 1
          have f2 := blkB.frozen 2
          have f3 := blkB.frozen 3
          have hlt := blkB.lt
          go_wp2_with (first
            | (go_at_call 67; refine i_isInner.mono ?_; rintro e w' ⟨rfl, rfl⟩; (first | rw [h2] | rw [h3]))
            | (go_at_call 68; rw [Q1.out]; refine (i_LogNumber k1.out k2.out).mono ?_; rintro e w3 ⟨z1, rfl, hz1, m1, rfl⟩)
            | (go_at_call 68; rw [D1.out, D2.out, Q2.out]; refine (i_LogNumber k3.out k4.out).mono ?_; rintro e w4 ⟨z2, rfl, hz2, m2, rfl⟩))
          refine bodyPost_ret (results_rowT (P := Try.prog) rfl _ _ w.heap.size 88 (sqA x y z1 z2) (0, 0) _ rfl (((((blkB.drewN _).set_ 0 _).set_ 1 _).set_ 2 _).set_ 3 _) Try.underlying88 rfl (by kernel_rfl)) rfl ?_
          replace bel1 := below_drewN bel1
          exact ⟨SeqR.yes HN.out ⟨HX.out, HY.out, by rw [hL.out.1]; exact hz1.out, by rw [hL.out.2]; exact hz2.out⟩, (((((bel1 _).setCell (Nat.le_refl _) _).setCell (Nat.le_refl _) _).setCell (Nat.le_refl _) _).setCell (Nat.le_refl _) _)⟩
def tOk (xs : List Bool) (lo hi a b : Nat) : Bool := seqOk lo hi a b && decide (xs.length ≤ 256)
def tR (xs : List Bool) (lo hi a b : Nat) : Int × Int := if tOk xs lo hi a b = true then seqRes (bars1 a b) (bars2 a b) (sUp lo hi) (sDn lo hi) xs 0 0 else (0, 0)
theorem tR_no {xs : List Bool} {lo hi a b : Nat} (h : tOk xs lo hi a b = false) : tR xs lo hi a b = (0, 0) := by unfold tR; rw [h]; rfl
theorem tR_yes {xs : List Bool} {lo hi a b : Nat} (h : tOk xs lo hi a b = true) : tR xs lo hi a b = seqRes (bars1 a b) (bars2 a b) (sUp lo hi) (sDn lo hi) xs 0 0 := by unfold tR; rw [h]; rfl
theorem ret_test {a b c d : Int} {o p : Bool} (h1 : (a, b) = (c, d)) (h2 : o = p) : Ending.returned (.tuple #[.int .i64 a, .int .i64 b, .bool o]) = .returned (.tuple #[.int .i64 c, .int .i64 d, .bool p]) := by
  injection h1 with h3 h4; subst h3; subst h4; subst h2; rfl
set_option maxHeartbeats 4000000 in
theorem i_SequenceTest {A : Option Addr} {n c : Nat} {xs : List Bool} {lo hi a b : Nat} {w : World} (h : Reads w w.heap.size 1 A n (bl xs)) (hn : n ≤ 1048576) (wl : Wf .f32 lo) (wh : Wf .f32 hi) (wa : Wf .f32 a) (wb : Wf .f32 b) :
    Calls Try.prog 19 #[.slice A n c, .float .f32 lo, .float .f32 hi, .float .f32 a, .float .f32 b] w fun e w' => e = .returned (.tuple #[.int .i64 (tR xs lo hi a b).1, .int .i64 (tR xs lo hi a b).2, .bool (tOk xs lo hi a b)]) ∧ Below w.heap.size w w' := by
  have Hl := hide h.map_len
  have hT : Hid (tOk xs lo hi a b = (seqOk lo hi a b && decide (xs.length ≤ 256))) := hide rfl
  have HB : ∀ W, _ := fun W => i_asSequence (w := W) wl wh wa wb
  replace HB := hide HB
  clear wl wh wa wb
  go_enter Try.func19, Try.ntmps19
  go_wp2_with fail
  refine (HB.out _).mono ?_
  rintro e w1 ⟨⟨x1, x2, x3, x4, rfl, hx⟩, hb⟩
  clear HB
  cases h1 : seqOk lo hi a b with
  | false =>
    have HN : Hid (tOk xs lo hi a b = false) := hide (by rw [hT.out, h1]; rfl)
    clear hx
    go_wp2
    go_ret3
    exact ⟨ret_test (by rw [tR_no HN.out]) HN.out.symm, hb.alloc hb.size _⟩
  | true =>
    obtain ⟨c1, c2, c3, c4⟩ := hx h1
    have C1 := hide c1
    have C2 := hide c2
    have C3 := hide c3
    have C4 := hide c4
    clear hx c1 c2 c3 c4
    by_cases hm : n ≤ 256
    · have hmI : ¬ (256 : Int) < (n : Int) := by omega
      have HN : Hid (tOk xs lo hi a b = true) := hide (by rw [hT.out, h1, Hl.out, decide_eq_true hm]; rfl)
      have HR := hide (tR_yes HN.out)
      have blk := Blk.new w1 88 (sqA x1 x2 x3 x4)
      have bel1 := hb.alloc hb.size (.cells (sqA x1 x2 x3 x4) 88)
      have hr1 := hide (h.below bel1)
      have hgt : w1.heap.size < (w1.alloc (.cells (sqA x1 x2 x3 x4) 88)).heap.size := by simp
      have hsz1 := hb.size
      clear h hb h1 hm
      go_wp2
      go_loopw [15, 36] (fun s i wr => ∃ k sz : Nat, k ≤ n ∧ i = .int .i64 k ∧ s = .float .f32 sz ∧ Hid (seqRes (bars1 a b) (bars2 a b) (sUp lo hi) (sDn lo hi) (xs.drop k) (cn .f32 sz) (k : Int) = tR xs lo hi a b) ∧ Hid (Blk wr w1.heap.size 88 (sqA x1 x2 x3 x4)) ∧ Hid (Reads wr w.heap.size 1 A n (bl xs)) ∧ Below w.heap.size w wr) (fun _ i _ => n - (intOf i).toNat)
      case atStart => exact ⟨0, 0, Nat.zero_le _, rfl, rfl, hide (by rw [HR.out, cn_zero]; rfl), hide blk, hr1, bel1⟩
      case round =>
        clear blk bel1 hr1 hgt
        obtain ⟨k, sz, hk, rfl, rfl, hres, hblk, hrd, hbel⟩ := hrel
        by_cases hk2 : k < n
        · obtain ⟨ad, g, rfl, _, hx, hc⟩ := hrd.out.map_at hk2
          have hkI : (k : Int) < (n : Int) := by omega
          have e0 := hblk.out.cell 0
          have e1 := hblk.out.cell 1
          have e2 := hblk.out.cell 2
          have e3 := hblk.out.cell 3
          have hblt := hblk.out.lt
          have HX := hide hx
          have hszb := hbel.size
          clear hx
          cases g with
          | true =>
            have HS : Hid (∀ W, fb .add .f32 (cn .f32 sz) (sPk true (sDn lo hi) (sUp lo hi)) = cn .f32 (flR .add .f32 sz x4 W)) := hide (fun W => by rw [sPk_t, ← C4.out, fb_cn, cn_flR])
            have HE : Hid (∀ W, seqEnd (bars1 a b) (bars2 a b) (cn .f32 (flR .add .f32 sz x4 W)) = seqEnd x1 x2 (flR .add .f32 sz x4 W)) := hide (fun W => by rw [← C1.out, ← C2.out, seqEnd_cn])
            go_wp2_with fail
            refine i_ends.mono ?_
            rintro e w3 ⟨rfl, hb3⟩
            generalize hZ : flR .add .f32 sz x4 wr = Z at *
            have HEz := HE.out wr
            rw [hZ] at HEz
            have HSz := HS.out wr
            rw [hZ] at HSz
            have hbel3 : Below w.heap.size w w3 := (below_drewN hbel _).trans (hb3.mono hszb)
            have hblk3 := hide ((hblk.out.drewN _).below hb3 hblt)
            have hrd3 := hide ((hrd.out.drewN _).below (hb3.mono hszb))
            by_cases h0 : seqEnd x1 x2 Z = 0
            · have HO := hide ((seqRes_on HX.out (by rw [HSz, HEz]; exact h0)).symm.trans hres.out)
              rw [h0]
              rw [HSz] at HO
              go_wp2
              go_roundw
              case rel => exact ⟨k + 1, Z, by omega, by go_num, rfl, HO, hblk3, hrd3, hbel3⟩
              case measure => (simp [intOf]; try omega)
            · have HO := hide ((seqRes_end HX.out (by rw [HSz, HEz]; exact h0)).symm.trans hres.out)
              rw [HSz, HEz] at HO
              generalize seqEnd x1 x2 Z = E at *
              go_wp2
              go_ret3
              exact ⟨ret_test HO.out HN.out.symm, hbel3⟩
          | false =>
            have HS : Hid (∀ W, fb .add .f32 (cn .f32 sz) (sPk false (sDn lo hi) (sUp lo hi)) = cn .f32 (flR .add .f32 sz x3 W)) := hide (fun W => by rw [sPk_f, ← C3.out, fb_cn, cn_flR])
            have HE : Hid (∀ W, seqEnd (bars1 a b) (bars2 a b) (cn .f32 (flR .add .f32 sz x3 W)) = seqEnd x1 x2 (flR .add .f32 sz x3 W)) := hide (fun W => by rw [← C1.out, ← C2.out, seqEnd_cn])
            go_wp2_with fail
            refine i_ends.mono ?_
            rintro e w3 ⟨rfl, hb3⟩
            generalize hZ : flR .add .f32 sz x3 wr = Z at *
            have HEz := HE.out wr
            rw [hZ] at HEz
            have HSz := HS.out wr
            rw [hZ] at HSz
            have hbel3 : Below w.heap.size w w3 := (below_drewN hbel _).trans (hb3.mono hszb)
            have hblk3 := hide ((hblk.out.drewN _).below hb3 hblt)
            have hrd3 := hide ((hrd.out.drewN _).below (hb3.mono hszb))
            by_cases h0 : seqEnd x1 x2 Z = 0
            · have HO := hide ((seqRes_on HX.out (by rw [HSz, HEz]; exact h0)).symm.trans hres.out)
              rw [h0]
              rw [HSz] at HO
              go_wp2
              go_roundw
              case rel => exact ⟨k + 1, Z, by omega, by go_num, rfl, HO, hblk3, hrd3, hbel3⟩
              case measure => (simp [intOf]; try omega)
            · have HO := hide ((seqRes_end HX.out (by rw [HSz, HEz]; exact h0)).symm.trans hres.out)
              rw [HSz, HEz] at HO
              generalize seqEnd x1 x2 Z = E at *
              go_wp2
              go_ret3
              exact ⟨ret_test HO.out HN.out.symm, hbel3⟩
        · obtain rfl : k = n := by omega
          have hkI : ¬ (k : Int) < (k : Int) := by omega
          have HO : Hid ((0, (k : Int)) = tR xs lo hi a b) := hide (by
            have := hres.out
            rwa [List.drop_eq_nil_of_le (by rw [Hl.out]; exact Nat.le_refl _)] at this)
          go_wp2
          go_ret3
          exact ⟨ret_test HO.out HN.out.symm, hbel⟩
    · have hmI : (256 : Int) < (n : Int) := by omega
      have HN : Hid (tOk xs lo hi a b = false) := hide (by rw [hT.out, h1, Hl.out, decide_eq_false hm]; rfl)
      clear hm
      go_wp2
      go_ret3
      exact ⟨ret_test (by rw [tR_no HN.out]) HN.out.symm, hb.alloc hb.size _⟩
end Go.Proofs.Ytolbibpmngmpdaa
