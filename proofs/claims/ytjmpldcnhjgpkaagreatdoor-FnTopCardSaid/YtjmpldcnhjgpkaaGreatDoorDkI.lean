/-
  RunDesk: the program's walk.
-/
import Derived.Test.YtjmpldcnhjgpkaaGreatDoorDkH
namespace Go.Proofs.YtjmpldcnhjgpkaaGreatDoor
open Go.RowKit Mem Fl Go.Shelf
set_option linter.unusedVariables false
set_option maxRecDepth 100000

set_option maxHeartbeats 16000000 in
theorem i_RunDesk {v : Value} {Ds : Nat → Dk} {T : Nat → ByteArray} {L : List ByteArray} {s : ByteArray} {w : World} (hv : DkV w v (Ds 0)) (G : Gl w) (hs : s.size ≤ 16000) (hL : splitS s 10 = L ++ [⟨#[]⟩])
    (hok : dkOk (Ds 0) = true) (hC : ∀ k x, L[k]? = some x → Cmd (Ds k) x (Ds (k + 1)) (T k)) (hT : ∀ k, (T k).size ≤ 100000) (hn : L.length ≤ 1000) (h1 : 1 ≤ L.length) :
    Calls Tryz.prog 13 #[v, .string s] w fun e w' => ∃ v', e = .returned (.tuple #[v', .string (outB T L.length), .bool true]) ∧ DkV w' v' (Ds L.length) ∧ Below w.heap.size w w' := by
  obtain ⟨LA, ln, lc, RA, rn, rc, rfl, hR⟩ := hv
  obtain ⟨bs, m2⟩ := G.m2
  have hlm := Go.Clock.block_lt m2
  obtain ⟨n, hn'⟩ : ∃ n, L.length = n := ⟨_, rfl⟩
  rw [hn'] at hn h1 ⊢
  have hlen : (splitS s 10).length = n + 1 := by rw [hL, List.length_append, hn']; rfl
  have hlast : (splitS s 10)[(splitS s 10).length - 1]? = some ⟨#[]⟩ := by rw [hlen, hL]; simp [hn']
  have HG := hide G
  have HB0 : Hid (∀ o1 o2, Below w.heap.size w ((w.alloc o1).alloc o2)) := hide (fun o1 o2 => ((Below.refl _ _).alloc (Nat.le_refl _) _).alloc (by simp) _)
  have HLn : Hid (∀ W : World, Below w.heap.size w W → Calls Tryz.prog 37 #[.string s] W fun e w' => e = .returned (.tuple #[.slice (some ⟨W.heap.size, 0, none⟩) n (n + 1), .bool true]) ∧ Blk w' W.heap.size 9 ((L ++ [(⟨#[]⟩ : ByteArray)]).map Value.string).toArray ∧ Below W.heap.size W w') := hide (fun W hb => by
    have h := i_linesOf (s := s) (x := ⟨#[]⟩) (w := W) (by omega) ((hb.cell (p := ⟨renSplit.g 1, 0, none⟩) hlm).trans m2) hlast
    rw [hlen, hL, decide_eq_true hs, Nat.add_sub_cancel, show (true && (⟨#[]⟩ : ByteArray).toList.isEmpty) = true by decide +kernel] at h
    exact h)
  have HR := hide hR
  have HC := hide hC
  have HT := hide hT
  have HOk := hide hok
  have HnL := hide hn'
  have HO := hide (outB_size hT)
  have HNe : Hid (∀ k, 1 ≤ k → (outB T k).data.toList ≠ []) := hide (fun k hk => by
    cases k with
    | zero => omega
    | succ k => simp only [outB]; rw [ByteArray.data_append, ByteArray.data_append]; simp)
  clear hR G m2 hlm hlen hlast hC hT hok hL hn'
  go_enter Tryz.func13, Tryz.ntmps13
  go_wp2_with (go_at_call 37; refine (HLn.out _ (HB0.out _ _)).mono ?_; rintro e w1 ⟨rfl, hbl, hb1⟩; have HN1 : Hid (Blk w1 w.heap.size 34 (dkC LA ln lc RA rn rc (Ds 0))) := hide (((Blk.new w _ _).alloc _).below hb1 (by simp; omega)); have HZ1 : Hid (Blk w1 (w.heap.size + 1) 34 dk0) := hide ((blk_new' (w.alloc _) (w.heap.size + 1) _ _ (by simp)).below hb1 (by simp)); have HB1 : Hid (Below w.heap.size w w1) := hide ((HB0.out _ _).trans (hb1.mono (by simp; omega))); have hs1 : w.heap.size + 2 ≤ w1.heap.size := (by have := hb1.size; simp at this; omega); have HL1 : Hid (Blk w1 (w.heap.size + 2) 9 ((L ++ [(⟨#[]⟩ : ByteArray)]).map Value.string).toArray) := hide (by simpa using hbl); clear hbl hb1 HLn HB0; have c0 : w1.cell? ⟨w.heap.size, 0, none⟩ = some (.slice LA ln lc) := HN1.out.cell 0; have c1 : w1.cell? ⟨w.heap.size, 1, none⟩ = some (.int .i64 (Ds 0).kd) := HN1.out.cell 1; have c2 : w1.cell? ⟨w.heap.size, 2, none⟩ = some (.float .f32 (Ds 0).sh) := HN1.out.cell 2; have c3 : w1.cell? ⟨w.heap.size, 3, none⟩ = some (.float .f32 (Ds 0).sc) := HN1.out.cell 3; have c4 : w1.cell? ⟨w.heap.size, 4, none⟩ = some (.int .i64 (Ds 0).st) := HN1.out.cell 4; have c5 : w1.cell? ⟨w.heap.size, 5, none⟩ = some (.slice RA rn rc) := HN1.out.cell 5; have c6 : w1.cell? ⟨w.heap.size, 6, none⟩ = some (.int .i64 (Ds 0).sz) := HN1.out.cell 6; have c7 : w1.cell? ⟨w.heap.size, 7, none⟩ = some (.int .i64 (Ds 0).ac) := HN1.out.cell 7)
  have hR1 := (HR.out.below HB1.out (Nat.le_refl _)).more HB1.out.size
  have HVd := hide (i_ValidDesk (lc := lc) (rc := rc) (kd := (Ds 0).kd) (sh := (Ds 0).sh) (sc := (Ds 0).sc) (st := (Ds 0).st) (sz := (Ds 0).sz) (ac := (Ds 0).ac) (Nat.le_refl w1.heap.size) hR1.l hR1.r (by have := hR1.l2; omega) (by have := hR1.r2; omega))
  rw [show deskOk (Ds 0).lv (Ds 0).kd (Ds 0).sh (Ds 0).sc (Ds 0).st (Ds 0).rs (Ds 0).sz (Ds 0).ac = true from HOk.out] at HVd
  have HR1 := hide hR1
  clear hR1 HR
  go_wp2_with (go_at_call 15; refine HVd.out.mono ?_; rintro e w2 ⟨rfl, hb2⟩; have HN2 := hide (HN1.out.below hb2 (by omega)); have HZ2 := hide (HZ1.out.below hb2 (by omega)); have HL2 := hide (HL1.out.below hb2 HL1.out.lt); have HB2 := hide (HB1.out.trans (hb2.mono HB1.out.size)); have HR2 := hide ((HR1.out.below hb2 (Nat.le_refl _)).more hb2.size); have hs2 : w.heap.size + 3 ≤ w2.heap.size := (by have := hb2.size; have := HL1.out.lt; omega); clear hb2 HN1 HZ1 HL1 HB1 HR1 HVd c0 c1 c2 c3 c4 c5 c6 c7)
  have hbl0 : w2.heap.size = w2.heap.size := rfl
  clear hbl0
  go_loopw [30] (fun iv wr => ∃ k : Nat, k ≤ n ∧ iv = .int .i64 k ∧ Hid (∃ LA ln lc RA rn rc, Blk wr w.heap.size 34 (dkC LA ln lc RA rn rc (Ds k)) ∧ DkR wr 0 wr.heap.size LA ln RA rn rc (Ds k)) ∧ Hid (Bld w2.heap.size w2.heap.size (outB T k) wr) ∧ Hid (Below w.heap.size w wr) ∧ Hid (Blk wr (w.heap.size + 1) 34 dk0) ∧ Hid (Blk wr (w.heap.size + 2) 9 ((L ++ [(⟨#[]⟩ : ByteArray)]).map Value.string).toArray)) (fun i _ => n - (intOf i).toNat)
  case atStart =>
    have ba : Below w2.heap.size w2 (w2.alloc (.cells #[.pointer none, .slice none 0 0] 82)) := (Below.refl _ _).alloc (Nat.le_refl _) _
    exact ⟨0, Nat.zero_le _, rfl, hide ⟨_, _, _, _, _, _, HN2.out.alloc _, (HR2.out.below ba (Nat.le_refl _)).more (by simp)⟩, hide (Lib.IsBuilderF.of (Lib.fresh_isBuilder _ _ _)), hide (HB2.out.alloc HB2.out.size _), hide (HZ2.out.alloc _), hide (HL2.out.alloc _)⟩
  case round =>
    clear HN2 HR2 HB2 HZ2 HL2
    obtain ⟨k, hk, rfl, HD, HBd, HBl, HZ, HLs⟩ := hrel
    rename World => wr
    obtain ⟨LA, ln, lc, RA, rn, rc, hN, hR⟩ := HD.out
    replace hN := hide hN
    replace hR := hide hR
    clear HD
    have c0 : wr.cell? ⟨w.heap.size, 0, none⟩ = some (.slice LA ln lc) := hN.out.cell 0
    have c1 : wr.cell? ⟨w.heap.size, 1, none⟩ = some (.int .i64 (Ds k).kd) := hN.out.cell 1
    have c2 : wr.cell? ⟨w.heap.size, 2, none⟩ = some (.float .f32 (Ds k).sh) := hN.out.cell 2
    have c3 : wr.cell? ⟨w.heap.size, 3, none⟩ = some (.float .f32 (Ds k).sc) := hN.out.cell 3
    have c4 : wr.cell? ⟨w.heap.size, 4, none⟩ = some (.int .i64 (Ds k).st) := hN.out.cell 4
    have c5 : wr.cell? ⟨w.heap.size, 5, none⟩ = some (.slice RA rn rc) := hN.out.cell 5
    have c6 : wr.cell? ⟨w.heap.size, 6, none⟩ = some (.int .i64 (Ds k).sz) := hN.out.cell 6
    have c7 : wr.cell? ⟨w.heap.size, 7, none⟩ = some (.int .i64 (Ds k).ac) := hN.out.cell 7
    by_cases hlt : k < n
    · have hkI : (k : Int) < (n : Int) := by omega
      obtain ⟨x, hx⟩ : ∃ x, L[k]? = some x := ⟨_, List.getElem?_eq_getElem (by rw [HnL.out]; exact hlt)⟩
      have cx : wr.cell? ⟨w.heap.size + 2, k, none⟩ = some (.string x) := by rw [HLs.out.cell]; simp [List.getElem?_append, HnL.out, hlt]; exact (List.getElem?_eq_some_iff.1 hx).2
      have HCm := hide (HC.out k x hx _ wr ⟨LA, ln, lc, RA, rn, rc, rfl, hR.out⟩ (HG.out.below HBl.out))
      have hTk := HT.out k
      have hOk2 := HO.out k
      have e1 : (⟨#[10]⟩ : ByteArray).size = 1 := rfl
      have HS : Hid (∀ W, (Op.stringOp .add (T k) ⟨#[10]⟩).run Tryz.prog W = .ok (.string (T k ++ ⟨#[10]⟩)) W) := hide (fun W => run_string_add_sum (P := Tryz.prog) W _ _ (by omega))
      have hsz : (outB T k).size + (T k ++ ⟨#[10]⟩ : ByteArray).size ≤ 140737488355328 := by rw [ByteArray.size_append]; omega
      have Hsz := hide hsz
      have HOB : Hid (outB T (k + 1) = outB T k ++ (T k ++ ⟨#[10]⟩)) := hide rfl
      obtain ⟨tk, htk⟩ : ∃ tk, T k = tk := ⟨_, rfl⟩
      obtain ⟨ob, hob⟩ : ∃ ob, outB T k = ob := ⟨_, rfl⟩
      rw [htk] at HCm HS Hsz HOB
      rw [hob] at Hsz HOB HBd
      have HSs := HS.out
      clear hx hTk hOk2 hsz htk hob HS
      go_wp2_with (go_at_call 38; refine HCm.out.mono ?_; rintro e w3 ⟨v', rfl, hV, hb3⟩; obtain ⟨LA3, ln3, lc3, RA3, rn3, rc3, rfl, hR3⟩ := hV; replace hR3 := hide hR3; have HN3 := hide (hN.out.below hb3 hN.out.lt); have HZ3 := hide (HZ.out.below hb3 HZ.out.lt); have HL3 := hide (HLs.out.below hb3 HLs.out.lt); have HBd3 : Hid (Bld w2.heap.size w2.heap.size ob w3) := hide (builder_below HBd.out hb3); have HB3 := hide (HBl.out.trans (hb3.mono HBl.out.size)); have hs3 : w.heap.size + 3 ≤ w3.heap.size := (by have := hb3.size; have := HLs.out.lt; omega); clear hb3 hN HZ HLs HBd HBl HCm c0 c1 c2 c3 c4 c5 c6 c7; have d0 : ∀ o, (w3.alloc o).cell? ⟨w.heap.size, 0, none⟩ = some (.slice LA ln lc) := fun o => (HN3.out.alloc o).cell 0; have df0 : ∀ o, (w3.alloc o).frozen? ⟨w.heap.size, 0, none⟩ = false := fun o => (HN3.out.alloc o).frozen 0; have d1 : ∀ o, (w3.alloc o).cell? ⟨w.heap.size, 1, none⟩ = some (.int .i64 (Ds k).kd) := fun o => (HN3.out.alloc o).cell 1; have df1 : ∀ o, (w3.alloc o).frozen? ⟨w.heap.size, 1, none⟩ = false := fun o => (HN3.out.alloc o).frozen 1; have d2 : ∀ o, (w3.alloc o).cell? ⟨w.heap.size, 2, none⟩ = some (.float .f32 (Ds k).sh) := fun o => (HN3.out.alloc o).cell 2; have df2 : ∀ o, (w3.alloc o).frozen? ⟨w.heap.size, 2, none⟩ = false := fun o => (HN3.out.alloc o).frozen 2; have d3 : ∀ o, (w3.alloc o).cell? ⟨w.heap.size, 3, none⟩ = some (.float .f32 (Ds k).sc) := fun o => (HN3.out.alloc o).cell 3; have df3 : ∀ o, (w3.alloc o).frozen? ⟨w.heap.size, 3, none⟩ = false := fun o => (HN3.out.alloc o).frozen 3; have d4 : ∀ o, (w3.alloc o).cell? ⟨w.heap.size, 4, none⟩ = some (.int .i64 (Ds k).st) := fun o => (HN3.out.alloc o).cell 4; have df4 : ∀ o, (w3.alloc o).frozen? ⟨w.heap.size, 4, none⟩ = false := fun o => (HN3.out.alloc o).frozen 4; have d5 : ∀ o, (w3.alloc o).cell? ⟨w.heap.size, 5, none⟩ = some (.slice RA rn rc) := fun o => (HN3.out.alloc o).cell 5; have df5 : ∀ o, (w3.alloc o).frozen? ⟨w.heap.size, 5, none⟩ = false := fun o => (HN3.out.alloc o).frozen 5; have d6 : ∀ o, (w3.alloc o).cell? ⟨w.heap.size, 6, none⟩ = some (.int .i64 (Ds k).sz) := fun o => (HN3.out.alloc o).cell 6; have df6 : ∀ o, (w3.alloc o).frozen? ⟨w.heap.size, 6, none⟩ = false := fun o => (HN3.out.alloc o).frozen 6; have d7 : ∀ o, (w3.alloc o).cell? ⟨w.heap.size, 7, none⟩ = some (.int .i64 (Ds k).ac) := fun o => (HN3.out.alloc o).cell 7; have df7 : ∀ o, (w3.alloc o).frozen? ⟨w.heap.size, 7, none⟩ = false := fun o => (HN3.out.alloc o).frozen 7)
      have hRa : DkR (w3.alloc (.cells (dkC LA3 ln3 lc3 RA3 rn3 rc3 (Ds (k + 1))) 34)) 0 w3.heap.size LA3 ln3 RA3 rn3 rc3 (Ds (k + 1)) := hR3.out.below ((Below.refl _ _).alloc (Nat.le_refl _) _) (Nat.le_refl _)
      have hBa : Bld w2.heap.size w2.heap.size ob (w3.alloc (.cells (dkC LA3 ln3 lc3 RA3 rn3 rc3 (Ds (k + 1))) 34)) := builder_below HBd3.out ((Below.refl _ _).alloc (Nat.le_refl _) _)
      obtain ⟨w4, hw4⟩ : ∃ w4, w4 = (((((((((w3.alloc (.cells (dkC LA3 ln3 lc3 RA3 rn3 rc3 (Ds (k + 1))) 34)).setCell ⟨w.heap.size, 0, none⟩ (.slice LA3 ln3 lc3)).setCell ⟨w.heap.size, 1, none⟩ (.int .i64 (Ds (k + 1)).kd)).setCell ⟨w.heap.size, 2, none⟩ (.float .f32 (Ds (k + 1)).sh)).setCell ⟨w.heap.size, 3, none⟩ (.float .f32 (Ds (k + 1)).sc)).setCell ⟨w.heap.size, 4, none⟩ (.int .i64 (Ds (k + 1)).st)).setCell ⟨w.heap.size, 5, none⟩ (.slice RA3 rn3 rc3)).setCell ⟨w.heap.size, 6, none⟩ (.int .i64 (Ds (k + 1)).sz)).setCell ⟨w.heap.size, 7, none⟩ (.int .i64 (Ds (k + 1)).ac)) := ⟨_, rfl⟩
      have hR4 : Hid (DkR w4 0 w3.heap.size LA3 ln3 RA3 rn3 rc3 (Ds (k + 1))) := hide (by rw [hw4]; exact (DkR.off (DkR.off (DkR.off (DkR.off (DkR.off (DkR.off (DkR.off (DkR.off (hRa) (p := ⟨w.heap.size, 0, none⟩) (BT.blk (HN3.out.alloc _)) (by decide) (by decide) _) (p := ⟨w.heap.size, 1, none⟩) ((BT.blk (HN3.out.alloc _)).setCell _ _) (by decide) (by decide) _) (p := ⟨w.heap.size, 2, none⟩) (((BT.blk (HN3.out.alloc _)).setCell _ _).setCell _ _) (by decide) (by decide) _) (p := ⟨w.heap.size, 3, none⟩) ((((BT.blk (HN3.out.alloc _)).setCell _ _).setCell _ _).setCell _ _) (by decide) (by decide) _) (p := ⟨w.heap.size, 4, none⟩) (((((BT.blk (HN3.out.alloc _)).setCell _ _).setCell _ _).setCell _ _).setCell _ _) (by decide) (by decide) _) (p := ⟨w.heap.size, 5, none⟩) ((((((BT.blk (HN3.out.alloc _)).setCell _ _).setCell _ _).setCell _ _).setCell _ _).setCell _ _) (by decide) (by decide) _) (p := ⟨w.heap.size, 6, none⟩) (((((((BT.blk (HN3.out.alloc _)).setCell _ _).setCell _ _).setCell _ _).setCell _ _).setCell _ _).setCell _ _) (by decide) (by decide) _) (p := ⟨w.heap.size, 7, none⟩) ((((((((BT.blk (HN3.out.alloc _)).setCell _ _).setCell _ _).setCell _ _).setCell _ _).setCell _ _).setCell _ _).setCell _ _) (by decide) (by decide) _))
      have hB4 : Hid (Bld w2.heap.size w2.heap.size ob w4) := hide (by rw [hw4]; exact (bld_off (bld_off (bld_off (bld_off (bld_off (bld_off (bld_off (bld_off hBa (p := ⟨w.heap.size, 0, none⟩) (by simp; omega) _) (p := ⟨w.heap.size, 1, none⟩) (by simp; omega) _) (p := ⟨w.heap.size, 2, none⟩) (by simp; omega) _) (p := ⟨w.heap.size, 3, none⟩) (by simp; omega) _) (p := ⟨w.heap.size, 4, none⟩) (by simp; omega) _) (p := ⟨w.heap.size, 5, none⟩) (by simp; omega) _) (p := ⟨w.heap.size, 6, none⟩) (by simp; omega) _) (p := ⟨w.heap.size, 7, none⟩) (by simp; omega) _))
      have HB4 : Hid (Below w.heap.size w w4) := hide (by rw [hw4]; exact (Below.setCell (B := w.heap.size) (Below.setCell (B := w.heap.size) (Below.setCell (B := w.heap.size) (Below.setCell (B := w.heap.size) (Below.setCell (B := w.heap.size) (Below.setCell (B := w.heap.size) (Below.setCell (B := w.heap.size) (Below.setCell (B := w.heap.size) (HB3.out.alloc HB3.out.size _) (p := ⟨w.heap.size, 0, none⟩) (Nat.le_refl _) _) (p := ⟨w.heap.size, 1, none⟩) (Nat.le_refl _) _) (p := ⟨w.heap.size, 2, none⟩) (Nat.le_refl _) _) (p := ⟨w.heap.size, 3, none⟩) (Nat.le_refl _) _) (p := ⟨w.heap.size, 4, none⟩) (Nat.le_refl _) _) (p := ⟨w.heap.size, 5, none⟩) (Nat.le_refl _) _) (p := ⟨w.heap.size, 6, none⟩) (Nat.le_refl _) _) (p := ⟨w.heap.size, 7, none⟩) (Nat.le_refl _) _))
      have HN4 : Hid (Blk w4 w.heap.size 34 (dkC LA3 ln3 lc3 RA3 rn3 rc3 (Ds (k + 1)))) := hide (by rw [hw4]; exact (((((((((HN3.out.alloc _).set_ 0 _).set_ 1 _).set_ 2 _).set_ 3 _).set_ 4 _).set_ 5 _).set_ 6 _).set_ 7 _))
      have HZ4 : Hid (Blk w4 (w.heap.size + 1) 34 dk0) := hide (by rw [hw4]; exact (((((((((HZ3.out.alloc _).far (p := ⟨w.heap.size, 0, none⟩) (by simp) _).far (p := ⟨w.heap.size, 1, none⟩) (by simp) _).far (p := ⟨w.heap.size, 2, none⟩) (by simp) _).far (p := ⟨w.heap.size, 3, none⟩) (by simp) _).far (p := ⟨w.heap.size, 4, none⟩) (by simp) _).far (p := ⟨w.heap.size, 5, none⟩) (by simp) _).far (p := ⟨w.heap.size, 6, none⟩) (by simp) _).far (p := ⟨w.heap.size, 7, none⟩) (by simp) _))
      have HL4 : Hid (Blk w4 (w.heap.size + 2) 9 ((L ++ [(⟨#[]⟩ : ByteArray)]).map Value.string).toArray) := hide (by rw [hw4]; exact (((((((((HL3.out.alloc _).far (p := ⟨w.heap.size, 0, none⟩) (by simp) _).far (p := ⟨w.heap.size, 1, none⟩) (by simp) _).far (p := ⟨w.heap.size, 2, none⟩) (by simp) _).far (p := ⟨w.heap.size, 3, none⟩) (by simp) _).far (p := ⟨w.heap.size, 4, none⟩) (by simp) _).far (p := ⟨w.heap.size, 5, none⟩) (by simp) _).far (p := ⟨w.heap.size, 6, none⟩) (by simp) _).far (p := ⟨w.heap.size, 7, none⟩) (by simp) _))
      have hs4 : w3.heap.size ≤ w4.heap.size := by rw [hw4]; simp [World.size_setCell]
      have hb4 : w2.heap.size < w4.heap.size := (show BT w4 w2.heap.size 82 from (bld_blk hB4.out).2).lt
      rw [← hw4]
      clear hw4 hRa hBa HN3 HZ3 HL3 hR3 HBd3 HB3
      refine (writeK_calls hB4.out Hsz.out (Nat.le_of_lt hb4)).mono ?_
      rintro e w5 ⟨rfl, hB5, hb5, ho5⟩
      have hR5 := hide ((hR4.out.others ho5 (bld_blk hB4.out).2).more (B' := w5.heap.size) (by have := hb5.size; omega))
      have hB5' : Hid (Bld w2.heap.size w2.heap.size (outB T (k + 1)) w5) := hide (by rw [HOB.out]; exact hB5)
      have HB5 : Hid (Below w.heap.size w w5) := hide (HB4.out.trans (hb5.mono (by omega)))
      have HN5 := hide (HN4.out.below hb5 (by omega))
      have HZ5 := hide (HZ4.out.below hb5 (by omega))
      have HL5 := hide (HL4.out.below hb5 (by omega))
      clear hR4 hB4 HB4 HN4 HZ4 HL4 hB5 hb5 ho5 hb4 d0 d1 d2 d3 d4 d5 d6 d7 df0 df1 df2 df3 df4 df5 df6 df7 HSs
      go_wp2
      go_roundw
      case rel => exact ⟨k + 1, by omega, by go_num, hide ⟨_, _, _, _, _, _, HN5.out, hR5.out⟩, hB5', HB5, HZ5, HL5⟩
      case measure => (simp [intOf]; try omega)
    · obtain rfl : k = n := by omega
      have hkI : ¬ (k : Int) < (k : Int) := by omega
      have HCp := hide (i_copyDesk (lc := lc) hR.out)
      clear HLs hlt
      go_wp2_with (go_at_call 40; refine HCp.out.mono ?_; rintro e w6 ⟨LA6, lc6, RA6, rc6, rfl, hR6, hb6⟩)
      have hR6' := hide hR6
      have HZ6 := hide (HZ.out.below hb6 HZ.out.lt)
      have HB6 := hide (HBl.out.trans (hb6.mono HBl.out.size))
      have HBd6 : Hid (Bld w2.heap.size w2.heap.size (outB T k) w6) := hide (builder_below HBd.out hb6)
      have hb26 : w2.heap.size < w6.heap.size := (show BT w6 w2.heap.size 82 from (bld_blk HBd6.out).2).lt
      clear hR6 hb6 hN HZ HBl HBd HCp hR c0 c1 c2 c3 c4 c5 c6 c7
      refine (builderStringK HBd6.out (HNe.out k (by omega))).mono ?_
      rintro e w7 ⟨rfl, hb7, ho7⟩
      have hR7 := hide ((hR6'.out.others ho7 (bld_blk HBd6.out).2).more (B' := w7.heap.size) hb7.size)
      have HZ7 := hide (HZ6.out.below hb7 (by omega))
      have HB7 := hide (HB6.out.trans (hb7.mono (by omega)))
      have z0 : w7.cell? ⟨w.heap.size + 1, 0, none⟩ = some (.slice none 0 0) := HZ7.out.cell 0
      have zf0 : w7.frozen? ⟨w.heap.size + 1, 0, none⟩ = false := HZ7.out.frozen 0
      have z1 : w7.cell? ⟨w.heap.size + 1, 1, none⟩ = some (.int .i64 0) := HZ7.out.cell 1
      have zf1 : w7.frozen? ⟨w.heap.size + 1, 1, none⟩ = false := HZ7.out.frozen 1
      have z2 : w7.cell? ⟨w.heap.size + 1, 2, none⟩ = some (.float .f32 0) := HZ7.out.cell 2
      have zf2 : w7.frozen? ⟨w.heap.size + 1, 2, none⟩ = false := HZ7.out.frozen 2
      have z3 : w7.cell? ⟨w.heap.size + 1, 3, none⟩ = some (.float .f32 0) := HZ7.out.cell 3
      have zf3 : w7.frozen? ⟨w.heap.size + 1, 3, none⟩ = false := HZ7.out.frozen 3
      have z4 : w7.cell? ⟨w.heap.size + 1, 4, none⟩ = some (.int .i64 0) := HZ7.out.cell 4
      have zf4 : w7.frozen? ⟨w.heap.size + 1, 4, none⟩ = false := HZ7.out.frozen 4
      have z5 : w7.cell? ⟨w.heap.size + 1, 5, none⟩ = some (.slice none 0 0) := HZ7.out.cell 5
      have zf5 : w7.frozen? ⟨w.heap.size + 1, 5, none⟩ = false := HZ7.out.frozen 5
      have z6 : w7.cell? ⟨w.heap.size + 1, 6, none⟩ = some (.int .i64 0) := HZ7.out.cell 6
      have zf6 : w7.frozen? ⟨w.heap.size + 1, 6, none⟩ = false := HZ7.out.frozen 6
      have z7 : w7.cell? ⟨w.heap.size + 1, 7, none⟩ = some (.int .i64 0) := HZ7.out.cell 7
      have zf7 : w7.frozen? ⟨w.heap.size + 1, 7, none⟩ = false := HZ7.out.frozen 7
      clear hR6' HZ6 HB6 HBd6 hb7 ho7
      go_wp2
      refine bodyPost_ret (results_row_tmp2 (P := Tryz.prog) rfl _ _ (w.heap.size + 1) 34 (dkC LA6 ln lc6 RA6 rn rc6 (Ds k)) (0, 0) _ rfl ((((((((HZ7.out.set_ 0 _).set_ 1 _).set_ 2 _).set_ 3 _).set_ 4 _).set_ 5 _).set_ 6 _).set_ 7 _) Tryz.underlying34 rfl (by kernel_rfl)) rfl ?_
      exact ⟨_, rfl, ⟨_, _, _, _, _, _, rfl, ((DkR.off (DkR.off (DkR.off (DkR.off (DkR.off (DkR.off (DkR.off (DkR.off hR7.out (p := ⟨w.heap.size + 1, 0, none⟩) (BT.blk HZ7.out) (by decide) (by decide) _) (p := ⟨w.heap.size + 1, 1, none⟩) ((BT.blk HZ7.out).setCell _ _) (by decide) (by decide) _) (p := ⟨w.heap.size + 1, 2, none⟩) (((BT.blk HZ7.out).setCell _ _).setCell _ _) (by decide) (by decide) _) (p := ⟨w.heap.size + 1, 3, none⟩) ((((BT.blk HZ7.out).setCell _ _).setCell _ _).setCell _ _) (by decide) (by decide) _) (p := ⟨w.heap.size + 1, 4, none⟩) (((((BT.blk HZ7.out).setCell _ _).setCell _ _).setCell _ _).setCell _ _) (by decide) (by decide) _) (p := ⟨w.heap.size + 1, 5, none⟩) ((((((BT.blk HZ7.out).setCell _ _).setCell _ _).setCell _ _).setCell _ _).setCell _ _) (by decide) (by decide) _) (p := ⟨w.heap.size + 1, 6, none⟩) (((((((BT.blk HZ7.out).setCell _ _).setCell _ _).setCell _ _).setCell _ _).setCell _ _).setCell _ _) (by decide) (by decide) _) (p := ⟨w.heap.size + 1, 7, none⟩) ((((((((BT.blk HZ7.out).setCell _ _).setCell _ _).setCell _ _).setCell _ _).setCell _ _).setCell _ _).setCell _ _) (by decide) (by decide) _).down (Nat.zero_le _)).more (by simp [World.size_setCell])⟩, (Below.setCell (B := w.heap.size) (Below.setCell (B := w.heap.size) (Below.setCell (B := w.heap.size) (Below.setCell (B := w.heap.size) (Below.setCell (B := w.heap.size) (Below.setCell (B := w.heap.size) (Below.setCell (B := w.heap.size) (Below.setCell (B := w.heap.size) HB7.out (p := ⟨w.heap.size + 1, 0, none⟩) (by simp) _) (p := ⟨w.heap.size + 1, 1, none⟩) (by simp) _) (p := ⟨w.heap.size + 1, 2, none⟩) (by simp) _) (p := ⟨w.heap.size + 1, 3, none⟩) (by simp) _) (p := ⟨w.heap.size + 1, 4, none⟩) (by simp) _) (p := ⟨w.heap.size + 1, 5, none⟩) (by simp) _) (p := ⟨w.heap.size + 1, 6, none⟩) (by simp) _) (p := ⟨w.heap.size + 1, 7, none⟩) (by simp) _)⟩
end Go.Proofs.YtjmpldcnhjgpkaaGreatDoor
