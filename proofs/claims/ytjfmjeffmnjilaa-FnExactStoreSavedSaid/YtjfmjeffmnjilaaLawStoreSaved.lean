/-
  The law FnExactStoreSaved returns true for all arguments, and writes nothing that was there.
-/
import Derived.Test.YtjfmjeffmnjilaaStS
import Derived.Test.YtjfmjeffmnjilaaSvD
import Derived.BigGuardPart
namespace Go.Proofs.Ytjfmjeffmnjilaa
open Go.RowKit Fl Mem
set_option linter.unusedVariables false
set_option maxRecDepth 100000

set_option maxHeartbeats 4000000 in
theorem law_StoreSaved (s : Sv) (w : World) (h : SvOk w w.heap.size s) (hbig : SvBig s) :
    Calls Try.prog 5 #[svV s] w fun e w' => e = .returned (.bool true) ∧ Below w.heap.size w w' := by
  rcases s with ⟨nm, parts, PA, pn, pc, ps, SA, sn, sc, xs⟩
  obtain ⟨l3, l1, l2⟩ := hbig
  dsimp only at l1 l2 l3
  go_enter Try.func5, Try.ntmps5
  go_wp2_with fail
  refine (l_szSaved (by omega) (by omega) l1 l2 l3).mono ?_
  rintro e w1 ⟨r, rfl, hr, hb⟩
  have A : Hid (Blk w1 w.heap.size 33 #[.string nm, .int .i64 parts, .slice PA pn pc, .slice SA sn sc]) := hide ((Blk.new w _ _).below hb (by simp))
  have H := hide ((h.alloc (Nat.le_refl _) _).below (hb.mono (by simp)))
  have bel : Below w.heap.size w w1 := ((Below.refl w.heap.size w).alloc (Nat.le_refl _) _).trans (hb.mono (by simp))
  have z1 := hb.size
  simp only [World.size_alloc] at z1
  clear hb h
  rcases hr with hr | ⟨hr, hr1⟩
  · go_wp2
    go_ret
    exact ⟨rfl, bel⟩
  have i1 : ¬ r < 0 := by omega
  have m1 : pn ≤ 1048576 := by omega
  have m2 : sn ≤ 1048576 := by omega
  have m3 : nm.size ≤ 1048576 := by omega
  have L : Hid (∀ PA' pc' SA' sc', SvLe 1048576 ⟨nm, parts, PA', pn, pc', ps, SA', sn, sc', xs⟩) := hide (fun _ _ _ _ => ⟨m3, m1, m2⟩)
  clear l1 l2 l3 hr1
  have A0 : w1.cell? ⟨w.heap.size, 0, none⟩ = some (.string nm) := A.out.cell 0
  have A1 : w1.cell? ⟨w.heap.size, 1, none⟩ = some (.int .i64 parts) := A.out.cell 1
  have A2 : w1.cell? ⟨w.heap.size, 2, none⟩ = some (.slice PA pn pc) := A.out.cell 2
  have A3 : w1.cell? ⟨w.heap.size, 3, none⟩ = some (.slice SA sn sc) := A.out.cell 3
  go_wp2_with fail
  refine (l_toSaved (B := w.heap.size) H.out bel.size m1 m2).mono ?_
  rintro e w2 ⟨f1, f2, rfl, ho, hb⟩
  clear A0 A1 A2 A3
  replace A := hide (blk_below A.out hb)
  replace H := hide (H.out.below (hb.mono bel.size))
  replace bel := bel.trans (hb.mono bel.size)
  replace z1 := Nat.le_trans z1 hb.size
  clear hb
  go_wp2_with fail
  refine (s_StoreSaved ho.ok (Nat.le_refl _) (L.out _ _ _ _)).mono ?_
  rintro e w3 ⟨rfl, hb⟩
  replace A := hide (blk_below A.out hb)
  replace H := hide (H.out.below (hb.mono bel.size))
  replace bel := bel.trans (hb.mono bel.size)
  replace z1 := Nat.le_trans z1 hb.size
  clear hb ho
  have HR : ∃ R, Hid ((nameB nm && (sysB parts ps && isSig xs)) = R) := ⟨_, hide rfl⟩
  obtain ⟨R, HR⟩ := HR
  rw [show svB ⟨nm, parts, some ⟨f1, 0, none⟩, pn, pn, ps, some ⟨f2, 0, none⟩, sn, sn, xs⟩ = R from HR.out]
  dsimp only
  have HT : ∃ T, Hid ((if R = true then stored nm parts ps xs else ByteArray.empty) = T) := ⟨_, hide rfl⟩
  obtain ⟨T, HT⟩ := HT
  rw [HT.out]
  have A0 : w3.cell? ⟨w.heap.size, 0, none⟩ = some (.string nm) := A.out.cell 0
  have A1 : w3.cell? ⟨w.heap.size, 1, none⟩ = some (.int .i64 parts) := A.out.cell 1
  have A2 : w3.cell? ⟨w.heap.size, 2, none⟩ = some (.slice PA pn pc) := A.out.cell 2
  have A3 : w3.cell? ⟨w.heap.size, 3, none⟩ = some (.slice SA sn sc) := A.out.cell 3
  go_wp2_with fail
  refine (l_toSaved (B := w.heap.size) H.out bel.size m1 m2).mono ?_
  rintro e w4 ⟨g1, g2, rfl, ho, hb⟩
  clear A0 A1 A2 A3
  replace A := hide (blk_below A.out hb)
  replace H := hide (H.out.below (hb.mono bel.size))
  replace bel := bel.trans (hb.mono bel.size)
  replace z1 := Nat.le_trans z1 hb.size
  clear hb
  have HO := hide ho.ok
  clear ho
  have X := hide (Blk.new w4 38 #[.string nm, .int .i64 parts, .slice (some ⟨g1, 0, none⟩) pn pn, .slice (some ⟨g2, 0, none⟩) sn sn])
  replace A := hide (A.out.alloc (.cells #[.string nm, .int .i64 parts, .slice (some ⟨g1, 0, none⟩) pn pn, .slice (some ⟨g2, 0, none⟩) sn sn] 38))
  replace H := hide (H.out.alloc bel.size (.cells #[.string nm, .int .i64 parts, .slice (some ⟨g1, 0, none⟩) pn pn, .slice (some ⟨g2, 0, none⟩) sn sn] 38))
  replace HO := hide (HO.out.alloc (Nat.le_refl _) (.cells #[.string nm, .int .i64 parts, .slice (some ⟨g1, 0, none⟩) pn pn, .slice (some ⟨g2, 0, none⟩) sn sn] 38))
  replace bel := bel.alloc bel.size (.cells #[.string nm, .int .i64 parts, .slice (some ⟨g1, 0, none⟩) pn pn, .slice (some ⟨g2, 0, none⟩) sn sn] 38)
  have z2 : w4.heap.size < (w4.alloc (.cells #[.string nm, .int .i64 parts, .slice (some ⟨g1, 0, none⟩) pn pn, .slice (some ⟨g2, 0, none⟩) sn sn] 38)).heap.size := by simp
  generalize hbx : w4.heap.size = bx at *
  go_wp2_with fail
  refine (i_StoreSaved HO.out (by omega) (L.out _ _ _ _)).mono ?_
  rintro e w5 ⟨rfl, hb⟩
  rw [show svB ⟨nm, parts, some ⟨g1, 0, none⟩, pn, pn, ps, some ⟨g2, 0, none⟩, sn, sn, xs⟩ = R from HR.out]
  dsimp only
  rw [HT.out]
  replace A := hide (blk_below A.out hb)
  replace X := hide (blk_below X.out hb)
  replace H := hide (H.out.below (hb.mono bel.size))
  replace HO := hide (HO.out.below (hb.mono (by omega)))
  replace bel := bel.trans (hb.mono bel.size)
  replace z2 := Nat.lt_of_lt_of_le z2 hb.size
  clear hb hbx
  have hne : (R != R) = false := by simp
  have hne2 : (!T.toList == T.toList) = false := by simp
  have A0 : w5.cell? ⟨w.heap.size, 0, none⟩ = some (.string nm) := A.out.cell 0
  have A1 : w5.cell? ⟨w.heap.size, 1, none⟩ = some (.int .i64 parts) := A.out.cell 1
  have A2 : w5.cell? ⟨w.heap.size, 2, none⟩ = some (.slice PA pn pc) := A.out.cell 2
  have A3 : w5.cell? ⟨w.heap.size, 3, none⟩ = some (.slice SA sn sc) := A.out.cell 3
  have X0 : w5.cell? ⟨bx, 0, none⟩ = some (.string nm) := X.out.cell 0
  have X1 : w5.cell? ⟨bx, 1, none⟩ = some (.int .i64 parts) := X.out.cell 1
  have X2 : w5.cell? ⟨bx, 2, none⟩ = some (.slice (some ⟨g1, 0, none⟩) pn pn) := X.out.cell 2
  have X3 : w5.cell? ⟨bx, 3, none⟩ = some (.slice (some ⟨g2, 0, none⟩) sn sn) := X.out.cell 3
  have z3 : w.heap.size < w5.heap.size := by omega
  have HD : SvOk w5.drew w.heap.size ⟨nm, parts, PA, pn, pc, ps, SA, sn, sc, xs⟩ := ⟨H.out.paths.drew, H.out.sig.drew, H.out.wf, H.out.wfi, H.out.wfp⟩
  have HOD : SvOk w5.drew bx ⟨nm, parts, some ⟨g1, 0, none⟩, pn, pn, ps, some ⟨g2, 0, none⟩, sn, sn, xs⟩ := ⟨HO.out.paths.drew, HO.out.sig.drew, HO.out.wf, HO.out.wfi, HO.out.wfp⟩
  have belD : Below w.heap.size w w5.drew := bel.drew
  have lz : w.heap.size ≤ w5.drew.heap.size := belD.size
  have lz2 : bx ≤ w5.drew.heap.size := Nat.le_of_lt z2
  go_wp2
  go_region_held3 (fun w' => w'.cell? ⟨w.heap.size, 0, none⟩ = some (.string nm) ∧ w'.cell? ⟨w.heap.size, 1, none⟩ = some (.int .i64 parts) ∧ w'.cell? ⟨w.heap.size, 2, none⟩ = some (.slice PA pn pc) ∧ w'.cell? ⟨w.heap.size, 3, none⟩ = some (.slice SA sn sc) ∧ w'.cell? ⟨bx, 0, none⟩ = some (.string nm) ∧ w'.cell? ⟨bx, 1, none⟩ = some (.int .i64 parts) ∧ w'.cell? ⟨bx, 2, none⟩ = some (.slice (some ⟨g1, 0, none⟩) pn pn) ∧ w'.cell? ⟨bx, 3, none⟩ = some (.slice (some ⟨g2, 0, none⟩) sn sn)) (first | assumption | go_keep)
    (first
      | (go_at_call 18; refine (l_toSaved (B := w.heap.size) HD lz m1 m2).mono ?_; rintro e wa ⟨k1, k2, rfl, hoa, hba⟩; have Ba : Below w5.heap.size w5 wa := sv_undrew hba; have Ka : wa.cell? ⟨w.heap.size, 0, none⟩ = some (.string nm) ∧ wa.cell? ⟨w.heap.size, 1, none⟩ = some (.int .i64 parts) ∧ wa.cell? ⟨w.heap.size, 2, none⟩ = some (.slice PA pn pc) ∧ wa.cell? ⟨w.heap.size, 3, none⟩ = some (.slice SA sn sc) ∧ wa.cell? ⟨bx, 0, none⟩ = some (.string nm) ∧ wa.cell? ⟨bx, 1, none⟩ = some (.int .i64 parts) ∧ wa.cell? ⟨bx, 2, none⟩ = some (.slice (some ⟨g1, 0, none⟩) pn pn) ∧ wa.cell? ⟨bx, 3, none⟩ = some (.slice (some ⟨g2, 0, none⟩) sn sn) := ⟨sv_cell A0 Ba z3, sv_cell A1 Ba z3, sv_cell A2 Ba z3, sv_cell A3 Ba z3, sv_cell X0 Ba z2, sv_cell X1 Ba z2, sv_cell X2 Ba z2, sv_cell X3 Ba z2⟩; have z3a := Nat.lt_of_lt_of_le z3 Ba.size; have z2a := Nat.lt_of_lt_of_le z2 Ba.size)
      | (go_at_call 20; refine (l_eqSaved (B := bx) (B' := wa.heap.size) (HOD.below (hba.mono lz2)) hoa.ok (Nat.le_of_lt z2a) (Nat.le_refl _) ((L.out _ _ _ _).up (by omega)) ((L.out _ _ _ _).up (by omega)) rfl).mono ?_; rintro e wb ⟨rfl, hbb⟩; have Kb : wb.cell? ⟨w.heap.size, 0, none⟩ = some (.string nm) ∧ wb.cell? ⟨w.heap.size, 1, none⟩ = some (.int .i64 parts) ∧ wb.cell? ⟨w.heap.size, 2, none⟩ = some (.slice PA pn pc) ∧ wb.cell? ⟨w.heap.size, 3, none⟩ = some (.slice SA sn sc) ∧ wb.cell? ⟨bx, 0, none⟩ = some (.string nm) ∧ wb.cell? ⟨bx, 1, none⟩ = some (.int .i64 parts) ∧ wb.cell? ⟨bx, 2, none⟩ = some (.slice (some ⟨g1, 0, none⟩) pn pn) ∧ wb.cell? ⟨bx, 3, none⟩ = some (.slice (some ⟨g2, 0, none⟩) sn sn) := ⟨sv_cell Ka.1 hbb z3a, sv_cell Ka.2.1 hbb z3a, sv_cell Ka.2.2.1 hbb z3a, sv_cell Ka.2.2.2.1 hbb z3a, sv_cell Ka.2.2.2.2.1 hbb z2a, sv_cell Ka.2.2.2.2.2.1 hbb z2a, sv_cell Ka.2.2.2.2.2.2.1 hbb z2a, sv_cell Ka.2.2.2.2.2.2.2 hbb z2a⟩))
  have belE := (bel.trans (Ba.mono bel.size)).trans (hbb.mono (Nat.le_trans bel.size Ba.size))
  clear Ka Kb hba hbb A0 A1 A2 A3 X0 X1 X2 X3
  go_wp2
  go_ret
  exact ⟨rfl, belE⟩
end Go.Proofs.Ytjfmjeffmnjilaa
