/-
  ReadPlan: the reference's side, and the law.
-/
import Derived.Test.YthflejkkcnglgaaDoorReadP
import Derived.Test.YthflejkkcnglgaaDoorRecS
import Derived.Test.YthflejkkcnglgaaDoorKit
namespace Go.Proofs.YthflejkkcnglgaaDoor
open Go.RowKit Mem Go.Shelf
set_option linter.unusedVariables false
set_option maxRecDepth 100000

theorem s_l06IsP {g : Nat} {sz ac : Int} {w : World} (h1 : w.cell? ⟨g, 0, none⟩ = some (.int .i64 sz)) (h2 : w.cell? ⟨g, 1, none⟩ = some (.int .i64 ac)) :
    Calls Tryd.prog 28 #[.pointer (some ⟨g, 0, none⟩)] w fun e w' => e = .returned (.bool (planOkT sz ac)) ∧ Below w.heap.size w w' := s_l06IsT h1 h2
set_option maxHeartbeats 4000000 in
theorem s_l06Read {t : ByteArray} {w : World} (hs : t.size ≤ 1048576) :
    Calls Tryd.prog 16 #[.string t] w fun e w' => e = .returned (planRes (planV t)) ∧ Below w.heap.size w w' := by
  by_cases hl : (splitS t 47).length = 2
  · obtain ⟨A, B, hAB⟩ : ∃ A B, splitS t 47 = [A, B] := by
      cases h : splitS t 47 with
      | nil => rw [h] at hl; simp at hl
      | cons A r =>
        cases r with
        | nil => rw [h] at hl; simp at hl
        | cons B r2 =>
          cases r2 with
          | nil => exact ⟨A, B, rfl⟩
          | cons C r3 => rw [h] at hl; simp at hl
    have hA := splitS_mem 47 _ t (Nat.le_refl _) A (by rw [hAB]; simp)
    have hB := splitS_mem 47 _ t (Nat.le_refl _) B (by rw [hAB]; simp)
    clear hl
    go_enter Tryd.func16, Tryd.ntmps16
    go_wp2_with fail
    refine (s_l01Cut (m := 47) hs).mono ?_
    rintro e w1 ⟨v, rfl, hown, hb⟩
    rw [cutAll_split, hAB] at hown
    obtain ⟨g, cap, rfl, hg, hgl, hcap, hcell⟩ := row_of_own (by simp) hown
    have cA : w1.cell? ⟨g, 0, none⟩ = some (.string A) := hcell 0 _ rfl
    have cB : w1.cell? ⟨g, 1, none⟩ = some (.string B) := hcell 1 _ rfl
    have blk1 := (Blk.new w 29 #[.int .i64 0, .int .i64 0]).below hb (by simp)
    have bel1 : Below w.heap.size w w1 := ((Below.refl _ _).alloc (Nat.le_refl _) _).trans (hb.mono (by simp))
    have HA := hide hAB
    clear hown hcell hb hAB
    cases hva : valV A with
    | none =>
      have HR := hide (planV_no1 HA.out hva)
      go_wp2_with fail
      refine (s_l01Value (s := A) (by omega)).mono ?_
      rintro e w2 ⟨rfl, hb2⟩
      have blk2 := blk1.below hb2 blk1.lt
      have bel2 := bel1.trans (hb2.mono bel1.size)
      have kB := (hb2.cell (p := ⟨g, 1, none⟩) hgl).trans cB
      clear hb2 blk1 bel1 cA cB
      rw [rdV_none hva]
      go_wp2_with fail
      refine (s_l01Value (s := B) (by omega)).mono ?_
      rintro e w3 ⟨rfl, hb3⟩
      have blk3 := blk2.below hb3 blk2.lt
      have bel3 := bel2.trans (hb3.mono bel2.size)
      have hlt3 := blk3.lt
      have q0 := blk3.cell 0
      have q1 := blk3.cell 1
      have f0 := blk3.frozen 0
      have f1 := blk3.frozen 1
      rw [show rdV B = .tuple #[.int .i64 ((valV B).getD 0), .bool (valV B).isSome] from rfl]
      clear hb3 blk2 bel2 kB
      generalize (valV B).getD 0 = b
      generalize (valV B).isSome = ob
      go_wp2
      refine bodyPost_ret (results_row_tmp (P := Tryd.prog) rfl _ _ w.heap.size 29 #[.int .i64 0, .int .i64 0] (0, 0) _ rfl (((blk3.set_ 0 _).set_ 1 _).alloc _) Tryd.underlying29 rfl (by kernel_rfl)) rfl ?_
      exact ⟨by rw [HR.out]; rfl, ((bel3.setCell (Nat.le_refl _) _).setCell (Nat.le_refl _) _).alloc (by simpa using bel3.size) _⟩
    | some a =>
      cases hvb : valV B with
      | none =>
        have HR := hide (planV_no2 HA.out hvb)
        go_wp2_with fail
        refine (s_l01Value (s := A) (by omega)).mono ?_
        rintro e w2 ⟨rfl, hb2⟩
        have blk2 := blk1.below hb2 blk1.lt
        have bel2 := bel1.trans (hb2.mono bel1.size)
        have kB := (hb2.cell (p := ⟨g, 1, none⟩) hgl).trans cB
        clear hb2 blk1 bel1 cA cB
        rw [rdV_some hva]
        go_wp2_with fail
        refine (s_l01Value (s := B) (by omega)).mono ?_
        rintro e w3 ⟨rfl, hb3⟩
        have blk3 := blk2.below hb3 blk2.lt
        have bel3 := bel2.trans (hb3.mono bel2.size)
        have hlt3 := blk3.lt
        have q0 := blk3.cell 0
        have q1 := blk3.cell 1
        have f0 := blk3.frozen 0
        have f1 := blk3.frozen 1
        rw [rdV_none hvb]
        clear hb3 blk2 bel2 kB
        go_wp2
        refine bodyPost_ret (results_row_tmp (P := Tryd.prog) rfl _ _ w.heap.size 29 #[.int .i64 0, .int .i64 0] (0, 0) _ rfl (((blk3.set_ 0 _).set_ 1 _).alloc _) Tryd.underlying29 rfl (by kernel_rfl)) rfl ?_
        exact ⟨by rw [HR.out]; rfl, ((bel3.setCell (Nat.le_refl _) _).setCell (Nat.le_refl _) _).alloc (by simpa using bel3.size) _⟩
      | some b =>
        have HR := hide (planV_two HA.out hva hvb)
        go_wp2_with fail
        refine (s_l01Value (s := A) (by omega)).mono ?_
        rintro e w2 ⟨rfl, hb2⟩
        have blk2 := blk1.below hb2 blk1.lt
        have bel2 := bel1.trans (hb2.mono bel1.size)
        have kB := (hb2.cell (p := ⟨g, 1, none⟩) hgl).trans cB
        clear hb2 blk1 bel1 cA cB
        rw [rdV_some hva]
        go_wp2_with fail
        refine (s_l01Value (s := B) (by omega)).mono ?_
        rintro e w3 ⟨rfl, hb3⟩
        have blk3 := blk2.below hb3 blk2.lt
        have bel3 := bel2.trans (hb3.mono bel2.size)
        have hlt3 := blk3.lt
        have q0 := blk3.cell 0
        have q1 := blk3.cell 1
        have f0 := blk3.frozen 0
        have f1 := blk3.frozen 1
        rw [rdV_some hvb]
        clear hb3 blk2 bel2 kB
        cases hok : planOkT a b with
        | false =>
          rw [hok, if_neg (by decide)] at HR
          go_wp2_with fail
          refine (s_l06IsP (sz := a) (ac := b) (by simp) (by simp)).mono ?_
          rintro e w4 ⟨rfl, hb4⟩
          rw [hok]
          have bel4 := (bel3.alloc (Nat.le_of_lt hlt3) (.cells #[.int .i64 a, .int .i64 b] 29)).trans (hb4.mono (by simp; omega))
          have blk4 := (blk3.alloc (.cells #[.int .i64 a, .int .i64 b] 29)).below hb4 (by simp; omega)
          have r0 := blk4.cell 0
          have r1 := blk4.cell 1
          have r2 := blk4.frozen 0
          have r3 := blk4.frozen 1
          clear hb4 blk3 bel3 q0 q1 f0 f1
          go_wp2
          refine bodyPost_ret (results_row_tmp (P := Tryd.prog) rfl _ _ w.heap.size 29 #[.int .i64 0, .int .i64 0] (0, 0) _ rfl ((blk4.set_ 0 _).set_ 1 _) Tryd.underlying29 rfl (by kernel_rfl)) rfl ?_
          exact ⟨by rw [HR.out]; rfl, (bel4.setCell (Nat.le_refl _) _).setCell (Nat.le_refl _) _⟩
        | true =>
          rw [hok, if_pos rfl] at HR
          go_wp2_with fail
          refine (s_l06IsP (sz := a) (ac := b) (by simp) (by simp)).mono ?_
          rintro e w4 ⟨rfl, hb4⟩
          rw [hok]
          have bel4 := (bel3.alloc (Nat.le_of_lt hlt3) (.cells #[.int .i64 a, .int .i64 b] 29)).trans (hb4.mono (by simp; omega))
          have blk4 := (blk3.alloc (.cells #[.int .i64 a, .int .i64 b] 29)).below hb4 (by simp; omega)
          have blp4 := (Blk.new w3 29 #[.int .i64 a, .int .i64 b]).below hb4 (by simp)
          have r0 := blk4.cell 0
          have r1 := blk4.cell 1
          have r2 := blk4.frozen 0
          have r3 := blk4.frozen 1
          have p0 := blp4.cell 0
          have p1 := blp4.cell 1
          clear hb4 blk3 bel3 q0 q1 f0 f1
          go_wp2
          refine bodyPost_ret (results_row_tmp (P := Tryd.prog) rfl _ _ w.heap.size 29 #[.int .i64 a, .int .i64 b] (0, 0) _ rfl ((blk4.set_ 0 _).set_ 1 _) Tryd.underlying29 rfl (by kernel_rfl)) rfl ?_
          exact ⟨by rw [HR.out]; rfl, (bel4.setCell (Nat.le_refl _) _).setCell (Nat.le_refl _) _⟩
  · have HR := hide (planV_len hl)
    have hlI : ¬ ((splitS t 47).length : Int) = 2 := by omega
    have hle := splitS_le t 47
    go_enter Tryd.func16, Tryd.ntmps16
    go_wp2_with fail
    refine (s_l01Cut (m := 47) hs).mono ?_
    rintro e w1 ⟨v, rfl, hown, hb⟩
    rw [cutAll_split] at hown
    obtain ⟨A, c, rfl⟩ := own_shape hown
    have blk1 := (Blk.new w 29 #[.int .i64 0, .int .i64 0]).below hb (by simp)
    have bel1 : Below w.heap.size w w1 := ((Below.refl _ _).alloc (Nat.le_refl _) _).trans (hb.mono (by simp))
    have q0 := blk1.cell 0
    have q1 := blk1.cell 1
    have f0 := blk1.frozen 0
    have f1 := blk1.frozen 1
    clear hown hb hl
    go_wp2
    refine bodyPost_ret (results_row_tmp (P := Tryd.prog) rfl _ _ w.heap.size 29 #[.int .i64 0, .int .i64 0] (0, 0) _ rfl ((blk1.set_ 0 _).set_ 1 _) Tryd.underlying29 rfl (by kernel_rfl)) rfl ?_
    exact ⟨by rw [HR.out]; rfl, (bel1.setCell (Nat.le_refl _) _).setCell (Nat.le_refl _) _⟩
set_option maxHeartbeats 1000000 in
theorem s_ReadPlan {t : ByteArray} {w : World} (hs : t.size ≤ 1048576) :
    Calls Tryd.prog 10 #[.string t] w fun e w' => e = .returned (planRes (planV t)) ∧ Below w.heap.size w w' := by
  obtain ⟨a, b, o, ho⟩ : ∃ (a b : Int) (o : Bool), planRes (planV t) = .tuple #[.agg #[.int .i64 a, .int .i64 b], .bool o] := ⟨_, _, _, rfl⟩
  have Ho := hide ho
  go_enter Tryd.func10, Tryd.ntmps10
  go_wp2_with fail
  refine (s_l06Read hs).mono ?_
  rintro e w1 ⟨rfl, hb⟩
  rw [ho]
  have blk1 := (Blk.new w 29 #[.int .i64 0, .int .i64 0]).below hb (by simp)
  have bel1 : Below w.heap.size w w1 := ((Below.refl _ _).alloc (Nat.le_refl _) _).trans (hb.mono (by simp))
  have q0 := blk1.cell 0
  have q1 := blk1.cell 1
  have f0 := blk1.frozen 0
  have f1 := blk1.frozen 1
  clear hb ho
  go_wp2
  refine bodyPost_ret (results_row_tmp (P := Tryd.prog) rfl _ _ w.heap.size 29 #[.int .i64 a, .int .i64 b] (0, 0) _ rfl ((blk1.set_ 0 _).set_ 1 _) Tryd.underlying29 rfl (by kernel_rfl)) rfl ?_
  exact ⟨by rw [Ho.out]; rfl, (bel1.setCell (Nat.le_refl _) _).setCell (Nat.le_refl _) _⟩
set_option maxHeartbeats 1000000 in
theorem l_eqPlan {a b : Int} {w : World} : Calls Tryd.prog 12 #[.agg #[.int .i64 a, .int .i64 b], .agg #[.int .i64 a, .int .i64 b]] w fun e w' => e = .returned (.bool true) ∧ Below w.heap.size w w' := by
  have h1 : (a != a) = false := by simp
  have h2 : (b != b) = false := by simp
  go_enter Tryd.func12, Tryd.ntmps12
  go_wp2
  repeat (go_quiet (fail); go_wp2)
  go_ret
  exact ⟨rfl, (by repeat (first | exact Below.refl _ _ | exact below_drewN (by assumption) _ | refine below_drewN ?_ _ | refine Below.alloc ?_ (by first | (simp; done) | (simp; omega)) _ | assumption))⟩
set_option maxHeartbeats 1000000 in
theorem law_ReadPlan {t : ByteArray} {bm : Int} {w : World}
    (hm : w.cell? ⟨renCutF.g 1, 0, none⟩ = some (.int .i64 bm)) (he : Errs w) (htab : Lib.TabIs Tryd.prog w "internal/strconv.uint64pow10" .u64 Lib.pow10Tab) :
    Calls Tryd.prog 4 #[.string t] w fun e w' => e = .returned (.bool true) ∧ Below w.heap.size w w' := by
  by_cases hs : t.size ≤ 1048576
  · have hsI : ¬ (1048576 : Int) < (t.size : Int) := by omega
    have hlt := Go.Clock.block_lt hm
    obtain ⟨a, b, o, ho⟩ : ∃ (a b : Int) (o : Bool), planRes (planV t) = .tuple #[.agg #[.int .i64 a, .int .i64 b], .bool o] := ⟨_, _, _, rfl⟩
    have Ho := hide ho
    go_enter Tryd.func4, Tryd.ntmps4
    go_wp2_with fail
    refine (s_ReadPlan hs).mono ?_
    rintro e w1 ⟨rfl, bel⟩
    rw [ho]
    clear ho
    have blkW := Blk.new w1 29 #[.int .i64 a, .int .i64 b]
    replace bel := bel.alloc bel.size (.cells #[.int .i64 a, .int .i64 b] 29)
    go_wp2_with fail
    refine (i_ReadPlan hs ((bel.cell (p := ⟨renCutF.g 1, 0, none⟩) hlt).trans hm) (he.below bel) (pow_kept htab bel)).mono ?_
    rintro e w2 ⟨rfl, hb⟩
    rw [Ho.out]
    replace bel := bel.trans (hb.mono bel.size)
    replace blkW := blkW.below hb blkW.lt
    have k0 := blkW.cell 0
    have k1 := blkW.cell 1
    have hltW := blkW.lt
    clear hb blkW
    go_wp2_with fail
    refine l_eqPlan.mono ?_
    rintro e w3 ⟨rfl, hb⟩
    go_wp2
    go_ret
    exact ⟨rfl, (bel.alloc bel.size _).trans (hb.mono (by simp; have := bel.size; omega))⟩
  · have hsI : (1048576 : Int) < (t.size : Int) := by omega
    go_enter Tryd.func4, Tryd.ntmps4
    go_wp2
    go_ret
    exact ⟨rfl, Below.refl _ _⟩
end Go.Proofs.YthflejkkcnglgaaDoor
