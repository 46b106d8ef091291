/-
  How likely a plan accepts: the program's walk.
-/
import Derived.Test.YtolbibpmngmpdaaChc
import Derived.Test.YtolbibpmngmpdaaMean
import Derived.Test.YtolbibpmngmpdaaChP
import Derived.Test.YtolbibpmngmpdaaSrc
namespace Go.Proofs.Ytolbibpmngmpdaa
open Go.RowKit Fl Mem
set_option linter.unusedVariables false
set_option maxRecDepth 100000

/-- A number times another one, n times. -/
def pwr (x p : Nat) : Nat → Nat
  | 0 => p
  | n + 1 => fb .mul .f32 (pwr x p n) x
def acT (sz x k : Nat) : Nat := pwr (fb .sub .f32 1065353216 x) (pwr x (floatOfInt .f32 (chI sz k)) k) (sz - k)
def acS (sz x : Nat) : Nat → Nat
  | 0 => 0
  | k + 1 => fb .add .f32 (acS sz x k) (acT sz x k)
def acV (sz ac x : Nat) : Nat := acS sz x (ac + 1)
theorem pwr_step {p x q : Nat} (h : cn .f32 p = q) (w : World) : cn .f32 (flR .mul .f32 p x w) = fb .mul .f32 q x := by rw [cn_flR, ← fb_cnl, h]
theorem pwr_step1 {p x q : Nat} (h : cn .f32 p = q) (w1 w2 : World) : cn .f32 (flR .mul .f32 p (flR .sub .f32 1065353216 x w1) w2) = fb .mul .f32 q (fb .sub .f32 1065353216 x) := by rw [cn_flR, ← fb_cn, h, cn_flR]
theorem add_stepT {a b A B : Nat} (ha : cn .f32 a = A) (hb : cn .f32 b = B) (w : World) : cn .f32 (flR .add .f32 a b w) = fb .add .f32 A B := by rw [cn_flR, ← fb_cn, ha, hb]
theorem fin_nan {x : Nat} (h : fin .f32 x = true) : isNan .f32 x = false := by
  cases hx : isNan .f32 x
  · rfl
  · rw [← fin_cn, cn_nan hx] at h; exact absurd h (by decide +kernel)
theorem fin_word {z R : Nat} (h : cn .f32 z = R) (hf : fin .f32 R = true) : z = R := by
  have : isNan .f32 z = false := by
    cases hz : isNan .f32 z
    · rfl
    · rw [cn_nan hz] at h; subst h; exact absurd hf (by decide +kernel)
  rw [cn_num this] at h; exact h
theorem cn_int (n : Int) : cn .f32 (floatOfInt .f32 n) = floatOfInt .f32 n := cn_num (isNan_nearest' _ _ _ _)
set_option maxHeartbeats 4000000 in
theorem i_ChanceAccept {sz ac x : Nat} {w : World} (hp : planOkTC sz ac = true) (hs : shB x = true) (hsz : sz ≤ 40) (hac : ac ≤ sz) (hf : fin .f32 (acV sz ac x) = true) :
    Calls Try.prog 9 #[.agg #[.int .i64 sz, .int .i64 ac], .float .f32 x] w fun e w' => e = .returned (.tuple #[.float .f32 (acV sz ac x), .bool true]) ∧ Below w.heap.size w w' := by
  have Hf := hide hf
  clear hf
  go_enter Try.func9, Try.ntmps9
  go_wp2_with fail
  refine i_ValidPlanTC.mono ?_
  rintro e w1 ⟨rfl, hb⟩
  rw [hp]
  have blk := (Blk.new w 26 #[.int .i64 sz, .int .i64 ac]).below hb (by simp)
  have bel := ((Below.refl w.heap.size w).alloc (Nat.le_refl _) (.cells #[.int .i64 sz, .int .i64 ac] 26)).trans (hb.mono (by simp))
  have hz1 := bel.size
  clear hb
  have c0 : w1.cell? ⟨w.heap.size, 0, none⟩ = some (.int .i64 sz) := blk.cell 0
  have c1 : w1.cell? ⟨w.heap.size, 1, none⟩ = some (.int .i64 ac) := blk.cell 1
  have hacI : (ac : Int) + 1 ≤ 41 := by omega
  go_wp2_with (go_at_call 55; refine i_isShare.mono ?_; rintro e w' ⟨rfl, rfl⟩; rw [hs])
  go_loopw [6, 7, 8, 20, 29, 39] (fun v6 _ _ v20 _ _ wr => ∃ k m s : Nat, k ≤ ac + 1 ∧ v20 = .int .i64 (k : Int) ∧ v6 = .float .f32 s ∧ Hid (cn .f32 s = acS sz x k) ∧ wr = w1.drewN m) (fun _ _ _ v20 _ _ _ => ac + 1 - (intOf v20).toNat)
  case atStart => exact ⟨0, 0, 0, Nat.zero_le _, rfl, rfl, hide (by rw [acS]; decide +kernel), rfl⟩
  case round =>
    obtain ⟨k, m, s, hk, rfl, rfl, hs', rfl⟩ := hrel
    have d0 : (w1.drewN m).cell? ⟨w.heap.size, 0, none⟩ = some (.int .i64 sz) := (blk.drewN m).cell 0
    have d1 : (w1.drewN m).cell? ⟨w.heap.size, 1, none⟩ = some (.int .i64 ac) := (blk.drewN m).cell 1
    by_cases hlt : k < ac + 1
    · have kI : (k : Int) < (ac : Int) + 1 := by omega
      go_wp2_with fail
      refine (i_chooseC (by omega)).mono ?_
      rintro e w' ⟨rfl, hw⟩
      subst hw
      obtain ⟨P0, hP0⟩ : ∃ P0, floatOfInt .f32 (chI sz k) = P0 := ⟨_, rfl⟩
      have hP : cn .f32 P0 = P0 := by rw [← hP0]; exact cn_int _
      have HP := hide hP
      have HP0 := hide hP0
      have wk : wrap64 ((sz : Int) - (k : Int)) = ((sz - k : Nat) : Int) := by unfold wrap64; omega
      clear hP
      go_wp2
      clear hP0
      go_loopw [8, 29] (fun v8 v29 wr => ∃ j m' p : Nat, j ≤ k ∧ v29 = .int .i64 (j : Int) ∧ v8 = .float .f32 p ∧ Hid (cn .f32 p = pwr x P0 j) ∧ wr = w1.drewN m') (fun _ v29 _ => k - (intOf v29).toNat)
      case atStart => exact ⟨0, m, P0, Nat.zero_le _, rfl, by first | rfl | (rw [HP0.out]), hide HP.out, rfl⟩
      case round =>
        obtain ⟨j, m', p, hj, rfl, rfl, hp', rfl⟩ := hrel
        by_cases hjk : j < k
        · have jI : (j : Int) < (k : Int) := by omega
          go_wp2
          go_roundw
          case rel => exact ⟨j + 1, _, _, by omega, by go_num, rfl, hide (pwr_step hp'.out _), rfl⟩
          case measure => simp [intOf]; omega
        · obtain rfl : j = k := by omega
          have jI : ¬ (j : Int) < (j : Int) := by omega
          have Hp := hide hp'.out
          have e0 : (w1.drewN m').cell? ⟨w.heap.size, 0, none⟩ = some (.int .i64 sz) := (blk.drewN m').cell 0
          clear hp' d0 d1
          go_wp2
          go_loopw [8, 39] (fun v8 v39 wr => ∃ i m2 q : Nat, i ≤ sz - j ∧ v39 = .int .i64 (i : Int) ∧ v8 = .float .f32 q ∧ Hid (cn .f32 q = pwr (fb .sub .f32 1065353216 x) (pwr x P0 j) i) ∧ wr = w1.drewN m2) (fun _ v39 _ => sz - j - (intOf v39).toNat)
          case atStart => exact ⟨0, m', p, Nat.zero_le _, rfl, rfl, hide Hp.out, rfl⟩
          case round =>
            obtain ⟨i, m2, q, hi, rfl, rfl, hq, rfl⟩ := hrel
            by_cases hik : i < sz - j
            · have iI : (i : Int) < ((sz - j : Nat) : Int) := by omega
              go_wp2
              go_roundw
              case rel => exact ⟨i + 1, _, _, by omega, by go_num, rfl, hide (pwr_step1 hq.out _ _), rfl⟩
              case measure => simp [intOf]; omega
            · obtain rfl : i = sz - j := by omega
              have iI : ¬ ((sz - j : Nat) : Int) < ((sz - j : Nat) : Int) := by omega
              have HT : Hid (cn .f32 q = acT sz x j) := hide (by unfold acT; rw [HP0.out]; exact hq.out)
              clear hq
              go_wp2
              go_roundw
              case rel => exact ⟨j + 1, _, _, by omega, by go_num, rfl, hide (add_stepT hs'.out HT.out _), rfl⟩
              case measure => simp [intOf]; omega
    · obtain rfl : k = ac + 1 := by omega
      have kI : ¬ ((ac + 1 : Nat) : Int) < (ac : Int) + 1 := by omega
      have hs2 : s = acV sz ac x := fin_word hs'.out Hf.out
      have HF : Hid (fin .f32 s = true) := hide (by rw [hs2]; exact Hf.out)
      have HS := hide hs2
      clear hs2 d0 d1
      go_wp2_with (go_at_call 57; refine i_ifFinite.mono ?_; rintro e w' ⟨rfl, m3, rfl⟩; rw [HF.out])
      go_ret2
      exact ⟨by rw [HS.out]; rfl, below_drewN bel _⟩
/-- The share that goes out. -/
def outV (lot sz ac x : Nat) : Nat := fb .mul .f32 (fb .mul .f32 x (acV sz ac x)) (fb .sub .f32 1065353216 (fb .quo .f32 (floatOfInt .f32 sz) (floatOfInt .f32 lot)))
theorem out_told {a x c s l : Nat} (w1 w2 w3 w4 : World) : cn .f32 (flR .mul .f32 (flR .mul .f32 x c w1) (flR .sub .f32 a (flR .quo .f32 s l w2) w3) w4) = fb .mul .f32 (fb .mul .f32 x c) (fb .sub .f32 a (fb .quo .f32 s l)) := by
  rw [cn_flR, ← fb_cn, cn_flR, cn_flR, ← fb_cnr .sub, cn_flR]
set_option maxHeartbeats 2000000 in
theorem i_OutgoingOf {lot sz ac x : Nat} {w : World} (hl : lotOkC lot sz ac = true) (hs : shB x = true) (hf : fin .f32 (acV sz ac x) = true) (hf2 : fin .f32 (outV lot sz ac x) = true) :
    Calls Try.prog 10 #[.int .i64 lot, .agg #[.int .i64 sz, .int .i64 ac], .float .f32 x] w fun e w' => e = .returned (.tuple #[.float .f32 (outV lot sz ac x), .bool true]) ∧ Below w.heap.size w w' := by
  have Hf2 := hide hf2
  obtain ⟨r1, r2, r3, r4, r5, r6⟩ := lotOk_rngC hl
  have hp : planOkTC sz ac = true := by unfold planOkTC inB; simp; omega
  clear hf2
  go_enter Try.func10, Try.ntmps10
  go_wp2_with fail
  refine (i_ChanceAccept hp hs (by omega) (by omega) hf).mono ?_
  rintro e w1 ⟨rfl, hb⟩
  have blk := (Blk.new w 26 #[.int .i64 sz, .int .i64 ac]).below hb (by simp)
  have bel := ((Below.refl w.heap.size w).alloc (Nat.le_refl _) (.cells #[.int .i64 sz, .int .i64 ac] 26)).trans (hb.mono (by simp))
  have hz1 := bel.size
  have c0 : w1.cell? ⟨w.heap.size, 0, none⟩ = some (.int .i64 sz) := blk.cell 0
  have c1 : w1.cell? ⟨w.heap.size, 1, none⟩ = some (.int .i64 ac) := blk.cell 1
  clear hb
  go_wp2_with fail
  refine (i_isLotC hl).mono ?_
  rintro e w2 ⟨rfl, hb2⟩
  have blk2 := blk.below hb2 blk.lt
  have bel2 := bel.trans (hb2.mono hz1)
  have d0 : w2.cell? ⟨w.heap.size, 0, none⟩ = some (.int .i64 sz) := blk2.cell 0
  have lz : ((lot : Int) == 0) = false := by rw [beq_eq_false_iff_ne]; omega
  clear hb2 c0 c1 blk
  go_wp2_with fail
  refine i_ifFinite.mono ?_
  rintro e w' ⟨rfl, m3, rfl⟩
  generalize hz : flR .mul .f32 _ _ _ = z
  have hzz : z = outV lot sz ac x := fin_word (by rw [← hz]; exact out_told _ _ _ _) Hf2.out
  rw [hzz, Hf2.out]
  clear hz hzz
  go_wp2
  go_ret2
  exact ⟨rfl, below_drewN bel2 _⟩
/-- A share of sixteenths, and the worst one of the first k. -/
def sixT (k : Nat) : Nat := fb .quo .f32 (floatOfInt .f32 (k : Int)) (floatOfInt .f32 16)
def wsT (lot sz ac : Nat) : Nat → Nat × Nat
  | 0 => (0, 0)
  | k + 1 => if k = 0 ∨ (FloatKind.f32.format.order (outV lot sz ac (sixT k)) (wsT lot sz ac k).2 == some .gt) = true then (sixT k, outV lot sz ac (sixT k)) else wsT lot sz ac k
theorem wsT_yes {lot sz ac k : Nat} (h : k = 0 ∨ (FloatKind.f32.format.order (outV lot sz ac (sixT k)) (wsT lot sz ac k).2 == some .gt) = true) : wsT lot sz ac (k + 1) = (sixT k, outV lot sz ac (sixT k)) := if_pos h
theorem wsT_no {lot sz ac k : Nat} (h0 : k ≠ 0) (h : (FloatKind.f32.format.order (outV lot sz ac (sixT k)) (wsT lot sz ac k).2 == some .gt) = false) : wsT lot sz ac (k + 1) = wsT lot sz ac k := if_neg (fun e => by
  rcases e with e | e
  · exact h0 e
  · rw [h] at e; cases e)
set_option maxHeartbeats 4000000 in
theorem i_WorstOutgoing {lot sz ac : Nat} {w : World} (hl : lotOkC lot sz ac = true) (hk : ∀ k, k < 17 → shB (sixT k) = true ∧ fin .f32 (sixT k) = true ∧ fin .f32 (acV sz ac (sixT k)) = true ∧ fin .f32 (outV lot sz ac (sixT k)) = true) :
    Calls Try.prog 11 #[.int .i64 lot, .agg #[.int .i64 sz, .int .i64 ac], .int .i64 16] w fun e w' => e = .returned (.tuple #[.float .f32 (wsT lot sz ac 17).1, .float .f32 (wsT lot sz ac 17).2, .bool true]) ∧ Below w.heap.size w w' := by
  have Hk := hide hk
  have h16 : inB 16 1 256 = true := by decide
  clear hk
  go_enter Try.func11, Try.ntmps11
  go_wp2_with fail
  refine (i_isLotC hl).mono ?_
  rintro e w1 ⟨rfl, hb⟩
  have blk := (Blk.new w 26 #[.int .i64 sz, .int .i64 ac]).below hb (by simp)
  have bel := ((Below.refl w.heap.size w).alloc (Nat.le_refl _) (.cells #[.int .i64 sz, .int .i64 ac] 26)).trans (hb.mono (by simp))
  have hz1 := bel.size
  clear hb
  go_wp2_with (go_at_call 59; refine (i_within _ _ _ _).mono ?_; rintro e w' ⟨rfl, rfl⟩; rw [h16])
  go_loopw [9, 10, 11, 12, 13, 14, 26, 34] (fun v9 v10 _ _ _ _ v26 _ wr => ∃ k : Nat, k ≤ 17 ∧ v26 = .int .i64 (k : Int) ∧ v9 = .float .f32 (wsT lot sz ac k).1 ∧ v10 = .float .f32 (wsT lot sz ac k).2 ∧ Blk wr w.heap.size 26 #[.int .i64 sz, .int .i64 ac] ∧ Below w.heap.size w wr) (fun _ _ _ _ _ _ v26 _ _ => 17 - (intOf v26).toNat)
  case atStart => exact ⟨0, by omega, rfl, rfl, rfl, blk, bel⟩
  case round =>
    clear blk bel
    obtain ⟨k, hk17, rfl, rfl, rfl, blk, bel⟩ := hrel
    have hz := bel.size
    by_cases hlt : k < 17
    · have kI : (k : Int) < 17 := by omega
      obtain ⟨q1, q2, q3, q4⟩ := Hk.out k hlt
      obtain ⟨S, hS⟩ : ∃ S, sixT k = S := ⟨_, rfl⟩
      have hq : ∀ W, flR .quo .f32 (floatOfInt .f32 (k : Int)) (floatOfInt .f32 16) W = S := fun W => by rw [← hS]; exact flR_num (fin_nan q2) W
      have hq0 : flN .quo .f32 (floatOfInt .f32 (k : Int)) (floatOfInt .f32 16) = 0 := flN_num (fin_nan q2)
      have c0 : wr.cell? ⟨w.heap.size, 0, none⟩ = some (.int .i64 sz) := blk.cell 0
      have c1 : wr.cell? ⟨w.heap.size, 1, none⟩ = some (.int .i64 ac) := blk.cell 1
      rw [hS] at q1 q3 q4
      have HS := hide hS
      clear hS q2
      go_wp2_with fail
      refine (i_OutgoingOf hl q1 q3 q4).mono ?_
      rintro e w2 ⟨rfl, hb2⟩
      have blk2 := blk.below hb2 blk.lt
      have bel2 := bel.trans (hb2.mono hz)
      obtain ⟨X, hX⟩ : ∃ X, outV lot sz ac S = X := ⟨_, rfl⟩
      have HX := hide (show outV lot sz ac (sixT k) = X by rw [HS.out, hX])
      rw [hX]
      clear hb2 hX c0 c1 blk bel q4 hq hq0
      by_cases hk0 : k = 0
      · have k0 : ((k : Int) == 0) = true := by rw [hk0]; rfl
        have HW := hide (wsT_yes (lot := lot) (sz := sz) (ac := ac) (k := k) (.inl hk0))
        rw [HX.out, HS.out] at HW
        go_wp2
        go_roundw
        case rel => exact ⟨k + 1, by omega, by go_num, by rw [HW.out], by rw [HW.out], blk2, bel2⟩
        case measure => simp [intOf]; omega
      · have k0 : ((k : Int) == 0) = false := by rw [beq_eq_false_iff_ne]; omega
        obtain ⟨Mo, hMo⟩ : ∃ M, (wsT lot sz ac k).2 = M := ⟨_, rfl⟩
        rw [hMo]
        cases hg : (FloatKind.f32.format.order X Mo == some .gt) with
        | true =>
          have HW := hide (wsT_yes (lot := lot) (sz := sz) (ac := ac) (k := k) (.inr (by rw [HX.out, hMo]; exact hg)))
          rw [HX.out, HS.out] at HW
          clear hMo
          go_wp2
          go_roundw
          case rel => exact ⟨k + 1, by omega, by go_num, by rw [HW.out], by rw [HW.out], blk2, bel2⟩
          case measure => simp [intOf]; omega
        | false =>
          have HW := hide (wsT_no (lot := lot) (sz := sz) (ac := ac) hk0 (by rw [HX.out, hMo]; exact hg))
          have HM := hide hMo
          clear hMo
          go_wp2
          go_roundw
          case rel => exact ⟨k + 1, by omega, by go_num, by rw [HW.out], by rw [HW.out, HM.out], blk2, bel2⟩
          case measure => simp [intOf]; omega
    · obtain rfl : k = 17 := by omega
      have kI : ¬ ((17 : Nat) : Int) < 17 := by omega
      go_wp2
      go_ret3
      exact ⟨rfl, bel⟩
end Go.Proofs.Ytolbibpmngmpdaa
