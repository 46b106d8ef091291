/-
  A sequence test: the reference's walk.
-/
import Derived.Test.YthfdgffgihjglaaSeqI
namespace Go.Proofs.Ythfdgffgihjglaa
open Go.RowKit Mem Fl
set_option linter.unusedVariables false
set_option maxRecDepth 100000

set_option maxHeartbeats 2000000 in
theorem s_l06Test {lo hi a b : Nat} {w : World} (wl : Wf .f32 lo) (wh : Wf .f32 hi) (wa : Wf .f32 a) (wb : Wf .f32 b) :
    Calls Try.prog 51 #[.float .f32 lo, .float .f32 hi, .float .f32 a, .float .f32 b] w fun e w' => e = .returned (.bool (seqOk lo hi a b)) ∧ ∃ m, w' = w.drewN m := by
  have hp : Hid (seqOk lo hi a b = (barsOk a b && (((FloatKind.f32.format.order lo 0 == some .gt) && (FloatKind.f32.format.order lo hi == some .lt)) && (FloatKind.f32.format.order hi 1065353216 == some .lt)))) := hide (by unfold seqOk; rw [← seqIn_eq wl wh]; rfl)
  have HB : ∀ W, _ := fun W => s_SequenceBars (w := W) wa wb
  replace HB := hide HB
  clear wl wh wa wb
  cases h1 : (FloatKind.f32.format.order lo 0 == some .gt) <;> cases h2 : (FloatKind.f32.format.order lo hi == some .lt) <;> cases h3 : (FloatKind.f32.format.order hi 1065353216 == some .lt)
  case true.true.true =>
    have HN : Hid (seqOk lo hi a b = barsOk a b) := hide (by rw [hp.out, h1, h2, h3]; simp)
    go_enter Try.func51, Try.ntmps51
    go_wp2_with fail
    refine (HB.out _).mono ?_
    rintro e w1 ⟨⟨x, y, rfl, _, _⟩, m, rfl⟩
    go_wp2
    go_ret
    exact ⟨ret_bool HN.out.symm, _, rfl⟩
  all_goals
    have HN : Hid (seqOk lo hi a b = false) := hide (by rw [hp.out, h1, h2, h3]; simp)
    go_enter Try.func51, Try.ntmps51
    go_wp2
    go_ret
    exact ⟨ret_bool HN.out.symm, 0, rfl⟩
theorem end_lo {A B s : Nat} (h : (FloatKind.f32.format.order s A == some .lt || FloatKind.f32.format.order s A == some .eq) = true) : seqEnd A B s = -1 := by unfold seqEnd; rw [h, if_pos rfl]
theorem end_hi {A B s : Nat} (h : (FloatKind.f32.format.order s A == some .lt || FloatKind.f32.format.order s A == some .eq) = false) (h2 : (FloatKind.f32.format.order s B == some .gt || FloatKind.f32.format.order s B == some .eq) = true) : seqEnd A B s = 1 := by unfold seqEnd; rw [h, h2, if_neg (by simp), if_pos rfl]
theorem end_no {A B s : Nat} (h : (FloatKind.f32.format.order s A == some .lt || FloatKind.f32.format.order s A == some .eq) = false) (h2 : (FloatKind.f32.format.order s B == some .gt || FloatKind.f32.format.order s B == some .eq) = false) : seqEnd A B s = 0 := by unfold seqEnd; rw [h, h2, if_neg (by simp), if_neg (by simp)]
set_option maxHeartbeats 4000000 in
theorem s_SequenceTest {A : Option Addr} {n c : Nat} {xs : List Bool} {lo hi a b : Nat} {w : World} (h : Reads w w.heap.size 1 A n (bl xs)) (hn : n ≤ 1048576) (wl : Wf .f32 lo) (wh : Wf .f32 hi) (wa : Wf .f32 a) (wb : Wf .f32 b) :
    Calls Try.prog 11 #[.slice A n c, .float .f32 lo, .float .f32 hi, .float .f32 a, .float .f32 b] w fun e w' => e = .returned (.tuple #[.int .i64 (tR xs lo hi a b).1, .int .i64 (tR xs lo hi a b).2, .bool (tOk xs lo hi a b)]) ∧ ∃ m, w' = w.drewN m := by
  have Hl := hide h.map_len
  have hT : Hid (tOk xs lo hi a b = (seqOk lo hi a b && decide (xs.length ≤ 256))) := hide rfl
  have HB : ∀ W, _ := fun W => s_l06Test (w := W) wl wh wa wb
  replace HB := hide HB
  have HF : Hid (seqIn lo hi = true → _) := hide (fun h => seq_facts wl wh h)
  have HBa : Hid (barsIn a b = true → ∀ W, _) := hide (fun h W => s_l06Bars (w := W) wa wb h)
  clear wl wh wa wb
  go_enter Try.func11, Try.ntmps11
  go_wp2_with fail
  refine (HB.out _).mono ?_
  rintro e w1 ⟨rfl, m1, rfl⟩
  clear HB
  cases h1 : seqOk lo hi a b with
  | false =>
    have HN : Hid (tOk xs lo hi a b = false) := hide (by rw [hT.out, h1]; rfl)
    go_wp2
    go_ret3
    exact ⟨ret_test (by rw [tR_no HN.out]) HN.out.symm, _, rfl⟩
  | true =>
    by_cases hm : n ≤ 256
    · have hmI : ¬ (256 : Int) < (n : Int) := by omega
      have HN : Hid (tOk xs lo hi a b = true) := hide (by rw [hT.out, h1, Hl.out, decide_eq_true hm]; rfl)
      have HR := hide (tR_yes HN.out)
      have h2 := h1
      unfold seqOk barsOk at h2
      rw [Bool.and_eq_true, Bool.and_eq_true] at h2
      obtain ⟨q1, e1, e2, q2, Q1, k1, k2, D1, D2, Q2, k3, k4, L1, L2⟩ := HF.out h2.2
      have HBb := hide (HBa.out h2.1.1)
      replace Q1 := hide Q1
      replace D1 := hide D1
      replace D2 := hide D2
      replace Q2 := hide Q2
      have hL := hide (And.intro L1 L2)
      replace k1 := hide k1
      replace k2 := hide k2
      replace k3 := hide k3
      replace k4 := hide k4
      clear L1 L2 HF h2 HBa h1 hm
      go_wp2_with (first
        | (go_at_call 52; refine (HBb.out _).mono ?_; rintro e w2 ⟨x, y, rfl, C1, C2, m2, rfl⟩)
        | (go_at_call 53; rw [Q1.out]; refine (s_l01Log k1.out k2.out).mono ?_; rintro e w3 ⟨z1, rfl, hz1, m3, rfl⟩)
        | (go_at_call 53; rw [D1.out, D2.out, Q2.out]; refine (s_l01Log k3.out k4.out).mono ?_; rintro e w4 ⟨z2, rfl, hz2, m4, rfl⟩))
      rw [← hL.out.1] at hz1
      rw [← hL.out.2] at hz2
      go_loopw [17, 18] (fun s i wr => ∃ k sz m : Nat, k ≤ n ∧ i = .int .i64 k ∧ s = .float .f32 sz ∧ Hid (seqRes (bars1 a b) (bars2 a b) (sUp lo hi) (sDn lo hi) (xs.drop k) (cn .f32 sz) (k : Int) = tR xs lo hi a b) ∧ wr = w.drewN m) (fun _ i _ => n - (intOf i).toNat)
      case atStart => exact ⟨0, 0, _, Nat.zero_le _, rfl, rfl, hide (by rw [HR.out, cn_zero]; rfl), rfl⟩
      case round =>
        obtain ⟨k, sz, m, hk, rfl, rfl, hres, rfl⟩ := hrel
        by_cases hk2 : k < n
        · obtain ⟨ad, g, rfl, _, hx, hc⟩ := h.map_at hk2
          have hkI : (k : Int) < (n : Int) := by omega
          have HX := hide hx
          clear hx
          cases g with
          | true =>
            obtain ⟨Z, hZ⟩ : ∃ Z, flR .add .f32 sz z2 (w.drewN m) = Z := ⟨_, rfl⟩
            have HSz : fb .add .f32 (cn .f32 sz) (sPk true (sDn lo hi) (sUp lo hi)) = cn .f32 Z := by rw [sPk_t, ← hz2.out, fb_cn, ← cn_flR .add .f32 sz z2 (w.drewN m), hZ]
            have HEz : seqEnd (bars1 a b) (bars2 a b) (cn .f32 Z) = seqEnd x y Z := by rw [← C1.out, ← C2.out, seqEnd_cn]
            cases h5 : (FloatKind.f32.format.order Z x == some .lt || FloatKind.f32.format.order Z x == some .eq) with
            | true =>
              have HO := hide ((seqRes_end HX.out (by rw [HSz, HEz, end_lo h5]; decide)).symm.trans hres.out)
              rw [HSz, HEz, end_lo h5] at HO
              clear HSz HEz
              go_wp2
              go_ret3
              exact ⟨ret_test HO.out HN.out.symm, _, rfl⟩
            | false =>
              cases h6 : (FloatKind.f32.format.order Z y == some .gt || FloatKind.f32.format.order Z y == some .eq) with
              | true =>
                have HO := hide ((seqRes_end HX.out (by rw [HSz, HEz, end_hi h5 h6]; decide)).symm.trans hres.out)
                rw [HSz, HEz, end_hi h5 h6] at HO
                clear HSz HEz
                go_wp2
                go_ret3
                exact ⟨ret_test HO.out HN.out.symm, _, rfl⟩
              | false =>
                have HO := hide ((seqRes_on HX.out (by rw [HSz, HEz]; exact end_no h5 h6)).symm.trans hres.out)
                rw [HSz] at HO
                clear HSz HEz
                go_wp2
                go_roundw
                case rel => exact ⟨k + 1, _, _, by omega, by go_num, rfl, HO, rfl⟩
                case measure => (simp [intOf]; try omega)
          | false =>
            obtain ⟨Z, hZ⟩ : ∃ Z, flR .add .f32 sz z1 (w.drewN m) = Z := ⟨_, rfl⟩
            have HSz : fb .add .f32 (cn .f32 sz) (sPk false (sDn lo hi) (sUp lo hi)) = cn .f32 Z := by rw [sPk_f, ← hz1.out, fb_cn, ← cn_flR .add .f32 sz z1 (w.drewN m), hZ]
            have HEz : seqEnd (bars1 a b) (bars2 a b) (cn .f32 Z) = seqEnd x y Z := by rw [← C1.out, ← C2.out, seqEnd_cn]
            cases h5 : (FloatKind.f32.format.order Z x == some .lt || FloatKind.f32.format.order Z x == some .eq) with
            | true =>
              have HO := hide ((seqRes_end HX.out (by rw [HSz, HEz, end_lo h5]; decide)).symm.trans hres.out)
              rw [HSz, HEz, end_lo h5] at HO
              clear HSz HEz
              go_wp2
              go_ret3
              exact ⟨ret_test HO.out HN.out.symm, _, rfl⟩
            | false =>
              cases h6 : (FloatKind.f32.format.order Z y == some .gt || FloatKind.f32.format.order Z y == some .eq) with
              | true =>
                have HO := hide ((seqRes_end HX.out (by rw [HSz, HEz, end_hi h5 h6]; decide)).symm.trans hres.out)
                rw [HSz, HEz, end_hi h5 h6] at HO
                clear HSz HEz
                go_wp2
                go_ret3
                exact ⟨ret_test HO.out HN.out.symm, _, rfl⟩
              | false =>
                have HO := hide ((seqRes_on HX.out (by rw [HSz, HEz]; exact end_no h5 h6)).symm.trans hres.out)
                rw [HSz] at HO
                clear HSz HEz
                go_wp2
                go_roundw
                case rel => exact ⟨k + 1, _, _, by omega, by go_num, rfl, HO, rfl⟩
                case measure => (simp [intOf]; try omega)
        · obtain rfl : k = n := by omega
          have hkI : ¬ (k : Int) < (k : Int) := by omega
          have HO : Hid ((0, (k : Int)) = tR xs lo hi a b) := hide (by
            have := hres.out
            rwa [List.drop_eq_nil_of_le (by rw [Hl.out]; exact Nat.le_refl _)] at this)
          go_wp2
          go_ret3
          exact ⟨ret_test HO.out HN.out.symm, _, rfl⟩
    · have hmI : (256 : Int) < (n : Int) := by omega
      have HN : Hid (tOk xs lo hi a b = false) := hide (by rw [hT.out, h1, Hl.out, decide_eq_false hm]; rfl)
      clear hm
      go_wp2
      go_ret3
      exact ⟨ret_test (by rw [tR_no HN.out]) HN.out.symm, _, rfl⟩
end Go.Proofs.Ythfdgffgihjglaa
