/-
  Sets of parts, plans and lots: the program's walks (the same as XPln's and XPlanT's, without what they import).
-/
import Derived.Test.YtolbibpmngmpdaaPlnP
import Derived.Test.YtolbibpmngmpdaaMem
import Derived.Test.YtolbibpmngmpdaaFin
import Derived.BigQuiet
import Derived.IntWalk
namespace Go.Proofs.Ytolbibpmngmpdaa
open Go.RowKit Mem
set_option linter.unusedVariables false
set_option maxRecDepth 100000

theorem chI_noC {n k : Int} (h : k < 0 ∨ n < k) : chI n k = 0 := by unfold chI; rw [ch_no h]; rfl
theorem ret_i64C {a b : Int} (h : a = b) : Ending.returned (.int .i64 a) = .returned (.int .i64 b) := by rw [h]
set_option maxHeartbeats 1000000 in
theorem i_chooseC {n k : Int} {w : World} (hn : n ≤ 40) : Calls Try.prog 56 #[.int .i64 n, .int .i64 k] w fun e w' => e = .returned (.int .i64 (chI n k)) ∧ w' = w := by
  by_cases hk : k < 0
  · have HE := hide (chI_noC (n := n) (.inl hk))
    go_enter Try.func56, Try.ntmps56
    go_wp2
    go_ret
    exact ⟨by rw [HE.out]; rfl, rfl⟩
  · by_cases hkn : n < k
    · have HE := hide (chI_noC (.inr hkn))
      go_enter Try.func56, Try.ntmps56
      go_wp2
      go_ret
      exact ⟨by rw [HE.out]; rfl, rfl⟩
    · obtain ⟨K, rfl⟩ := Int.eq_ofNat_of_zero_le (show 0 ≤ k by omega)
      obtain ⟨N, rfl⟩ := Int.eq_ofNat_of_zero_le (show 0 ≤ n by omega)
      have hKN : K ≤ N := by omega
      have hN : N ≤ 40 := by omega
      have HE : Hid (chI N K = (chTo N K : Nat)) := hide (by unfold chI; rw [ch_yes hKN])
      go_enter Try.func56, Try.ntmps56
      go_wp2
      go_loopw [5, 15] (fun out i wr => ∃ j c : Nat, j ≤ K ∧ i = .int .i64 j ∧ out = .int .i64 (c : Int) ∧ Hid (c = chTo N j) ∧ wr = w) (fun _ i _ => K - (intOf i).toNat)
      case atStart => exact ⟨0, 1, Nat.zero_le _, rfl, rfl, hide rfl, rfl⟩
      case round =>
        obtain ⟨j, c, hj, rfl, rfl, hc, rfl⟩ := hrel
        by_cases hjk : j < K
        · obtain ⟨b1, b2, b3⟩ := chTo_bd hN (k := j) (by omega)
          rw [← hc.out] at b2 b3
          have hP : ((c : Int) * ((N : Int) - (j : Int))) = ((c * (N - j) : Nat) : Int) := by rw [Int.natCast_mul]; congr 1; omega
          have p1 : 0 ≤ (c : Int) * ((N : Int) - (j : Int)) := by rw [hP]; omega
          have p2 : (c : Int) * ((N : Int) - (j : Int)) ≤ 70368744177664 := by rw [hP]; omega
          have HS : Hid ((c : Int) * ((N : Int) - (j : Int)) / ((j : Int) + 1) = ((chTo N (j + 1) : Nat) : Int)) := hide (by rw [hP, chTo, ← hc.out]; rfl)
          clear hP b1 b2
          go_wp2
          go_roundw
          case rel => exact ⟨j + 1, chTo N (j + 1), by omega, by go_num, by rw [HS.out], hide rfl, trivial⟩
          case measure => (simp [intOf]; try omega)
        · obtain rfl : j = K := by omega
          go_wp2
          go_ret
          exact ⟨by rw [HE.out, ← hc.out]; rfl, rfl⟩
def planOkTC (sz ac : Int) : Bool := inB sz 1 40 && inB ac 0 sz
set_option maxHeartbeats 1000000 in
theorem i_ValidPlanTC {a b : Int} {w : World} : Calls Try.prog 54 #[.agg #[.int .i64 a, .int .i64 b]] w fun e w' => e = .returned (.bool (planOkTC a b)) ∧ Below w.heap.size w w' := by
  cases h1 : inB a 1 40 with
  | false =>
    go_enter Try.func54, Try.ntmps54
    go_wp2_with (go_at_call 59; refine (i_within _ _ _ _).mono ?_; rintro e w' ⟨rfl, rfl⟩)
    go_ret
    exact ⟨ret_bool (by unfold planOkTC; rw [h1]; rfl), (by repeat (first | exact Below.refl _ _ | exact below_drewN (by assumption) _ | refine below_drewN ?_ _ | refine Below.alloc ?_ (by first | (simp; done) | (simp; omega)) _ | assumption))⟩
  | true =>
    go_enter Try.func54, Try.ntmps54
    go_wp2_with (go_at_call 59; refine (i_within _ _ _ _).mono ?_; rintro e w' ⟨rfl, rfl⟩)
    go_ret
    exact ⟨ret_bool (by unfold planOkTC; rw [h1]; rfl), (by repeat (first | exact Below.refl _ _ | exact below_drewN (by assumption) _ | refine below_drewN ?_ _ | refine Below.alloc ?_ (by first | (simp; done) | (simp; omega)) _ | assumption))⟩
def lotOkC (lot sz ac : Int) : Bool := inB lot 1 40 && planOkTC sz ac && decide (sz ≤ lot)
theorem lotOk_rngC {lot sz ac : Int} (h : lotOkC lot sz ac = true) : 1 ≤ lot ∧ lot ≤ 40 ∧ 1 ≤ sz ∧ sz ≤ lot ∧ 0 ≤ ac ∧ ac ≤ sz := by
  unfold lotOkC planOkTC inB at h
  simp at h; omega
set_option maxHeartbeats 1000000 in
theorem i_isLotC {lot sz ac : Int} {w : World} (h : lotOkC lot sz ac = true) : Calls Try.prog 58 #[.int .i64 lot, .agg #[.int .i64 sz, .int .i64 ac]] w fun e w' => e = .returned (.bool true) ∧ Below w.heap.size w w' := by
  obtain ⟨r1, r2, r3, r4, r5, r6⟩ := lotOk_rngC h
  have h1 : inB lot 1 40 = true := by unfold inB; simp; omega
  have h2 : planOkTC sz ac = true := by unfold planOkTC inB; simp; omega
  go_enter Try.func58, Try.ntmps58
  go_wp2_with fail
  refine (i_within _ _ _ _).mono ?_
  rintro e w1 ⟨rfl, rfl⟩
  rw [h1]
  go_wp2_with fail
  refine i_ValidPlanTC.mono ?_
  rintro e w2 ⟨rfl, hb⟩
  rw [h2]
  have blk := (Blk.new w 26 #[.int .i64 sz, .int .i64 ac]).below hb (by simp)
  have bel := ((Below.refl w.heap.size w).alloc (Nat.le_refl _) (.cells #[.int .i64 sz, .int .i64 ac] 26)).trans (hb.mono (by simp))
  have c0 := blk.cell 0
  have c1 := blk.cell 1
  go_wp2
  go_ret
  exact ⟨rfl, bel⟩
end Go.Proofs.Ytolbibpmngmpdaa
