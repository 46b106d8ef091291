/-
  Sets of parts: the program's walks.
-/
import Derived.Test.YtlpfnpcnidaijaaDoorPlnP
import Derived.Test.YtlpfnpcnidaijaaDoorMem
import Derived.Test.YtlpfnpcnidaijaaDoorFin
import Derived.Test.YtlpfnpcnidaijaaDoorPlanT
import Derived.BigQuiet
import Derived.IntWalk
namespace Go.Proofs.YtlpfnpcnidaijaaDoor
open Go.RowKit Mem
set_option linter.unusedVariables false
set_option maxRecDepth 100000

theorem chI_no {n k : Int} (h : k < 0 ∨ n < k) : chI n k = 0 := by unfold chI; rw [ch_no h]; rfl
theorem ret_i64 {a b : Int} (h : a = b) : Ending.returned (.int .i64 a) = .returned (.int .i64 b) := by rw [h]
set_option maxHeartbeats 1000000 in
theorem i_choose {n k : Int} {w : World} (hn : n ≤ 40) : Calls Tryd.prog 18 #[.int .i64 n, .int .i64 k] w fun e w' => e = .returned (.int .i64 (chI n k)) ∧ w' = w := by
  by_cases hk : k < 0
  · have HE := hide (chI_no (n := n) (.inl hk))
    go_enter Tryd.func18, Tryd.ntmps18
    go_wp2
    go_ret
    exact ⟨by rw [HE.out]; rfl, rfl⟩
  · by_cases hkn : n < k
    · have HE := hide (chI_no (.inr hkn))
      go_enter Tryd.func18, Tryd.ntmps18
      go_wp2
      go_ret
      exact ⟨by rw [HE.out]; rfl, rfl⟩
    · obtain ⟨K, rfl⟩ := Int.eq_ofNat_of_zero_le (show 0 ≤ k by omega)
      obtain ⟨N, rfl⟩ := Int.eq_ofNat_of_zero_le (show 0 ≤ n by omega)
      have hKN : K ≤ N := by omega
      have hN : N ≤ 40 := by omega
      have HE : Hid (chI N K = (chTo N K : Nat)) := hide (by unfold chI; rw [ch_yes hKN])
      go_enter Tryd.func18, Tryd.ntmps18
      go_wp2
      go_loopw [5, 15] (fun out i wr => ∃ j c : Nat, j ≤ K ∧ i = .int .i64 j ∧ out = .int .i64 (c : Int) ∧ Hid (c = chTo N j) ∧ wr = w) (fun _ i _ => K - (intOf i).toNat)
      case atStart => exact ⟨0, 1, Nat.zero_le _, rfl, rfl, hide rfl, rfl⟩
      case round =>
        obtain ⟨j, c, hj, rfl, rfl, hc, rfl⟩ := hrel
        by_cases hjk : j < K
        · obtain ⟨b1, b2, b3⟩ := chTo_bd hN (k := j) (by omega)
          rw [← hc.out] at b2 b3
          have hP : ((c : Int) * ((N : Int) - (j : Int))) = ((c * (N - j) : Nat) : Int) := by rw [Int.natCast_mul]; congr 1; omega
          have p1 : 0 ≤ (c : Int) * ((N : Int) - (j : Int)) := by rw [hP]; omega
          have p2 : (c : Int) * ((N : Int) - (j : Int)) ≤ 70368744177664 := by rw [hP]; omega
          have HS : Hid ((c : Int) * ((N : Int) - (j : Int)) / ((j : Int) + 1) = ((chTo N (j + 1) : Nat) : Int)) := hide (by rw [hP, chTo, ← hc.out]; rfl)
          clear hP b1 b2
          go_wp2
          go_roundw
          case rel => exact ⟨j + 1, chTo N (j + 1), by omega, by go_num, by rw [HS.out], hide rfl, trivial⟩
          case measure => (simp [intOf]; try omega)
        · obtain rfl : j = K := by omega
          go_wp2
          go_ret
          exact ⟨by rw [HE.out, ← hc.out]; rfl, rfl⟩
set_option maxHeartbeats 1000000 in
theorem i_accepts {lot bad size a : Int} {w : World} (hl : lot ≤ 40) (h0 : 0 ≤ bad) (hb : bad ≤ lot) (hs : -1000 ≤ size) (hs2 : size ≤ 1000) (ha : a ≤ 40) (ha2 : -1000 ≤ a) :
    Calls Tryd.prog 17 #[.int .i64 lot, .int .i64 bad, .int .i64 size, .int .i64 a] w fun e w' => e = .returned (.int .i64 (accI lot bad size a)) ∧ w' = w := by
  obtain ⟨B, rfl⟩ := Int.eq_ofNat_of_zero_le h0
  obtain ⟨L, rfl⟩ := Int.eq_ofNat_of_zero_le (show 0 ≤ lot by omega)
  go_enter Tryd.func17, Tryd.ntmps17
  go_wp2
  go_loopw [9, 10] (fun s i wr => ∃ j c : Nat, (j : Int) ≤ (a + 1).toNat ∧ i = .int .i64 j ∧ s = .int .i64 (c : Int) ∧ Hid (c = accT L B size j) ∧ wr = w) (fun _ i _ => (a + 1).toNat - (intOf i).toNat)
  case atStart => exact ⟨0, 0, by omega, rfl, rfl, hide rfl, rfl⟩
  case round =>
    obtain ⟨j, c, hj, rfl, rfl, hc, rfl⟩ := hrel
    have hcb := accT_le (lot := L) (bad := B) (by omega) (by omega) size j
    rw [← hc.out] at hcb
    by_cases hjk : (j : Int) ≤ a
    · obtain ⟨p1, p2⟩ := prodI (lot := L) (bad := B) (by omega) (by omega) (by omega) j (size - j)
      have HS : Hid ((c : Int) + chI B j * chI ((L : Int) - B) (size - j) = ((accT L B size (j + 1) : Nat) : Int)) := hide (by
        rw [accT, ← hc.out]; unfold chI; rw [Int.natCast_add, Int.natCast_mul])
      have hc1 := chI_nn B j
      have hc2 := chI_nn ((L : Int) - B) (size - j)
      go_wp2_with (go_at_call 18; refine (i_choose (by omega)).mono ?_; rintro e w' ⟨rfl, rfl⟩)
      go_roundw
      case rel => exact ⟨j + 1, accT L B size (j + 1), by omega, by go_num, by rw [HS.out], hide rfl, trivial⟩
      case measure => (simp [intOf]; try omega)
    · have hje : j = (a + 1).toNat := by omega
      have HE : Hid (accI L B size a = (c : Int)) := hide (by unfold accI acc; rw [hc.out, hje])
      go_wp2
      go_ret
      exact ⟨by rw [HE.out]; rfl, rfl⟩
set_option maxHeartbeats 1000000 in
theorem i_common {a b : Nat} {w : World} (ha : a ≤ 4611686018427387904) (hb : b ≤ 4611686018427387904) :
    Calls Tryd.prog 30 #[.int .i64 (a : Int), .int .i64 (b : Int)] w fun e w' => e = .returned (.int .i64 ((Nat.gcd a b : Nat) : Int)) ∧ ∃ n, w' = w.drewN n := by
  go_enter Tryd.func30, Tryd.ntmps30
  go_wp2
  go_loopw [0, 1] (fun x y wr => ∃ p q m : Nat, x = .int .i64 (p : Int) ∧ y = .int .i64 (q : Int) ∧ p ≤ 4611686018427387904 ∧ q ≤ 4611686018427387904 ∧ Hid (Nat.gcd p q = Nat.gcd a b) ∧ wr = w.drewN m) (fun _ y _ => (intOf y).toNat)
  case atStart => exact ⟨a, b, 0, rfl, rfl, ha, hb, hide rfl, rfl⟩
  case round =>
    obtain ⟨p, q, m, rfl, rfl, hp, hq, hg, rfl⟩ := hrel
    by_cases h0 : q = 0
    · subst h0
      have HE : Hid (Nat.gcd a b = p) := hide (by rw [← hg.out, Nat.gcd_zero_right])
      go_wp2
      go_ret
      exact ⟨by rw [HE.out]; rfl, m, rfl⟩
    · have hq0 : (0 : Int) < q := by omega
      have HS : Hid (Nat.gcd q (p % q) = Nat.gcd a b) := hide (by rw [← hg.out, Nat.gcd_comm p q, Nat.gcd_rec q p, Nat.gcd_comm])
      have hml : p % q < q := Nat.mod_lt _ (by omega)
      go_wp2
      go_quiet (fail)
      go_wp2
      go_roundw
      case rel => exact ⟨q, p % q, m + _, rfl, by go_num, hq, by omega, HS, World.drewN_drewN _ _ _⟩
      case measure => (simp [intOf]; try omega)
theorem wrap_div {A g : Nat} (h : A ≤ 4611686018427387904) : wrap64 ((A : Int) / (g : Int)) = ((A / g : Nat) : Int) := by
  have hq : A / g ≤ A := Nat.div_le_self _ _
  have e : (A : Int) / (g : Int) = ((A / g : Nat) : Int) := rfl
  rw [e]
  generalize A / g = q at *
  unfold wrap64; omega
def redA (a b : Int) : Int := ((a.toNat / Nat.gcd a.toNat b.toNat : Nat) : Int)
def redB (a b : Int) : Int := ((b.toNat / Nat.gcd a.toNat b.toNat : Nat) : Int)
set_option maxHeartbeats 1000000 in
theorem i_reduced {a b : Int} {w : World} (h0 : 0 ≤ a) (ha : a ≤ 4611686018427387904) (h1 : 1 ≤ b) (hb : b ≤ 4611686018427387904) :
    Calls Tryd.prog 24 #[.int .i64 a, .int .i64 b] w fun e w' => e = .returned (.tuple #[.int .i64 (redA a b), .int .i64 (redB a b)]) ∧ ∃ n, w' = w.drewN n := by
  obtain ⟨A, rfl⟩ := Int.eq_ofNat_of_zero_le h0
  obtain ⟨B, rfl⟩ := Int.eq_ofNat_of_zero_le (show 0 ≤ b by omega)
  have hg1 : 0 < Nat.gcd A B := Nat.gcd_pos_of_pos_right _ (by omega)
  have hg2 : Nat.gcd A B ≤ B := Nat.gcd_le_right _ (by omega)
  have HA : Hid (redA A B = ((A / Nat.gcd A B : Nat) : Int)) := hide rfl
  have HB : Hid (redB A B = ((B / Nat.gcd A B : Nat) : Int)) := hide rfl
  go_enter Tryd.func24, Tryd.ntmps24
  go_wp2_with fail
  refine (i_common (by omega) (by omega)).mono ?_
  rintro e w1 ⟨rfl, n, rfl⟩
  generalize Nat.gcd A B = g at *
  have hw1 := hide (wrap_div (A := A) (g := g) (by omega))
  have hw2 := hide (wrap_div (A := B) (g := g) (by omega))
  go_wp2
  go_quiet (fail)
  go_wp2
  go_ret2
  refine ⟨?_, _, World.drewN_drewN _ _ _⟩
  show Ending.returned (.tuple #[.int .i64 (wrap64 ((A : Int) / (g : Int))), .int .i64 (wrap64 ((B : Int) / (g : Int)))]) = _
  rw [hw1.out, hw2.out, HA.out, HB.out]
def lotOk (lot sz ac : Int) : Bool := inB lot 1 40 && planOkT sz ac && decide (sz ≤ lot)
theorem lotOk_rng {lot sz ac : Int} (h : lotOk lot sz ac = true) : 1 ≤ lot ∧ lot ≤ 40 ∧ 1 ≤ sz ∧ sz ≤ lot ∧ 0 ≤ ac ∧ ac ≤ sz := by
  unfold lotOk planOkT inB at h
  simp at h; omega
set_option maxHeartbeats 1000000 in
theorem i_isLot {lot sz ac : Int} {w : World} (h : lotOk lot sz ac = true) : Calls Tryd.prog 16 #[.int .i64 lot, .agg #[.int .i64 sz, .int .i64 ac]] w fun e w' => e = .returned (.bool true) ∧ Below w.heap.size w w' := by
  obtain ⟨r1, r2, r3, r4, r5, r6⟩ := lotOk_rng h
  have h1 : inB lot 1 40 = true := by unfold inB; simp; omega
  have h2 : planOkT sz ac = true := by unfold planOkT inB; simp; omega
  go_enter Tryd.func16, Tryd.ntmps16
  go_wp2_with fail
  refine (i_within _ _ _ _).mono ?_
  rintro e w1 ⟨rfl, rfl⟩
  rw [h1]
  go_wp2_with fail
  refine i_ValidPlanT.mono ?_
  rintro e w2 ⟨rfl, hb⟩
  rw [h2]
  have blk := (Blk.new w 26 #[.int .i64 sz, .int .i64 ac]).below hb (by simp)
  have bel := ((Below.refl w.heap.size w).alloc (Nat.le_refl _) (.cells #[.int .i64 sz, .int .i64 ac] 26)).trans (hb.mono (by simp))
  have c0 := blk.cell 0
  have c1 := blk.cell 1
  go_wp2
  go_ret
  exact ⟨rfl, bel⟩
set_option maxHeartbeats 2000000 in
theorem i_AcceptShare {lot bad sz ac : Int} {w : World} (h : lotOk lot sz ac = true) (h0 : 0 ≤ bad) (hb0 : bad ≤ lot) :
    Calls Tryd.prog 9 #[.int .i64 lot, .int .i64 bad, .agg #[.int .i64 sz, .int .i64 ac]] w fun e w' => e = .returned (.tuple #[.int .i64 (redA (accI lot bad sz ac) (chI lot sz)), .int .i64 (redB (accI lot bad sz ac) (chI lot sz)), .bool true]) ∧ Below w.heap.size w w' := by
  obtain ⟨r1, r2, r3, r4, r5, r6⟩ := lotOk_rng h
  have h1 : inB bad 0 lot = true := by unfold inB; simp; omega
  have a1 := accI_nn lot bad sz ac
  have a2 := accI_le r2 h0 hb0 sz (a := ac) (by omega)
  have c1 : 1 ≤ chI lot sz := by
    obtain ⟨L, rfl⟩ := Int.eq_ofNat_of_zero_le (show 0 ≤ lot by omega)
    obtain ⟨S, rfl⟩ := Int.eq_ofNat_of_zero_le (show 0 ≤ sz by omega)
    have := ch_pos (n := L) (k := S) (by omega) (by omega)
    unfold chI; omega
  have c2 := chI_le (n := lot) (by omega) r2 sz
  go_enter Tryd.func9, Tryd.ntmps9
  go_wp2_with fail
  refine (i_isLot h).mono ?_
  rintro e w2 ⟨rfl, hb⟩
  have blk := (Blk.new w 26 #[.int .i64 sz, .int .i64 ac]).below hb (by simp)
  have bel := ((Below.refl w.heap.size w).alloc (Nat.le_refl _) (.cells #[.int .i64 sz, .int .i64 ac] 26)).trans (hb.mono (by simp))
  have k0 := blk.cell 0
  have k1 := blk.cell 1
  clear hb blk
  go_wp2_with fail
  refine (i_within _ _ _ _).mono ?_
  rintro e w1 ⟨rfl, rfl⟩
  rw [h1]
  go_wp2
  go_quiet (first
    | (go_at_call 17; exact Calls.quiet_of_same (i_accepts r2 h0 hb0 (by omega) (by omega) (by omega) (by omega)))
    | (go_at_call 18; exact Calls.quiet_of_same (i_choose r2))
    | (go_at_call 24; exact Calls.quiet_of (i_reduced a1 (by omega) c1 (by omega))))
  go_wp2
  go_ret3
  exact ⟨rfl, below_drewN bel _⟩
end Go.Proofs.YtlpfnpcnidaijaaDoor
