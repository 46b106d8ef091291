/-
  Sets of parts: the program's walks.
-/
import Derived.Test.YtjmpldcnhjgpkaaGreatDoorChc
import Derived.Test.YtjmpldcnhjgpkaaGreatDoorHelp
import Derived.Test.YtjmpldcnhjgpkaaGreatDoorSeqB
import Derived.Test.YtjmpldcnhjgpkaaGreatDoorPlanT
import Derived.Test.YtjmpldcnhjgpkaaGreatDoorDkD
import Derived.Test.YtjmpldcnhjgpkaaGreatDoorReadP
import Derived.Test.YtjmpldcnhjgpkaaGreatDoorLfE
import Derived.BigQuiet
import Derived.IntWalk
import Derived.Deep.RegionHeld3
namespace Go.Proofs.YtjmpldcnhjgpkaaGreatDoor
open Go.RowKit Mem
set_option linter.unusedVariables false
set_option maxRecDepth 100000

theorem chI_no {n k : Int} (h : k < 0 ∨ n < k) : chI n k = 0 := by unfold chI; rw [ch_no h]; rfl
theorem ret_i64 {a b : Int} (h : a = b) : Ending.returned (.int .i64 a) = .returned (.int .i64 b) := by rw [h]
set_option maxHeartbeats 1000000 in
theorem i_choose {n k : Int} {w : World} (hn : n ≤ 40) : Calls Tryz.prog 57 #[.int .i64 n, .int .i64 k] w fun e w' => e = .returned (.int .i64 (chI n k)) ∧ w' = w := by
  by_cases hk : k < 0
  · have HE := hide (chI_no (n := n) (.inl hk))
    go_enter Tryz.func57, Tryz.ntmps57
    go_wp2
    go_ret
    exact ⟨by rw [HE.out]; rfl, rfl⟩
  · by_cases hkn : n < k
    · have HE := hide (chI_no (.inr hkn))
      go_enter Tryz.func57, Tryz.ntmps57
      go_wp2
      go_ret
      exact ⟨by rw [HE.out]; rfl, rfl⟩
    · obtain ⟨K, rfl⟩ := Int.eq_ofNat_of_zero_le (show 0 ≤ k by omega)
      obtain ⟨N, rfl⟩ := Int.eq_ofNat_of_zero_le (show 0 ≤ n by omega)
      have hKN : K ≤ N := by omega
      have hN : N ≤ 40 := by omega
      have HE : Hid (chI N K = (chTo N K : Nat)) := hide (by unfold chI; rw [ch_yes hKN])
      go_enter Tryz.func57, Tryz.ntmps57
      go_wp2
      go_loopw [5, 15] (fun out i wr => ∃ j c : Nat, j ≤ K ∧ i = .int .i64 j ∧ out = .int .i64 (c : Int) ∧ Hid (c = chTo N j) ∧ wr = w) (fun _ i _ => K - (intOf i).toNat)
      case atStart => exact ⟨0, 1, Nat.zero_le _, rfl, rfl, hide rfl, rfl⟩
      case round =>
        obtain ⟨j, c, hj, rfl, rfl, hc, rfl⟩ := hrel
        by_cases hjk : j < K
        · obtain ⟨b1, b2, b3⟩ := chTo_bd hN (k := j) (by omega)
          rw [← hc.out] at b2 b3
          have hP : ((c : Int) * ((N : Int) - (j : Int))) = ((c * (N - j) : Nat) : Int) := by rw [Int.natCast_mul]; congr 1; omega
          have p1 : 0 ≤ (c : Int) * ((N : Int) - (j : Int)) := by rw [hP]; omega
          have p2 : (c : Int) * ((N : Int) - (j : Int)) ≤ 70368744177664 := by rw [hP]; omega
          have HS : Hid ((c : Int) * ((N : Int) - (j : Int)) / ((j : Int) + 1) = ((chTo N (j + 1) : Nat) : Int)) := hide (by rw [hP, chTo, ← hc.out]; rfl)
          clear hP b1 b2
          go_wp2
          go_roundw
          case rel => exact ⟨j + 1, chTo N (j + 1), by omega, by go_num, by rw [HS.out], hide rfl, trivial⟩
          case measure => (simp [intOf]; try omega)
        · obtain rfl : j = K := by omega
          go_wp2
          go_ret
          exact ⟨by rw [HE.out, ← hc.out]; rfl, rfl⟩
set_option maxHeartbeats 1000000 in
theorem i_accepts {lot bad size a : Int} {w : World} (hl : lot ≤ 40) (h0 : 0 ≤ bad) (hb : bad ≤ lot) (hs : -1000 ≤ size) (hs2 : size ≤ 1000) (ha : a ≤ 40) (ha2 : -1000 ≤ a) :
    Calls Tryz.prog 56 #[.int .i64 lot, .int .i64 bad, .int .i64 size, .int .i64 a] w fun e w' => e = .returned (.int .i64 (accI lot bad size a)) ∧ w' = w := by
  obtain ⟨B, rfl⟩ := Int.eq_ofNat_of_zero_le h0
  obtain ⟨L, rfl⟩ := Int.eq_ofNat_of_zero_le (show 0 ≤ lot by omega)
  go_enter Tryz.func56, Tryz.ntmps56
  go_wp2
  go_loopw [9, 10] (fun s i wr => ∃ j c : Nat, (j : Int) ≤ (a + 1).toNat ∧ i = .int .i64 j ∧ s = .int .i64 (c : Int) ∧ Hid (c = accT L B size j) ∧ wr = w) (fun _ i _ => (a + 1).toNat - (intOf i).toNat)
  case atStart => exact ⟨0, 0, by omega, rfl, rfl, hide rfl, rfl⟩
  case round =>
    obtain ⟨j, c, hj, rfl, rfl, hc, rfl⟩ := hrel
    have hcb := accT_le (lot := L) (bad := B) (by omega) (by omega) size j
    rw [← hc.out] at hcb
    by_cases hjk : (j : Int) ≤ a
    · obtain ⟨p1, p2⟩ := prodI (lot := L) (bad := B) (by omega) (by omega) (by omega) j (size - j)
      have HS : Hid ((c : Int) + chI B j * chI ((L : Int) - B) (size - j) = ((accT L B size (j + 1) : Nat) : Int)) := hide (by
        rw [accT, ← hc.out]; unfold chI; rw [Int.natCast_add, Int.natCast_mul])
      have hc1 := chI_nn B j
      have hc2 := chI_nn ((L : Int) - B) (size - j)
      go_wp2_with (go_at_call 57; refine (i_choose (by omega)).mono ?_; rintro e w' ⟨rfl, rfl⟩)
      go_roundw
      case rel => exact ⟨j + 1, accT L B size (j + 1), by omega, by go_num, by rw [HS.out], hide rfl, trivial⟩
      case measure => (simp [intOf]; try omega)
    · have hje : j = (a + 1).toNat := by omega
      have HE : Hid (accI L B size a = (c : Int)) := hide (by unfold accI acc; rw [hc.out, hje])
      go_wp2
      go_ret
      exact ⟨by rw [HE.out]; rfl, rfl⟩
set_option maxHeartbeats 1000000 in
theorem i_common {a b : Nat} {w : World} (ha : a ≤ 4611686018427387904) (hb : b ≤ 4611686018427387904) :
    Calls Tryz.prog 91 #[.int .i64 (a : Int), .int .i64 (b : Int)] w fun e w' => e = .returned (.int .i64 ((Nat.gcd a b : Nat) : Int)) ∧ ∃ n, w' = w.drewN n := by
  go_enter Tryz.func91, Tryz.ntmps91
  go_wp2
  go_loopw [0, 1] (fun x y wr => ∃ p q m : Nat, x = .int .i64 (p : Int) ∧ y = .int .i64 (q : Int) ∧ p ≤ 4611686018427387904 ∧ q ≤ 4611686018427387904 ∧ Hid (Nat.gcd p q = Nat.gcd a b) ∧ wr = w.drewN m) (fun _ y _ => (intOf y).toNat)
  case atStart => exact ⟨a, b, 0, rfl, rfl, ha, hb, hide rfl, rfl⟩
  case round =>
    obtain ⟨p, q, m, rfl, rfl, hp, hq, hg, rfl⟩ := hrel
    by_cases h0 : q = 0
    · subst h0
      have HE : Hid (Nat.gcd a b = p) := hide (by rw [← hg.out, Nat.gcd_zero_right])
      go_wp2
      go_ret
      exact ⟨by rw [HE.out]; rfl, m, rfl⟩
    · have hq0 : (0 : Int) < q := by omega
      have HS : Hid (Nat.gcd q (p % q) = Nat.gcd a b) := hide (by rw [← hg.out, Nat.gcd_comm p q, Nat.gcd_rec q p, Nat.gcd_comm])
      have hml : p % q < q := Nat.mod_lt _ (by omega)
      go_wp2
      go_quiet (fail)
      go_wp2
      go_roundw
      case rel => exact ⟨q, p % q, m + _, rfl, by go_num, hq, by omega, HS, World.drewN_drewN _ _ _⟩
      case measure => (simp [intOf]; try omega)
theorem wrap_div {A g : Nat} (h : A ≤ 4611686018427387904) : wrap64 ((A : Int) / (g : Int)) = ((A / g : Nat) : Int) := by
  have hq : A / g ≤ A := Nat.div_le_self _ _
  have e : (A : Int) / (g : Int) = ((A / g : Nat) : Int) := rfl
  rw [e]
  generalize A / g = q at *
  unfold wrap64; omega
def redA (a b : Int) : Int := ((a.toNat / Nat.gcd a.toNat b.toNat : Nat) : Int)
def redB (a b : Int) : Int := ((b.toNat / Nat.gcd a.toNat b.toNat : Nat) : Int)
set_option maxHeartbeats 1000000 in
theorem i_reduced {a b : Int} {w : World} (h0 : 0 ≤ a) (ha : a ≤ 4611686018427387904) (h1 : 1 ≤ b) (hb : b ≤ 4611686018427387904) :
    Calls Tryz.prog 55 #[.int .i64 a, .int .i64 b] w fun e w' => e = .returned (.tuple #[.int .i64 (redA a b), .int .i64 (redB a b)]) ∧ ∃ n, w' = w.drewN n := by
  obtain ⟨A, rfl⟩ := Int.eq_ofNat_of_zero_le h0
  obtain ⟨B, rfl⟩ := Int.eq_ofNat_of_zero_le (show 0 ≤ b by omega)
  have hg1 : 0 < Nat.gcd A B := Nat.gcd_pos_of_pos_right _ (by omega)
  have hg2 : Nat.gcd A B ≤ B := Nat.gcd_le_right _ (by omega)
  have HA : Hid (redA A B = ((A / Nat.gcd A B : Nat) : Int)) := hide rfl
  have HB : Hid (redB A B = ((B / Nat.gcd A B : Nat) : Int)) := hide rfl
  go_enter Tryz.func55, Tryz.ntmps55
  go_wp2_with fail
  refine (i_common (by omega) (by omega)).mono ?_
  rintro e w1 ⟨rfl, n, rfl⟩
  generalize Nat.gcd A B = g at *
  have hw1 := hide (wrap_div (A := A) (g := g) (by omega))
  have hw2 := hide (wrap_div (A := B) (g := g) (by omega))
  go_wp2
  go_quiet (fail)
  go_wp2
  go_ret2
  refine ⟨?_, _, World.drewN_drewN _ _ _⟩
  show Ending.returned (.tuple #[.int .i64 (wrap64 ((A : Int) / (g : Int))), .int .i64 (wrap64 ((B : Int) / (g : Int)))]) = _
  rw [hw1.out, hw2.out, HA.out, HB.out]
def lotOk (lot sz ac : Int) : Bool := inB lot 1 40 && planOkT sz ac && decide (sz ≤ lot)
theorem lotOk_rng {lot sz ac : Int} (h : lotOk lot sz ac = true) : 1 ≤ lot ∧ lot ≤ 40 ∧ 1 ≤ sz ∧ sz ≤ lot ∧ 0 ≤ ac ∧ ac ≤ sz := by
  unfold lotOk planOkT inB at h
  simp at h; omega
set_option maxHeartbeats 1000000 in
theorem i_isLot {lot sz ac : Int} {w : World} (h : lotOk lot sz ac = true) : Calls Tryz.prog 53 #[.int .i64 lot, .agg #[.int .i64 sz, .int .i64 ac]] w fun e w' => e = .returned (.bool true) ∧ Below w.heap.size w w' := by
  obtain ⟨r1, r2, r3, r4, r5, r6⟩ := lotOk_rng h
  have h1 : inB lot 1 40 = true := by unfold inB; simp; omega
  have h2 : planOkT sz ac = true := by unfold planOkT inB; simp; omega
  go_enter Tryz.func53, Tryz.ntmps53
  go_wp2_with fail
  refine (i_within _ _ _ _).mono ?_
  rintro e w1 ⟨rfl, rfl⟩
  rw [h1]
  go_wp2_with fail
  refine i_ValidPlanT.mono ?_
  rintro e w2 ⟨rfl, hb⟩
  rw [h2]
  have blk := (Blk.new w 32 #[.int .i64 sz, .int .i64 ac]).below hb (by simp)
  have bel := ((Below.refl w.heap.size w).alloc (Nat.le_refl _) (.cells #[.int .i64 sz, .int .i64 ac] 32)).trans (hb.mono (by simp))
  have c0 := blk.cell 0
  have c1 := blk.cell 1
  go_wp2
  go_ret
  exact ⟨rfl, bel⟩
set_option maxHeartbeats 2000000 in
theorem i_AcceptShare {lot bad sz ac : Int} {w : World} (h : lotOk lot sz ac = true) (h0 : 0 ≤ bad) (hb0 : bad ≤ lot) :
    Calls Tryz.prog 21 #[.int .i64 lot, .int .i64 bad, .agg #[.int .i64 sz, .int .i64 ac]] w fun e w' => e = .returned (.tuple #[.int .i64 (redA (accI lot bad sz ac) (chI lot sz)), .int .i64 (redB (accI lot bad sz ac) (chI lot sz)), .bool true]) ∧ Below w.heap.size w w' := by
  obtain ⟨r1, r2, r3, r4, r5, r6⟩ := lotOk_rng h
  have h1 : inB bad 0 lot = true := by unfold inB; simp; omega
  have a1 := accI_nn lot bad sz ac
  have a2 := accI_le r2 h0 hb0 sz (a := ac) (by omega)
  have c1 : 1 ≤ chI lot sz := by
    obtain ⟨L, rfl⟩ := Int.eq_ofNat_of_zero_le (show 0 ≤ lot by omega)
    obtain ⟨S, rfl⟩ := Int.eq_ofNat_of_zero_le (show 0 ≤ sz by omega)
    have := ch_pos (n := L) (k := S) (by omega) (by omega)
    unfold chI; omega
  have c2 := chI_le (n := lot) (by omega) r2 sz
  go_enter Tryz.func21, Tryz.ntmps21
  go_wp2_with fail
  refine (i_isLot h).mono ?_
  rintro e w2 ⟨rfl, hb⟩
  have blk := (Blk.new w 32 #[.int .i64 sz, .int .i64 ac]).below hb (by simp)
  have bel := ((Below.refl w.heap.size w).alloc (Nat.le_refl _) (.cells #[.int .i64 sz, .int .i64 ac] 32)).trans (hb.mono (by simp))
  have k0 := blk.cell 0
  have k1 := blk.cell 1
  clear hb blk
  go_wp2_with fail
  refine (i_within _ _ _ _).mono ?_
  rintro e w1 ⟨rfl, rfl⟩
  rw [h1]
  go_wp2
  go_quiet (first
    | (go_at_call 56; exact Calls.quiet_of_same (i_accepts r2 h0 hb0 (by omega) (by omega) (by omega) (by omega)))
    | (go_at_call 57; exact Calls.quiet_of_same (i_choose r2))
    | (go_at_call 55; exact Calls.quiet_of (i_reduced a1 (by omega) c1 (by omega))))
  go_wp2
  go_ret3
  exact ⟨rfl, below_drewN bel _⟩
end Go.Proofs.YtjmpldcnhjgpkaaGreatDoor

/-
  Curves of plans, and how many parts are looked at: the program's walks.
-/
namespace Go.Proofs.YtjmpldcnhjgpkaaGreatDoor
open Go.RowKit Mem
set_option linter.unusedVariables false
set_option maxRecDepth 100000

def curveL (lot sz ac : Int) (k : Nat) : List Int := (List.range k).map fun b => accI lot (b : Nat) sz ac
theorem curveL_len (lot sz ac : Int) (k : Nat) : (curveL lot sz ac k).length = k := by simp [curveL]
theorem curveL_succ (lot sz ac : Int) (k : Nat) : curveL lot sz ac (k + 1) = curveL lot sz ac k ++ [accI lot (k : Nat) sz ac] := by simp [curveL, List.range_succ]
theorem curveL_at {lot sz ac : Int} {k b : Nat} (h : b < k) : (curveL lot sz ac k)[b]? = some (accI lot (b : Nat) sz ac) := by simp [curveL, h]
/-- How many parts are looked at, over all places of the bad ones. -/
def mlT (lot bad ac : Int) : Nat → Int
  | 0 => 0
  | k + 1 => mlT lot bad ac k + accI lot (k : Nat) bad ac
theorem mlT_bd {lot bad ac : Int} (h : lot ≤ 40) (ha : ac ≤ 40) : ∀ k : Nat, (k : Int) ≤ lot + 1 → 0 ≤ mlT lot bad ac k ∧ mlT lot bad ac k ≤ k * 45079976738816
  | 0, _ => by simp [mlT]
  | k + 1, hk => by
    have ih := mlT_bd (bad := bad) h ha k (by omega)
    have h1 := accI_nn lot (k : Nat) bad ac
    have h2 := accI_le (lot := lot) (bad := (k : Nat)) h (by omega) (by omega) bad ha
    rw [mlT]
    push_cast
    omega
set_option maxHeartbeats 2000000 in
theorem i_MeanLooks {lot bad sz ac : Int} {w : World} (h : lotOk lot sz ac = true) (h0 : 0 ≤ bad) (hb0 : bad ≤ lot) :
    Calls Tryz.prog 23 #[.int .i64 lot, .int .i64 bad, .agg #[.int .i64 sz, .int .i64 ac]] w fun e w' => e = .returned (.tuple #[.int .i64 (redA (mlT lot bad ac sz.toNat) (chI lot bad)), .int .i64 (redB (mlT lot bad ac sz.toNat) (chI lot bad)), .bool true]) ∧ Below w.heap.size w w' := by
  obtain ⟨r1, r2, r3, r4, r5, r6⟩ := lotOk_rng h
  have h1 : inB bad 0 lot = true := by unfold inB; simp; omega
  have c1 : 1 ≤ chI lot bad := by
    obtain ⟨L, rfl⟩ := Int.eq_ofNat_of_zero_le (show 0 ≤ lot by omega)
    obtain ⟨S, rfl⟩ := Int.eq_ofNat_of_zero_le h0
    have := ch_pos (n := L) (k := S) (by omega) (by omega)
    unfold chI; omega
  have c2 := chI_le (n := lot) (by omega) r2 bad
  go_enter Tryz.func23, Tryz.ntmps23
  go_wp2_with fail
  refine (i_isLot h).mono ?_
  rintro e w2 ⟨rfl, hb⟩
  have blk := (Blk.new w 32 #[.int .i64 sz, .int .i64 ac]).below hb (by simp)
  have bel := ((Below.refl w.heap.size w).alloc (Nat.le_refl _) (.cells #[.int .i64 sz, .int .i64 ac] 32)).trans (hb.mono (by simp))
  have k0 := blk.cell 0
  have k1 := blk.cell 1
  clear hb blk
  go_wp2_with fail
  refine (i_within _ _ _ _).mono ?_
  rintro e w1 ⟨rfl, rfl⟩
  rw [h1]
  go_wp2_with fail
  go_loopw [9, 25] (fun s i wr => ∃ k : Nat, (k : Int) ≤ sz ∧ i = .int .i64 k ∧ s = .int .i64 (mlT lot bad ac k) ∧ wr = w2) (fun _ i _ => sz.toNat - (intOf i).toNat)
  case atStart => exact ⟨0, by omega, rfl, rfl, rfl⟩
  case round =>
    obtain ⟨k, hk, rfl, rfl, rfl⟩ := hrel
    have hbd := mlT_bd (bad := bad) r2 (ac := ac) (by omega) k (by omega)
    by_cases hlt2 : (k : Int) < sz
    · have HS : Hid (mlT lot bad ac (k + 1) = mlT lot bad ac k + accI lot (k : Nat) bad ac) := hide rfl
      have a1 := accI_nn lot (k : Nat) bad ac
      have a2 := accI_le (lot := lot) (bad := (k : Nat)) r2 (by omega) (by omega) bad (a := ac) (by omega)
      obtain ⟨b1, b2⟩ := hbd
      go_wp2_with (go_at_call 56; refine (i_accepts (by omega) (by omega) (by omega) (by omega) (by omega) (by omega) (by omega)).mono ?_; rintro e w' ⟨rfl, rfl⟩)
      go_roundw
      case rel => exact ⟨k + 1, by omega, by go_num, by rw [HS.out], trivial⟩
      case measure => (simp [intOf]; try omega)
    · have hks : k = sz.toNat := by omega
      have hkI : ¬ (k : Int) < sz := hlt2
      have HK := hide hks
      obtain ⟨b1, b2⟩ := hbd
      clear hks
      go_wp2_with (first
        | (go_at_call 57; refine (i_choose r2).mono ?_; rintro e w' ⟨rfl, rfl⟩)
        | (go_at_call 55; refine (i_reduced (by omega) (by omega) c1 (by omega)).mono ?_; rintro e w' ⟨rfl, m, rfl⟩))
      go_ret3
      exact ⟨by rw [← HK.out]; rfl, below_drewN bel _⟩
end Go.Proofs.YtjmpldcnhjgpkaaGreatDoor

/-
  Desks: what a line of a word and two numbers does.
-/
namespace Go.Proofs.YtjmpldcnhjgpkaaGreatDoor
open Go.RowKit Mem Fl Go.Shelf
set_option linter.unusedVariables false
set_option maxRecDepth 100000

theorem g_IndexS {A : Option Addr} {n c B j : Nat} {xs : List ByteArray} {v : ByteArray} {w : World} (h : Reads w B 1 A n (xs.map Value.string)) (hn : n ≤ 1000) (hj : xs[j]? = some v) (hb : ∀ i, i < j → ∀ u, xs[i]? = some u → (v.toList == u.toList) = false) :
    Calls Tryz.prog 184 #[.slice A n c, .string v] w fun e w' => e = .returned (.int .i64 (j : Int)) ∧ w' = w := by
  have hl := h.map_len
  have hjn : j < n := by have := (List.getElem?_eq_some_iff.1 hj).1; omega
  have HB := hide hb
  have HJ := hide hj
  clear hb hj hl
  go_enter Tryz.func184, Tryz.ntmps184
  go_wp2
  go_loopw [8] (fun i wr => ∃ k : Nat, k ≤ j ∧ i = .int .i64 k ∧ wr = w) (fun i _ => n - (intOf i).toNat)
  case atStart => exact ⟨0, Nat.zero_le _, rfl, rfl⟩
  case round =>
    obtain ⟨k, hk, rfl, rfl⟩ := hrel
    have hkI : (k : Int) < (n : Int) := by omega
    obtain ⟨ad, x, rfl, _, hx, hc⟩ := h.map_at (show k < n by omega)
    by_cases hk2 : k < j
    · have hne : (v.toList == x.toList) = false := HB.out k hk2 x hx
      clear hx
      go_wp2
      go_roundw
      case rel => exact ⟨k + 1, by omega, by go_num, trivial⟩
      case measure => (simp [intOf]; try omega)
    · obtain rfl : k = j := by omega
      have hxv : x = v := by have := HJ.out; rw [hx] at this; injection this
      subst hxv
      have heq : (x.toList == x.toList) = true := by simp
      clear hx
      go_wp2
      go_ret
      exact ⟨rfl, rfl⟩
theorem g_ContainsS {A : Option Addr} {n c B j : Nat} {xs : List ByteArray} {v : ByteArray} {w : World} (h : Reads w B 1 A n (xs.map Value.string)) (hn : n ≤ 1000) (hj : xs[j]? = some v) (hb : ∀ i, i < j → ∀ u, xs[i]? = some u → (v.toList == u.toList) = false) :
    Calls Tryz.prog 155 #[.slice A n c, .string v] w fun e w' => e = .returned (.bool true) ∧ w' = w := by
  have HI := hide (g_IndexS (c := c) h hn hj hb)
  have hj0 : (0 : Int) ≤ (j : Int) := by omega
  clear h hj hb
  go_enter Tryz.func155, Tryz.ntmps155
  go_wp2_with (go_at_call 184; refine HI.out.mono ?_; rintro e w1 ⟨rfl, rfl⟩)
  go_ret
  exact ⟨rfl, rfl⟩
abbrev wordsN : List ByteArray := [⟨#[100, 114, 97, 119]⟩, ⟨#[99, 114, 101, 119, 115]⟩, ⟨#[110, 101, 101, 100, 115]⟩, ⟨#[97, 99, 99, 101, 112, 116]⟩, ⟨#[108, 111, 111, 107, 115]⟩]
def twoOk (a b : Int) : Bool := valIn a && valIn b
theorem i_twoText {a b : Int} {w : World} (htab : Lib.TabIs Tryz.prog w "internal/strconv.uint64pow10" .u64 Lib.pow10Tab) :
    Calls Tryz.prog 159 #[.int .i64 a, .int .i64 b, .bool true] w fun e w' => e = .returned (.tuple #[.string (listS [a, b]), .bool (twoOk a b)]) ∧ Below w.heap.size w w' := by
  have HC := hide (fun o => i_ListText (c := 2) (xs := [a, b]) (w := w.alloc (.cells #[.int .i64 a, .int .i64 b] o)) (reads_new (Value.int .i64) w o [a, b]) (by simp) (pow_kept htab ((Below.refl _ _).alloc (Nat.le_refl _) _)))
  rw [show [a, b].all valIn = twoOk a b by unfold twoOk; simp] at HC
  clear htab
  go_enter Tryz.func159, Tryz.ntmps159
  go_wp2_with (go_at_call 22; refine (HC.out _).mono ?_; rintro e w1 ⟨rfl, hb⟩)
  go_ret2
  exact ⟨rfl, ((Below.refl w.heap.size w).alloc (Nat.le_refl _) _).trans (hb.mono (by simp))⟩
theorem has_accept {w : World} (o : TypeId) (g : Nat) (hg : g = w.heap.size) : Calls Tryz.prog 155 #[.slice (some ⟨g, 0, none⟩) 5 5, .string ⟨#[97, 99, 99, 101, 112, 116]⟩] (w.alloc (.cells #[.string ⟨#[100, 114, 97, 119]⟩, .string ⟨#[99, 114, 101, 119, 115]⟩, .string ⟨#[110, 101, 101, 100, 115]⟩, .string ⟨#[97, 99, 99, 101, 112, 116]⟩, .string ⟨#[108, 111, 111, 107, 115]⟩] o)) fun e w' => e = .returned (.bool true) ∧ w' = w.alloc (.cells #[.string ⟨#[100, 114, 97, 119]⟩, .string ⟨#[99, 114, 101, 119, 115]⟩, .string ⟨#[110, 101, 101, 100, 115]⟩, .string ⟨#[97, 99, 99, 101, 112, 116]⟩, .string ⟨#[108, 111, 111, 107, 115]⟩] o) := by
  subst hg
  exact g_ContainsS (xs := wordsN) (j := 3) (reads_new (Value.string) w o wordsN) (by decide) rfl (by
    intro i hi u hu
    match i, hi with
    | 0, _ => injection hu with hu; subst hu; decide +kernel
    | 1, _ => injection hu with hu; subst hu; decide +kernel
    | 2, _ => injection hu with hu; subst hu; decide +kernel)
theorem has_looks {w : World} (o : TypeId) (g : Nat) (hg : g = w.heap.size) : Calls Tryz.prog 155 #[.slice (some ⟨g, 0, none⟩) 5 5, .string ⟨#[108, 111, 111, 107, 115]⟩] (w.alloc (.cells #[.string ⟨#[100, 114, 97, 119]⟩, .string ⟨#[99, 114, 101, 119, 115]⟩, .string ⟨#[110, 101, 101, 100, 115]⟩, .string ⟨#[97, 99, 99, 101, 112, 116]⟩, .string ⟨#[108, 111, 111, 107, 115]⟩] o)) fun e w' => e = .returned (.bool true) ∧ w' = w.alloc (.cells #[.string ⟨#[100, 114, 97, 119]⟩, .string ⟨#[99, 114, 101, 119, 115]⟩, .string ⟨#[110, 101, 101, 100, 115]⟩, .string ⟨#[97, 99, 99, 101, 112, 116]⟩, .string ⟨#[108, 111, 111, 107, 115]⟩] o) := by
  subst hg
  exact g_ContainsS (xs := wordsN) (j := 4) (reads_new (Value.string) w o wordsN) (by decide) rfl (by
    intro i hi u hu
    match i, hi with
    | 0, _ => injection hu with hu; subst hu; decide +kernel
    | 1, _ => injection hu with hu; subst hu; decide +kernel
    | 2, _ => injection hu with hu; subst hu; decide +kernel
    | 3, _ => injection hu with hu; subst hu; decide +kernel)
theorem wn_accept {lo g : Nat} {D : Dk} {a b : ByteArray} {lot bad : Int} {w : World} (h : DkAt w lo g D) (G : Gl w) (ha : valV a = some lot) (hb : valV b = some bad) (hl : lotOk lot D.sz D.ac = true) (h0 : 0 ≤ bad) (hbl : bad ≤ lot) :
    Calls Tryz.prog 119 #[.pointer (some ⟨g, 0, none⟩), .string ⟨#[97, 99, 99, 101, 112, 116]⟩, .string a, .string b] w (Did lo g D (listS [redA (accI lot bad D.sz D.ac) (chI lot D.sz), redB (accI lot bad D.sz D.ac) (chI lot D.sz)]) (twoOk (redA (accI lot bad D.sz D.ac) (chI lot D.sz)) (redB (accI lot bad D.sz D.ac) (chI lot D.sz))) true w) := by
  have HE : Hid (∀ w', Below w.heap.size w w' → DkTo w' lo g D) := hide (fun w' hb => h.to hb)
  obtain ⟨LA, ln, lc, RA, rn, rc, h1, h2⟩ := h
  have hlt := h1.lt
  have za := valV_len ha
  have zb := valV_len hb
  have HA := hide (fun W (hb : Below w.heap.size w W) => i_ReadDecimal (s := a) (w := W) (by omega) (G.er.below hb) (pow_kept G.pw hb))
  have HB := hide (fun W (hb : Below w.heap.size w W) => i_ReadDecimal (s := b) (w := W) (by omega) (G.er.below hb) (pow_kept G.pw hb))
  rw [rdV_some ha] at HA
  rw [rdV_some hb] at HB
  have HC := hide (fun W => i_AcceptShare (w := W) hl h0 hbl)
  have HT := hide (fun W p q (hb : Below w.heap.size w W) => i_twoText (a := p) (b := q) (w := W) (pow_kept G.pw hb))
  have HK := hide (fun W o g hg => has_accept (w := W) o g hg)
  have HB0 : Hid (∀ o, Below w.heap.size w (w.alloc o)) := hide (fun o => (Below.refl _ _).alloc (Nat.le_refl _) _)
  have H1 := hide h1
  clear h1 h2 G ha hb hl h0 hbl za zb
  go_enter Tryz.func119, Tryz.ntmps119
  go_wp2_with (first
    | (go_at_call 155; refine (HK.out _ _ _ (by simp)).mono ?_; rintro e w1 ⟨rfl, rfl⟩; have hb1 := HB0.out (.cells #[.string ⟨#[100, 114, 97, 119]⟩, .string ⟨#[99, 114, 101, 119, 115]⟩, .string ⟨#[110, 101, 101, 100, 115]⟩, .string ⟨#[97, 99, 99, 101, 112, 116]⟩, .string ⟨#[108, 111, 111, 107, 115]⟩] 9))
    | (go_at_call 150; refine (HA.out _ (by assumption)).mono ?_; rintro e w2 ⟨rfl, hb2⟩; replace hb2 := hb1.trans (hb2.mono hb1.size); clear HA hb1)
    | (go_at_call 150; refine (HB.out _ (by assumption)).mono ?_; rintro e w3 ⟨rfl, hb3⟩; replace hb3 := hb2.trans (hb3.mono hb2.size); clear HB hb2; have c6 : w3.cell? ⟨g, 6, none⟩ = some (.int .i64 D.sz) := (hb3.cell (p := ⟨g, 6, none⟩) hlt).trans (H1.out.cell 6); have c7 : w3.cell? ⟨g, 7, none⟩ = some (.int .i64 D.ac) := (hb3.cell (p := ⟨g, 7, none⟩) hlt).trans (H1.out.cell 7))
    | (go_at_call 21; refine (HC.out _).mono ?_; rintro e w4 ⟨rfl, hb4⟩; replace hb4 := hb3.trans (hb4.mono hb3.size); clear hb3 c6 c7)
    | (go_at_call 159; refine (HT.out _ _ _ (by assumption)).mono ?_; rintro e w5 ⟨rfl, hb5⟩; replace hb5 := hb4.trans (hb5.mono hb4.size); clear hb4))
  go_ret3
  exact ⟨rfl, HE.out _ hb5, only_of_below hb5 _⟩
theorem wn_looks {lo g : Nat} {D : Dk} {a b : ByteArray} {lot bad : Int} {w : World} (h : DkAt w lo g D) (G : Gl w) (ha : valV a = some lot) (hb : valV b = some bad) (hl : lotOk lot D.sz D.ac = true) (h0 : 0 ≤ bad) (hbl : bad ≤ lot) :
    Calls Tryz.prog 119 #[.pointer (some ⟨g, 0, none⟩), .string ⟨#[108, 111, 111, 107, 115]⟩, .string a, .string b] w (Did lo g D (listS [redA (mlT lot bad D.ac D.sz.toNat) (chI lot bad), redB (mlT lot bad D.ac D.sz.toNat) (chI lot bad)]) (twoOk (redA (mlT lot bad D.ac D.sz.toNat) (chI lot bad)) (redB (mlT lot bad D.ac D.sz.toNat) (chI lot bad))) true w) := by
  have HE : Hid (∀ w', Below w.heap.size w w' → DkTo w' lo g D) := hide (fun w' hb => h.to hb)
  obtain ⟨LA, ln, lc, RA, rn, rc, h1, h2⟩ := h
  have hlt := h1.lt
  have za := valV_len ha
  have zb := valV_len hb
  have HA := hide (fun W (hb : Below w.heap.size w W) => i_ReadDecimal (s := a) (w := W) (by omega) (G.er.below hb) (pow_kept G.pw hb))
  have HB := hide (fun W (hb : Below w.heap.size w W) => i_ReadDecimal (s := b) (w := W) (by omega) (G.er.below hb) (pow_kept G.pw hb))
  rw [rdV_some ha] at HA
  rw [rdV_some hb] at HB
  have HC := hide (fun W => i_MeanLooks (w := W) hl h0 hbl)
  have HT := hide (fun W p q (hb : Below w.heap.size w W) => i_twoText (a := p) (b := q) (w := W) (pow_kept G.pw hb))
  have HK := hide (fun W o g hg => has_looks (w := W) o g hg)
  have HB0 : Hid (∀ o, Below w.heap.size w (w.alloc o)) := hide (fun o => (Below.refl _ _).alloc (Nat.le_refl _) _)
  have H1 := hide h1
  clear h1 h2 G ha hb hl h0 hbl za zb
  go_enter Tryz.func119, Tryz.ntmps119
  go_wp2_with (first
    | (go_at_call 155; refine (HK.out _ _ _ (by simp)).mono ?_; rintro e w1 ⟨rfl, rfl⟩; have hb1 := HB0.out (.cells #[.string ⟨#[100, 114, 97, 119]⟩, .string ⟨#[99, 114, 101, 119, 115]⟩, .string ⟨#[110, 101, 101, 100, 115]⟩, .string ⟨#[97, 99, 99, 101, 112, 116]⟩, .string ⟨#[108, 111, 111, 107, 115]⟩] 9))
    | (go_at_call 150; refine (HA.out _ (by assumption)).mono ?_; rintro e w2 ⟨rfl, hb2⟩; replace hb2 := hb1.trans (hb2.mono hb1.size); clear HA hb1)
    | (go_at_call 150; refine (HB.out _ (by assumption)).mono ?_; rintro e w3 ⟨rfl, hb3⟩; replace hb3 := hb2.trans (hb3.mono hb2.size); clear HB hb2; have c6 : w3.cell? ⟨g, 6, none⟩ = some (.int .i64 D.sz) := (hb3.cell (p := ⟨g, 6, none⟩) hlt).trans (H1.out.cell 6); have c7 : w3.cell? ⟨g, 7, none⟩ = some (.int .i64 D.ac) := (hb3.cell (p := ⟨g, 7, none⟩) hlt).trans (H1.out.cell 7))
    | (go_at_call 23; refine (HC.out _).mono ?_; rintro e w4 ⟨rfl, hb4⟩; replace hb4 := hb3.trans (hb4.mono hb3.size); clear hb3 c6 c7)
    | (go_at_call 159; refine (HT.out _ _ _ (by assumption)).mono ?_; rintro e w5 ⟨rfl, hb5⟩; replace hb5 := hb4.trans (hb5.mono hb4.size); clear hb4))
  go_ret3
  exact ⟨rfl, HE.out _ hb5, only_of_below hb5 _⟩
end Go.Proofs.YtjmpldcnhjgpkaaGreatDoor

/-
  Desks: a line of words is carried out; a line as a text.
-/
namespace Go.Proofs.YtjmpldcnhjgpkaaGreatDoor
open Go.RowKit Mem Fl Go.Shelf
set_option linter.unusedVariables false
set_option maxRecDepth 100000

theorem Did.undrew {lo g : Nat} {D' : Dk} {t : ByteArray} {ok has : Bool} {w w' : World} {e : Ending} {k : Nat} (h : Did lo g D' t ok has (w.drewN k) e w') : Did lo g D' t ok has w e w' :=
  ⟨h.1, h.2.1, ⟨h.2.2.os, h.2.2.tape, h.2.2.output, h.2.2.size, h.2.2.block⟩⟩
theorem only_cell {w w' : World} {g b : Nat} (h : w.grownBy w' (some g)) (hb : b < w.heap.size) (hne : b ≠ g) (i : Nat) : w'.cell? ⟨b, i, none⟩ = w.cell? ⟨b, i, none⟩ :=
  World.cell?_of_block (h.block b hb (fun e => hne (by injection e)))
theorem ca_one {lo g b c : Nat} {a t : ByteArray} {D' : Dk} {ok has : Bool} {w : World} (hb : Blk w b 9 #[.string a]) (H : Calls Tryz.prog 117 #[.pointer (some ⟨g, 0, none⟩), .string a] w (Did lo g D' t ok has w)) :
    Calls Tryz.prog 79 #[.pointer (some ⟨g, 0, none⟩), .slice (some ⟨b, 0, none⟩) 1 c] w (Did lo g D' t ok has w) := by
  have c0 : w.cell? ⟨b, 0, none⟩ = some (.string a) := hb.cell 0
  have HH := hide H
  clear hb H
  go_enter Tryz.func79, Tryz.ntmps79
  go_wp2_with (go_at_call 117; refine HH.out.mono ?_; rintro e w1 ⟨rfl, h1, h2⟩)
  go_ret3
  exact ⟨rfl, h1, h2⟩
set_option maxHeartbeats 8000000 in
theorem ca_two {lo g b c : Nat} {a a2 t : ByteArray} {D' : Dk} {ok has : Bool} {w : World} (hne : b ≠ g) (hb : Blk w b 9 #[.string a, .string a2]) (H : ∀ k, Calls Tryz.prog 118 #[.pointer (some ⟨g, 0, none⟩), .string a, .string a2] (w.drewN k) (Did lo g D' t ok has (w.drewN k))) :
    Calls Tryz.prog 79 #[.pointer (some ⟨g, 0, none⟩), .slice (some ⟨b, 0, none⟩) 2 c] w (Did lo g D' t ok has w) := by
  have c0 : w.cell? ⟨b, 0, none⟩ = some (.string a) := hb.cell 0
  have c1 : w.cell? ⟨b, 1, none⟩ = some (.string a2) := hb.cell 1
  have hlt := hb.lt
  have HH := hide (fun k => (H k).mono (fun e w' h => Did.undrew h))
  clear hb H
  go_enter Tryz.func79, Tryz.ntmps79
  go_wp2
  go_region_held3 (fun w' => w'.cell? ⟨b, 0, none⟩ = some (.string a) ∧ w'.cell? ⟨b, 1, none⟩ = some (.string a2)) (first | assumption | go_keep) (first | (go_at_call 118; refine (HH.out 1).mono ?_; rintro e w1 ⟨rfl, h1, h2⟩; have K : w1.cell? ⟨b, 0, none⟩ = some (.string a) ∧ w1.cell? ⟨b, 1, none⟩ = some (.string a2) := ⟨(only_cell h2 hlt hne 0).trans c0, (only_cell h2 hlt hne 1).trans c1⟩))
  all_goals
    go_wp2
    go_ret3
    exact ⟨rfl, h1, h2⟩
set_option maxHeartbeats 8000000 in
theorem ca_three {lo g b c : Nat} {a a2 a3 t : ByteArray} {D' : Dk} {ok has : Bool} {w : World} (hne : b ≠ g) (hb : Blk w b 9 #[.string a, .string a2, .string a3]) (H : ∀ k, Calls Tryz.prog 119 #[.pointer (some ⟨g, 0, none⟩), .string a, .string a2, .string a3] (w.drewN k) (Did lo g D' t ok has (w.drewN k))) :
    Calls Tryz.prog 79 #[.pointer (some ⟨g, 0, none⟩), .slice (some ⟨b, 0, none⟩) 3 c] w (Did lo g D' t ok has w) := by
  have c0 : w.cell? ⟨b, 0, none⟩ = some (.string a) := hb.cell 0
  have c1 : w.cell? ⟨b, 1, none⟩ = some (.string a2) := hb.cell 1
  have c2 : w.cell? ⟨b, 2, none⟩ = some (.string a3) := hb.cell 2
  have hlt := hb.lt
  have HH := hide (fun k => (H k).mono (fun e w' h => Did.undrew h))
  clear hb H
  go_enter Tryz.func79, Tryz.ntmps79
  go_wp2
  go_region_held3 (fun w' => w'.cell? ⟨b, 0, none⟩ = some (.string a) ∧ w'.cell? ⟨b, 1, none⟩ = some (.string a2) ∧ w'.cell? ⟨b, 2, none⟩ = some (.string a3)) (first | assumption | go_keep) (first | (go_at_call 119; refine (HH.out 1).mono ?_; rintro e w1 ⟨rfl, h1, h2⟩; have K : w1.cell? ⟨b, 0, none⟩ = some (.string a) ∧ w1.cell? ⟨b, 1, none⟩ = some (.string a2) ∧ w1.cell? ⟨b, 2, none⟩ = some (.string a3) := ⟨(only_cell h2 hlt hne 0).trans c0, (only_cell h2 hlt hne 1).trans c1, (only_cell h2 hlt hne 2).trans c2⟩))
  all_goals
    go_wp2
    go_ret3
    exact ⟨rfl, h1, h2⟩
end Go.Proofs.YtjmpldcnhjgpkaaGreatDoor
