/-
  Two sets of parts: the program's walk.
-/
import Derived.Test.YtlpfnpcnidaijaaDoorPln3
namespace Go.Proofs.YtlpfnpcnidaijaaDoor
open Go.RowKit Mem
set_option linter.unusedVariables false
set_option maxRecDepth 100000

theorem prodI20 {lot bad : Int} (h : lot ≤ 20) (h0 : 0 ≤ bad) (hb : bad ≤ lot) (k j : Int) : chI bad k * chI (lot - bad) j ≤ 1048576 := by
  obtain ⟨b, rfl⟩ := Int.eq_ofNat_of_zero_le h0
  obtain ⟨l, rfl⟩ := Int.eq_ofNat_of_zero_le (show 0 ≤ lot by omega)
  have e : ((l : Int) - b) = ((l - b : Nat) : Int) := by omega
  have h1 := Nat.mul_le_mul (ch_le (n := b) (by omega) k) (ch_le (n := l - b) (by omega) j)
  rw [← Nat.pow_add, show b + (l - b) = l by omega] at h1
  have h2 : 2 ^ l ≤ 2 ^ 20 := Nat.pow_le_pow_right (by decide) (by omega)
  unfold chI
  rw [e, ← Int.natCast_mul]
  omega
theorem accT20 {lot bad : Int} (h : lot ≤ 20) (h0 : 0 ≤ bad) (hb : bad ≤ lot) (size : Int) : ∀ k : Nat, (accT lot bad size k : Int) ≤ k * 1048576
  | 0 => by simp [accT]
  | k + 1 => by
    have ih := accT20 h h0 hb size k
    have h1 := prodI20 h h0 hb k (size - k)
    unfold chI at h1
    rw [← Int.natCast_mul] at h1
    rw [accT]
    push_cast at *
    omega
theorem accI20 {lot bad : Int} (h : lot ≤ 20) (h0 : 0 ≤ bad) (hb : bad ≤ lot) (size : Int) {a : Int} (ha : a ≤ 40) : accI lot bad size a ≤ 42991616 := by
  have := accT20 h h0 hb size (a + 1).toNat
  unfold accI acc
  omega
theorem chI20 {n : Int} (h0 : 0 ≤ n) (h : n ≤ 20) (k : Int) : chI n k ≤ 1048576 := by
  obtain ⟨q, rfl⟩ := Int.eq_ofNat_of_zero_le h0
  have h1 := ch_le (n := q) (by omega) k
  have h2 : 2 ^ q ≤ 2 ^ 20 := Nat.pow_le_pow_right (by decide) (by omega)
  unfold chI
  omega
theorem chI_ne {n k : Int} (h : chI n k ≠ 0) : 0 ≤ k ∧ k ≤ n := by
  rcases Int.lt_or_le k 0 with h1 | h1
  · exact absurd (chI_no (.inl h1)) h
  · rcases Int.lt_or_le n k with h2 | h2
    · exact absurd (chI_no (.inr h2)) h
    · exact ⟨h1, h2⟩
theorem mulI2 {a b A B : Int} (h0 : 0 ≤ a) (h1 : a ≤ A) (h2 : 0 ≤ b) (h3 : b ≤ B) : 0 ≤ a * b ∧ a * b ≤ A * B :=
  ⟨Int.mul_nonneg h0 h2, Int.mul_le_mul h1 h3 h2 (by omega)⟩
def dsW (lot bad asz : Int) (i : Nat) : Int := chI bad i * chI (lot - bad) (asz - i)
def dsTerm (lot bad asz aac bsz bac rej : Int) (i : Nat) : Int :=
  if dsW lot bad asz i = 0 then 0 else if (i : Int) ≤ aac then dsW lot bad asz i * chI (lot - asz) bsz else if (i : Int) < rej then dsW lot bad asz i * accI (lot - asz) (bad - i) bsz (bac - i) else 0
def dsT (lot bad asz aac bsz bac rej : Int) : Nat → Int
  | 0 => 0
  | k + 1 => dsT lot bad asz aac bsz bac rej k + dsTerm lot bad asz aac bsz bac rej k
theorem dsW_ne {lot bad asz : Int} {i : Nat} (h : dsW lot bad asz i ≠ 0) : 0 ≤ bad - i ∧ bad - i ≤ lot - asz := by
  unfold dsW at h
  have h1 := chI_ne (fun e => h (by rw [e, Int.zero_mul]))
  have h2 := chI_ne (n := lot - bad) (k := asz - i) (fun e => h (by rw [e, Int.mul_zero]))
  omega
theorem dsTerm_bd {lot bad asz aac bsz bac rej : Int} {i : Nat} (l2 : lot ≤ 20) (h0 : 0 ≤ bad) (hb : bad ≤ lot) (ha : asz ≤ lot) (ha0 : 0 ≤ asz) (hbac : bac ≤ 40) : 0 ≤ dsTerm lot bad asz aac bsz bac rej i ∧ dsTerm lot bad asz aac bsz bac rej i ≤ 45079976738816 := by
  have w1 : 0 ≤ dsW lot bad asz i := Int.mul_nonneg (chI_nn _ _) (chI_nn _ _)
  have w2 : dsW lot bad asz i ≤ 1048576 := prodI20 l2 h0 hb _ _
  unfold dsTerm
  split
  · omega
  · rename_i hne
    have hw := dsW_ne hne
    split
    · have := mulI2 w1 w2 (chI_nn (lot - asz) bsz) (chI20 (by omega) (by omega) bsz)
      omega
    · split
      · have := mulI2 w1 w2 (accI_nn (lot - asz) (bad - i) bsz (bac - i)) (accI20 (by omega) hw.1 hw.2 bsz (by omega))
        omega
      · omega
theorem dsT_bd {lot bad asz aac bsz bac rej : Int} (l2 : lot ≤ 20) (h0 : 0 ≤ bad) (hb : bad ≤ lot) (ha : asz ≤ lot) (ha0 : 0 ≤ asz) (hbac : bac ≤ 40) : ∀ k : Nat, 0 ≤ dsT lot bad asz aac bsz bac rej k ∧ dsT lot bad asz aac bsz bac rej k ≤ k * 45079976738816
  | 0 => by simp [dsT]
  | k + 1 => by
    have ih := dsT_bd (aac := aac) (bsz := bsz) (rej := rej) l2 h0 hb ha ha0 hbac k
    have := dsTerm_bd (aac := aac) (bsz := bsz) (rej := rej) (i := k) l2 h0 hb ha ha0 hbac
    rw [dsT]
    push_cast
    omega
set_option maxHeartbeats 4000000 in
theorem i_DoubleShare {lot bad asz aac bsz bac rej : Int} {w : World} (h : lotOk lot asz aac = true) (h' : lotOk lot bsz bac = true) (l2 : lot ≤ 20) (h0 : 0 ≤ bad) (hb0 : bad ≤ lot) (hr1 : aac + 1 ≤ rej) (hr2 : rej ≤ asz + 1) (hab : asz + bsz ≤ lot) :
    Calls Tryd.prog 12 #[.int .i64 lot, .int .i64 bad, .agg #[.int .i64 asz, .int .i64 aac], .agg #[.int .i64 bsz, .int .i64 bac], .int .i64 rej] w fun e w' =>
      e = .returned (.tuple #[.int .i64 (redA (dsT lot bad asz aac bsz bac rej (asz + 1).toNat) (chI lot asz * chI (lot - asz) bsz)), .int .i64 (redB (dsT lot bad asz aac bsz bac rej (asz + 1).toNat) (chI lot asz * chI (lot - asz) bsz)), .bool true]) ∧ Below w.heap.size w w' := by
  obtain ⟨r1, r2, r3, r4, r5, r6⟩ := lotOk_rng h
  obtain ⟨s1, s2, s3, s4, s5, s6⟩ := lotOk_rng h'
  have h1 : inB bad 0 lot = true := by unfold inB; simp; omega
  have h2 : inB rej (aac + 1) (asz + 1) = true := by unfold inB; simp; omega
  go_enter Tryd.func12, Tryd.ntmps12
  go_wp2_with fail
  refine (i_isLot h).mono ?_
  rintro e w2 ⟨rfl, hb⟩
  have blkA := ((Blk.new w 26 #[.int .i64 asz, .int .i64 aac]).alloc (.cells #[.int .i64 bsz, .int .i64 bac] 26)).below hb (by simp; omega)
  have blkB := (Blk.new (w.alloc (.cells #[.int .i64 asz, .int .i64 aac] 26)) 26 #[.int .i64 bsz, .int .i64 bac]).below hb (by simp)
  have bel := (((Below.refl w.heap.size w).alloc (Nat.le_refl _) (.cells #[.int .i64 asz, .int .i64 aac] 26)).alloc (by simp) (.cells #[.int .i64 bsz, .int .i64 bac] 26)).trans (hb.mono (by simp; omega))
  simp only [World.size_alloc] at blkB
  have kA0 := blkA.cell 0
  have kA1 := blkA.cell 1
  have kB0 := blkB.cell 0
  have kB1 := blkB.cell 1
  have ltA := blkA.lt
  have ltB := blkB.lt
  clear hb
  go_wp2_with fail
  refine (i_isLot h').mono ?_
  rintro e w3 ⟨rfl, hb⟩
  replace bel := bel.trans (hb.mono bel.size)
  replace blkA := blkA.below hb ltA
  replace blkB := blkB.below hb ltB
  clear kA0 kA1 kB0 kB1 hb
  have kA0 := blkA.cell 0
  have kA1 := blkA.cell 1
  have kB0 := blkB.cell 0
  have kB1 := blkB.cell 1
  clear blkA blkB ltA ltB
  go_wp2_with fail
  refine (i_within _ _ _ _).mono ?_
  rintro e w1 ⟨rfl, rfl⟩
  rw [h1]
  go_wp2_with fail
  refine (i_within _ _ _ _).mono ?_
  rintro e w1 ⟨rfl, rfl⟩
  rw [h2]
  have hmn : ¬ min lot 24 < asz + bsz := by omega
  go_wp2_with fail
  replace kA0 : w3.cell? ⟨w.heap.size, 0, none⟩ = some (.int .i64 asz) := kA0
  replace kA1 : w3.cell? ⟨w.heap.size, 1, none⟩ = some (.int .i64 aac) := kA1
  replace kB0 : w3.cell? ⟨w.heap.size + 1, 0, none⟩ = some (.int .i64 bsz) := kB0
  replace kB1 : w3.cell? ⟨w.heap.size + 1, 1, none⟩ = some (.int .i64 bac) := kB1
  clear hmn h1 h2
  go_loopw [14, 63] (fun s i wr => ∃ k : Nat, (k : Int) ≤ asz + 1 ∧ i = .int .i64 k ∧ s = .int .i64 (dsT lot bad asz aac bsz bac rej k) ∧ Hid (∃ m, wr = w3.drewN m)) (fun _ i _ => (asz + 1).toNat - (intOf i).toNat)
  case atStart => exact ⟨0, by omega, rfl, rfl, hide ⟨0, rfl⟩⟩
  case round =>
    obtain ⟨k, hk, rfl, rfl, hwr⟩ := hrel
    have jA0 : wr.cell? ⟨w.heap.size, 0, none⟩ = some (.int .i64 asz) := by obtain ⟨m, rfl⟩ := hwr.out; exact kA0
    have jA1 : wr.cell? ⟨w.heap.size, 1, none⟩ = some (.int .i64 aac) := by obtain ⟨m, rfl⟩ := hwr.out; exact kA1
    have jB0 : wr.cell? ⟨w.heap.size + 1, 0, none⟩ = some (.int .i64 bsz) := by obtain ⟨m, rfl⟩ := hwr.out; exact kB0
    have jB1 : wr.cell? ⟨w.heap.size + 1, 1, none⟩ = some (.int .i64 bac) := by obtain ⟨m, rfl⟩ := hwr.out; exact kB1
    clear kA0 kA1 kB0 kB1
    obtain ⟨t1, t2⟩ := dsT_bd (aac := aac) (bsz := bsz) (rej := rej) (bac := bac) l2 h0 hb0 r4 (by omega) (by omega) k
    by_cases hk2 : (k : Int) < asz + 1
    · obtain ⟨d1, d2⟩ := dsTerm_bd (aac := aac) (bsz := bsz) (rej := rej) (bac := bac) (i := k) l2 h0 hb0 r4 (by omega) (by omega)
      have v1 : 0 ≤ chI bad k * chI (lot - bad) (asz - k) := Int.mul_nonneg (chI_nn _ _) (chI_nn _ _)
      have v2 : chI bad k * chI (lot - bad) (asz - k) ≤ 1048576 := prodI20 l2 h0 hb0 _ _
      have HS : Hid (dsT lot bad asz aac bsz bac rej (k + 1) = dsT lot bad asz aac bsz bac rej k + dsTerm lot bad asz aac bsz bac rej k) := hide rfl
      have HW : Hid (dsW lot bad asz k = chI bad k * chI (lot - bad) (asz - k)) := hide rfl
      have z1 : IntKind.i64.wrap (lot - bad) = lot - bad := IntWalk.i64_in _ (by omega)
      have z2 : IntKind.i64.wrap (asz - (k : Int)) = asz - (k : Int) := IntWalk.i64_in _ (by omega)
      have z3 : IntKind.i64.wrap (chI bad k * chI (lot - bad) (asz - k)) = chI bad k * chI (lot - bad) (asz - k) := IntWalk.i64_in _ (by omega)
      by_cases hw0 : dsW lot bad asz k = 0
      · have HT : Hid (dsTerm lot bad asz aac bsz bac rej k = 0) := hide (by unfold dsTerm; rw [if_pos hw0])
        have hwz : chI bad k * chI (lot - bad) (asz - k) = 0 := by rw [← HW.out]; exact hw0
        clear hw0
        go_wp2
        go_quiet ((go_at_call 18; exact Calls.quiet_of_same (i_choose (by omega))))
        go_wp2
        go_roundw
        case rel => exact ⟨k + 1, by omega, by go_num, by rw [HS.out, HT.out, Int.add_zero], hide (by obtain ⟨m, rfl⟩ := hwr.out; exact ⟨_, World.drewN_drewN _ _ _⟩)⟩
        case measure => (simp [intOf]; try omega)
      · have hwz : ¬ chI bad k * chI (lot - bad) (asz - k) = 0 := by rw [← HW.out]; exact hw0
        obtain ⟨x1, x2⟩ := dsW_ne hw0
        by_cases ha : (k : Int) ≤ aac
        · have HT : Hid (dsTerm lot bad asz aac bsz bac rej k = chI bad k * chI (lot - bad) (asz - k) * chI (lot - asz) bsz) := hide (by unfold dsTerm; rw [if_neg hw0, if_pos ha, HW.out])
          obtain ⟨y1, y2⟩ := mulI2 v1 v2 (chI_nn (lot - asz) bsz) (chI20 (n := lot - asz) (by omega) (by omega) bsz)
          clear hw0
          go_wp2
          go_quiet ((go_at_call 18; exact Calls.quiet_of_same (i_choose (by omega))))
          clear z1 z2 z3
          go_wp2_with (go_at_call 18; refine (i_choose (by omega)).mono ?_; rintro e w' ⟨rfl, rfl⟩)
          go_roundw
          case rel => exact ⟨k + 1, by omega, by go_num, by rw [HS.out, HT.out], hide (by obtain ⟨m, rfl⟩ := hwr.out; exact ⟨_, World.drewN_drewN _ _ _⟩)⟩
          case measure => (simp [intOf]; try omega)
        · by_cases hr : (k : Int) < rej
          · have HT : Hid (dsTerm lot bad asz aac bsz bac rej k = chI bad k * chI (lot - bad) (asz - k) * accI (lot - asz) (bad - k) bsz (bac - k)) := hide (by unfold dsTerm; rw [if_neg hw0, if_neg ha, if_pos hr, HW.out])
            obtain ⟨y1, y2⟩ := mulI2 v1 v2 (accI_nn (lot - asz) (bad - k) bsz (bac - k)) (accI20 (lot := lot - asz) (by omega) x1 x2 bsz (by omega))
            clear hw0
            go_wp2
            go_quiet ((go_at_call 18; exact Calls.quiet_of_same (i_choose (by omega))))
            clear z1 z2 z3
            go_wp2_with (go_at_call 17; refine (i_accepts (by omega) (by omega) (by omega) (by omega) (by omega) (by omega) (by omega)).mono ?_; rintro e w' ⟨rfl, rfl⟩)
            go_roundw
            case rel => exact ⟨k + 1, by omega, by go_num, by rw [HS.out, HT.out], hide (by obtain ⟨m, rfl⟩ := hwr.out; exact ⟨_, World.drewN_drewN _ _ _⟩)⟩
            case measure => (simp [intOf]; try omega)
          · have HT : Hid (dsTerm lot bad asz aac bsz bac rej k = 0) := hide (by unfold dsTerm; rw [if_neg hw0, if_neg ha, if_neg hr])
            clear hw0
            go_wp2
            go_quiet ((go_at_call 18; exact Calls.quiet_of_same (i_choose (by omega))))
            clear z1 z2 z3
            go_wp2
            go_roundw
            case rel => exact ⟨k + 1, by omega, by go_num, by rw [HS.out, HT.out, Int.add_zero], hide (by obtain ⟨m, rfl⟩ := hwr.out; exact ⟨_, World.drewN_drewN _ _ _⟩)⟩
            case measure => (simp [intOf]; try omega)
    · have hks : k = (asz + 1).toNat := by omega
      have HK := hide hks
      have c1 : 1 ≤ chI lot asz := by
        obtain ⟨L, rfl⟩ := Int.eq_ofNat_of_zero_le (show 0 ≤ lot by omega)
        obtain ⟨S, rfl⟩ := Int.eq_ofNat_of_zero_le (show 0 ≤ asz by omega)
        have := ch_pos (n := L) (k := S) (by omega) (by omega)
        unfold chI; omega
      have c2 : 1 ≤ chI (lot - asz) bsz := by
        obtain ⟨L, hL⟩ := Int.eq_ofNat_of_zero_le (show 0 ≤ lot - asz by omega)
        obtain ⟨S, rfl⟩ := Int.eq_ofNat_of_zero_le (show 0 ≤ bsz by omega)
        rw [hL]
        have := ch_pos (n := L) (k := S) (by omega) (by omega)
        unfold chI; omega
      have c3 := chI20 (n := lot) (by omega) l2 asz
      have c4 := chI20 (n := lot - asz) (by omega) (by omega) bsz
      obtain ⟨y1, y2⟩ := mulI2 (a := chI lot asz) (b := chI (lot - asz) bsz) (by omega) c3 (by omega) c4
      have y3 : 1 ≤ chI lot asz * chI (lot - asz) bsz := by
        have := Int.mul_le_mul c1 c2 (by omega) (by omega)
        omega
      have z3 : IntKind.i64.wrap (chI lot asz * chI (lot - asz) bsz) = chI lot asz * chI (lot - asz) bsz := IntWalk.i64_in _ (by omega)
      clear hks c1 c2 c3 c4
      go_wp2
      go_quiet (first
        | (go_at_call 18; exact Calls.quiet_of_same (i_choose (by omega)))
        | (go_at_call 24; exact Calls.quiet_of (i_reduced t1 (by omega) y3 (by omega))))
      go_wp2
      go_ret3
      refine ⟨by rw [← HK.out]; rfl, ?_⟩
      obtain ⟨m, rfl⟩ := hwr.out
      exact below_drewN (below_drewN bel _) _
end Go.Proofs.YtlpfnpcnidaijaaDoor
