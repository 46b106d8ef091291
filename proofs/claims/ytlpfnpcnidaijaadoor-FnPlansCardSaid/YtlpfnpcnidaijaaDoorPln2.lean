/-
  Curves of plans, and how many parts are looked at: the program's walks.
-/
import Derived.Test.YtlpfnpcnidaijaaDoorPln
import Derived.Test.YtlpfnpcnidaijaaDoorHelq
namespace Go.Proofs.YtlpfnpcnidaijaaDoor
open Go.RowKit Mem
set_option linter.unusedVariables false
set_option maxRecDepth 100000

def curveL (lot sz ac : Int) (k : Nat) : List Int := (List.range k).map fun b => accI lot (b : Nat) sz ac
theorem curveL_len (lot sz ac : Int) (k : Nat) : (curveL lot sz ac k).length = k := by simp [curveL]
theorem curveL_succ (lot sz ac : Int) (k : Nat) : curveL lot sz ac (k + 1) = curveL lot sz ac k ++ [accI lot (k : Nat) sz ac] := by simp [curveL, List.range_succ]
theorem curveL_at {lot sz ac : Int} {k b : Nat} (h : b < k) : (curveL lot sz ac k)[b]? = some (accI lot (b : Nat) sz ac) := by simp [curveL, h]
set_option maxHeartbeats 2000000 in
theorem i_AcceptCurve {L : Nat} {sz ac : Int} {w : World} (h : lotOk L sz ac = true) :
    Calls Tryd.prog 6 #[.int .i64 (L : Int), .agg #[.int .i64 sz, .int .i64 ac]] w fun e w' => ∃ v, e = .returned (.tuple #[v, .int .i64 (chI L sz), .bool true]) ∧ w'.ownsRow w.heap.size 2 1 v (L + 1) (il (curveL L sz ac (L + 1))) ∧ Below w.heap.size w w' := by
  obtain ⟨r1, r2, r3, r4, r5, r6⟩ := lotOk_rng h
  go_enter Tryd.func6, Tryd.ntmps6
  go_wp2_with fail
  refine (i_isLot h).mono ?_
  rintro e w2 ⟨rfl, hb⟩
  have blk := (Blk.new w 26 #[.int .i64 sz, .int .i64 ac]).below hb (by simp)
  have bel := ((Below.refl w.heap.size w).alloc (Nat.le_refl _) (.cells #[.int .i64 sz, .int .i64 ac] 26)).trans (hb.mono (by simp))
  have hlt := blk.lt
  have Hblk := hide blk
  have hsz := bel.size
  clear hb blk
  go_wp2_with fail
  go_loopw [7, 16] (fun out i wr => ∃ k : Nat, k ≤ L + 1 ∧ i = .int .i64 k ∧ Hid (wr.ownsRow w2.heap.size 2 1 out k (il (curveL L sz ac k))) ∧ Below w2.heap.size w2 wr) (fun _ i _ => L + 1 - (intOf i).toNat)
  case atStart => exact ⟨0, Nat.zero_le _, rfl, hide (World.ownsRow_made _ _ _ (Nat.le_refl _) (by simp [maxLen]) (by simp)), (Below.refl _ _).alloc (Nat.le_refl _) _⟩
  case round =>
    obtain ⟨k, hk, rfl, hown, hbel⟩ := hrel
    have c0 := (hbel.cell (p := ⟨w.heap.size, 0, none⟩) hlt).trans (Hblk.out.cell 0)
    have c1 := (hbel.cell (p := ⟨w.heap.size, 1, none⟩) hlt).trans (Hblk.out.cell 1)
    by_cases hlt2 : k < L + 1
    · have HS := hide (curveL_succ L sz ac k)
      go_wp2_with (first
        | (go_at_call 17; refine (i_accepts (by omega) (by omega) (by omega) (by omega) (by omega) (by omega) (by omega)).mono ?_; rintro e w' ⟨rfl, rfl⟩)
        | (at_builtin; refine wpList_append1 rfl (.tmp 19) (.tmp 27) 27 rfl w2.heap.size 2 (.int .i64 0) _ 8 info_i64 Tryd.underlying27 rfl rfl _ _ _ rfl hown.out rfl rfl (by omega) (by omega) hbel.size ?_))
      intro v' w' hown' hb'
      have hbel' := hbel.trans hb'
      have HO : Hid (w'.ownsRow w2.heap.size 2 1 v' (k + 1) (il (curveL L sz ac (k + 1)))) := hide (by rw [HS.out]; simpa using hown')
      clear hown' hb' c0 c1
      go_wp2
      go_roundw
      case rel => exact ⟨k + 1, by omega, by go_num, HO, hbel'⟩
      case measure => (simp [intOf]; try omega)
    · obtain rfl : k = L + 1 := by omega
      go_wp2_with (go_at_call 18; refine (i_choose (by omega)).mono ?_; rintro e w' ⟨rfl, rfl⟩)
      go_ret3
      refine ⟨_, rfl, ?_, bel.trans (hbel.mono hsz)⟩
      obtain ⟨h1, h2⟩ := hown.out
      refine ⟨h1, ?_⟩
      rcases h2 with h2 | ⟨g, cap, cur, hv, hb, h3⟩
      · exact .inl h2
      · exact .inr ⟨g, cap, cur, hv, Nat.le_trans hsz hb, h3⟩
/-- How many parts are looked at, over all places of the bad ones. -/
def mlT (lot bad ac : Int) : Nat → Int
  | 0 => 0
  | k + 1 => mlT lot bad ac k + accI lot (k : Nat) bad ac
theorem mlT_bd {lot bad ac : Int} (h : lot ≤ 40) (ha : ac ≤ 40) : ∀ k : Nat, (k : Int) ≤ lot + 1 → 0 ≤ mlT lot bad ac k ∧ mlT lot bad ac k ≤ k * 45079976738816
  | 0, _ => by simp [mlT]
  | k + 1, hk => by
    have ih := mlT_bd (bad := bad) h ha k (by omega)
    have h1 := accI_nn lot (k : Nat) bad ac
    have h2 := accI_le (lot := lot) (bad := (k : Nat)) h (by omega) (by omega) bad ha
    rw [mlT]
    push_cast
    omega
set_option maxHeartbeats 2000000 in
theorem i_MeanLooks {lot bad sz ac : Int} {w : World} (h : lotOk lot sz ac = true) (h0 : 0 ≤ bad) (hb0 : bad ≤ lot) :
    Calls Tryd.prog 10 #[.int .i64 lot, .int .i64 bad, .agg #[.int .i64 sz, .int .i64 ac]] w fun e w' => e = .returned (.tuple #[.int .i64 (redA (mlT lot bad ac sz.toNat) (chI lot bad)), .int .i64 (redB (mlT lot bad ac sz.toNat) (chI lot bad)), .bool true]) ∧ Below w.heap.size w w' := by
  obtain ⟨r1, r2, r3, r4, r5, r6⟩ := lotOk_rng h
  have h1 : inB bad 0 lot = true := by unfold inB; simp; omega
  have c1 : 1 ≤ chI lot bad := by
    obtain ⟨L, rfl⟩ := Int.eq_ofNat_of_zero_le (show 0 ≤ lot by omega)
    obtain ⟨S, rfl⟩ := Int.eq_ofNat_of_zero_le h0
    have := ch_pos (n := L) (k := S) (by omega) (by omega)
    unfold chI; omega
  have c2 := chI_le (n := lot) (by omega) r2 bad
  go_enter Tryd.func10, Tryd.ntmps10
  go_wp2_with fail
  refine (i_isLot h).mono ?_
  rintro e w2 ⟨rfl, hb⟩
  have blk := (Blk.new w 26 #[.int .i64 sz, .int .i64 ac]).below hb (by simp)
  have bel := ((Below.refl w.heap.size w).alloc (Nat.le_refl _) (.cells #[.int .i64 sz, .int .i64 ac] 26)).trans (hb.mono (by simp))
  have k0 := blk.cell 0
  have k1 := blk.cell 1
  clear hb blk
  go_wp2_with fail
  refine (i_within _ _ _ _).mono ?_
  rintro e w1 ⟨rfl, rfl⟩
  rw [h1]
  go_wp2_with fail
  go_loopw [9, 25] (fun s i wr => ∃ k : Nat, (k : Int) ≤ sz ∧ i = .int .i64 k ∧ s = .int .i64 (mlT lot bad ac k) ∧ wr = w2) (fun _ i _ => sz.toNat - (intOf i).toNat)
  case atStart => exact ⟨0, by omega, rfl, rfl, rfl⟩
  case round =>
    obtain ⟨k, hk, rfl, rfl, rfl⟩ := hrel
    have hbd := mlT_bd (bad := bad) r2 (ac := ac) (by omega) k (by omega)
    by_cases hlt2 : (k : Int) < sz
    · have HS : Hid (mlT lot bad ac (k + 1) = mlT lot bad ac k + accI lot (k : Nat) bad ac) := hide rfl
      have a1 := accI_nn lot (k : Nat) bad ac
      have a2 := accI_le (lot := lot) (bad := (k : Nat)) r2 (by omega) (by omega) bad (a := ac) (by omega)
      obtain ⟨b1, b2⟩ := hbd
      go_wp2_with (go_at_call 17; refine (i_accepts (by omega) (by omega) (by omega) (by omega) (by omega) (by omega) (by omega)).mono ?_; rintro e w' ⟨rfl, rfl⟩)
      go_roundw
      case rel => exact ⟨k + 1, by omega, by go_num, by rw [HS.out], trivial⟩
      case measure => (simp [intOf]; try omega)
    · have hks : k = sz.toNat := by omega
      have hkI : ¬ (k : Int) < sz := hlt2
      have HK := hide hks
      obtain ⟨b1, b2⟩ := hbd
      clear hks
      go_wp2_with (first
        | (go_at_call 18; refine (i_choose r2).mono ?_; rintro e w' ⟨rfl, rfl⟩)
        | (go_at_call 24; refine (i_reduced (by omega) (by omega) c1 (by omega)).mono ?_; rintro e w' ⟨rfl, m, rfl⟩))
      go_ret3
      exact ⟨by rw [← HK.out]; rfl, below_drewN bel _⟩
end Go.Proofs.YtlpfnpcnidaijaaDoor
