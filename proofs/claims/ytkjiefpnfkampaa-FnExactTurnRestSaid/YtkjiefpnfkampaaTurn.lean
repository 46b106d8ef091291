/-
  Contracts of TurnMean: the program's and the reference's.
-/
import Derived.Test.YtkjiefpnfkampaaTurnP
import Derived.RegionTactic
import Derived.BigRegion
namespace Go.Proofs.Ytkjiefpnfkampaa
open Go.RowKit Fl Mem
set_option linter.unusedVariables false
set_option maxRecDepth 100000


set_option maxHeartbeats 1000000 in
theorem i_TurnMean {A : Option Addr} {n c : Nat} {xs : List Nat} {p : Int} {w : World} (h : Reads w w.heap.size 1 A n (fl .f32 xs)) (hn : n ≤ maxLen) :
    Calls Try.prog 34 #[.slice A n c, .int .i64 p] w fun e w' => ∃ v zs, e = .returned (.tuple #[v, .bool (turnOk xs p)]) ∧
      w'.ownsRow w.heap.size 31 1 v zs.length (fl .f32 zs) ∧ Hid (zs.map (cn .f32) = turnR xs p) ∧ Below w.heap.size w w' := by
  have Hl := hide h.map_len
  have hm := hn
  unfold maxLen at hm
  have Hok : Hid (turnOk xs p = (isSig xs && inB p 1 (n : Int) && (turnL xs p.toNat).all (fin .f32))) := hide (by rw [turnOk, Hl.out])
  go_enter Try.func34, Try.ntmps34
  go_wp2_with (first | (go_at_call 17; refine (i_IsSignal _ _ _ xs _ _ h hn).mono ?_; rintro e w' ⟨rfl, m', rfl⟩) | (go_at_call 66; refine (i_within _ _ _ _).mono ?_; rintro e w' ⟨rfl, rfl⟩))
  · have h0 : isSig xs = false := by assumption
    have e : turnOk xs p = false := by rw [Hok.out, h0]; rfl
    go_ret2
    exact ⟨_, [], by rw [e]; rfl, own_nil _ _ _ _, hide (by rw [turnR_no e]; rfl), (by repeat (first | exact Below.refl _ _ | exact below_drewN (by assumption) _ | refine below_drewN ?_ _ | refine Below.alloc ?_ (by simp) _ | assumption))⟩
  · have h0 : (!inB p 1 (n : Int)) = true := by assumption
    have e : turnOk xs p = false := by rw [Hok.out]; simp at h0; simp [h0]
    go_ret2
    exact ⟨_, [], by rw [e]; rfl, own_nil _ _ _ _, hide (by rw [turnR_no e]; rfl), (by repeat (first | exact Below.refl _ _ | exact below_drewN (by assumption) _ | refine below_drewN ?_ _ | refine Below.alloc ?_ (by simp) _ | assumption))⟩
  · have h0 : isSig xs = true := by assumption
    have h1 : (!inB p 1 (n : Int)) = false := by assumption
    have hp := inB_iff.1 (show inB p 1 (n : Int) = true by simpa using h1)
    have h96 : n ≤ 96 := by rw [← Hl.out]; exact (isSig_len h0).2
    obtain ⟨q, rfl⟩ := Int.eq_ofNat_of_zero_le (show 0 ≤ p by omega)
    have hq1 : 1 ≤ q := by omega
    have hq2 : q ≤ n := by omega
    have Hok' : Hid (turnOk xs (q : Int) = (turnL xs q).all (fin .f32)) := hide (by rw [Hok.out, h0]; simp at h1; simp [h1])
    try go_simp
    clear h0 h1 hp
    go_loopw [6, 22] (fun v i wr => ∃ (k : Nat) (zs : List Nat), k ≤ q ∧ i = .int .i64 k ∧ Hid (zs.map (cn .f32) = (turnL xs q).take k) ∧ Hid (zs.length = k) ∧ wr.ownsRow w.heap.size 31 1 v k (fl .f32 zs) ∧ Below w.heap.size w wr) (fun _ i _ => q - (intOf i).toNat)
    case atStart => exact ⟨0, [], Nat.zero_le _, rfl, hide (by simp), hide rfl, own_emp (by simp) (by omega), (by repeat (first | exact Below.refl _ _ | exact below_drewN (by assumption) _ | refine below_drewN ?_ _ | refine Below.alloc ?_ (by simp) _ | assumption))⟩
    case round =>
      obtain ⟨k, zs, hk, rfl, hzs, hzl, hown, hbel⟩ := hrel
      rename World => wo
      by_cases hlt : k < q
      · have Hown := hide hown
        have hsz := hbel.size
        clear hown
        go_wp2
        go_loopw [8, 9] (fun pv i wr => ∃ (j : Nat), j < n + q ∧ Hid (j % q = k) ∧ (j < n ∨ q ≤ j) ∧ i = .int .i64 j ∧ Hid ((pickTo xs q k j).length ≤ j) ∧ wr.ownsRow wo.heap.size 31 1 pv (pickTo xs q k j).length (fl .f32 (pickTo xs q k j)) ∧ Below wo.heap.size wo wr) (fun _ i _ => n + q - (intOf i).toNat)
        case atStart => exact ⟨k, by omega, hide (Nat.mod_eq_of_lt hlt), .inl (by omega), rfl, pickTo_len _ _ _ _, by rw [pickTo_start k (Nat.le_refl _) hlt]; exact own_emp rfl (Nat.le_refl _), (by repeat (first | exact Below.refl _ _ | exact below_drewN (by assumption) _ | refine below_drewN ?_ _ | refine Below.alloc ?_ (by simp) _ | assumption))⟩
        case round =>
          obtain ⟨j, hj, hjm, hjq, rfl, hpl, hpown, hpb⟩ := hrel
          have Hpown := hide hpown
          have hpsz := hpb.size
          have hb2 : Below w.heap.size w wr := hbel.trans (hpb.mono hsz)
          clear hpown
          by_cases hjn : j < n
          · obtain ⟨ad, x, rfl, _, hx, hc⟩ := (h.below hb2).map_at hjn
            have Hnx := hide (pickTo_next (by omega) hjm.out hx)
            have HL := hpl.out
            clear hx
            go_wp2_with (at_builtin; refine wpList_append1 rfl (.tmp 34) (.tmp 39) 22 rfl wo.heap.size 31 (.float .f32 0) (.float .f32 x) 4 info_f32 Try.underlying22 rfl rfl _ _ _ rfl Hpown.out rfl rfl (by omega) (by omega) hpsz ?_)
            intro v' w' hown' hb'
            have HT : Hid (w'.ownsRow wo.heap.size 31 1 v' (pickTo xs q k (j + q)).length (fl .f32 (pickTo xs q k (j + q)))) := hide (by rw [Hnx.out, List.length_append]; simpa using hown')
            have hbel' : Below wo.heap.size wo w' := hpb.trans hb'
            clear hown' hb'
            go_wp2
            go_roundw
            case rel => exact ⟨j + q, by omega, hide (by rw [Nat.add_mod_right]; exact hjm.out), .inr (by omega), by go_num, pickTo_len _ _ _ _, HT.out, hbel'⟩
            case measure => simp [intOf]; omega
          · have Hend := hide (pickTo_end (xs := xs) (by omega) hjm.out (by omega) hj (by omega))
            obtain ⟨PA, pc, hpv⟩ := own_shape Hpown.out
            subst hpv
            have HP := hide (Reads.of_own Hpown.out)
            have HL := hpl.out
            have HO := hide (own_below Hown.out hpb)
            go_wp2_with (first | (go_at_call 67; refine (i_meanOfAll HP.out (by simp [maxLen]; omega)).mono ?_; rintro e w' ⟨z, rfl, hz, _, m', rfl⟩) | (at_builtin; refine wpList_append1 rfl (.tmp 41) (.tmp 44) 22 rfl w.heap.size 31 (.float .f32 0) (.float .f32 z) 4 info_f32 Try.underlying22 rfl rfl _ _ _ rfl (own_drewN HO.out _) rfl rfl (by omega) (by omega) (by simp; omega) ?_))
            intro v' w' hown' hb'
            have hbel' : Below w.heap.size w w' := (below_drewN hb2 _).trans hb'
            have HT : Hid (w'.ownsRow w.heap.size 31 1 v' (k + 1) (fl .f32 (zs ++ [z]))) := hide (by simpa using hown')
            clear hown' hb'
            go_wp2
            go_roundw
            case rel => exact ⟨k + 1, zs ++ [z], by omega, by go_num, hide (by rw [turnL_take hlt, List.map_append, hzs.out, List.map_singleton, hz.out, Hend.out, Hl.out]), hide (by rw [List.length_append, hzl.out]; rfl), HT.out, hbel'⟩
            case measure => simp [intOf]; omega
      · obtain rfl : k = q := by omega
        obtain ⟨OA, oc, hov⟩ := own_shape hown
        subst hov
        rename World => wo
        have Hown := hide hown
        have hsz := hbel.size
        have HP := hide (Reads.of_own hown)
        have Hfin : Hid (zs.all (fin .f32) = turnOk xs (k : Int)) := hide (by
          rw [Hok'.out]
          have := hzs.out
          rw [List.take_of_length_le (by rw [turnL_len]; omega)] at this
          have h1 : ∀ l : List Nat, (l.map (cn .f32)).all (fin .f32) = l.all (fin .f32) := by
            intro l
            rw [List.all_map]
            congr 1
            funext x
            exact fin_cn _ _
          rw [← h1, this])
        have Hzs : Hid (zs.map (cn .f32) = turnL xs k) := hide (by
          have := hzs.out
          rwa [List.take_of_length_le (by rw [turnL_len]; omega)] at this)
        clear hown
        cases hok : turnOk xs (k : Int) with
        | true =>
          go_wp2_with (go_at_call 68; refine (i_ifAll_yes HP.out (by simp [maxLen]; omega) (by rw [Hfin.out, hok])).mono ?_; rintro e w' ⟨rfl, m', rfl⟩)
          go_ret2
          exact ⟨_, zs, by rw [hok]; rfl, by rw [hzl.out]; exact own_drewN Hown.out _, hide (by rw [Hzs.out, turnR, if_pos hok]; rfl), below_drewN hbel _⟩
        | false =>
          go_wp2_with (go_at_call 68; refine (i_ifAll_no HP.out (by simp [maxLen]; omega) (by rw [Hfin.out, hok])).mono ?_; rintro e w' ⟨rfl, m', rfl⟩)
          go_ret2
          exact ⟨_, [], by rw [hok]; rfl, own_nil _ _ _ _, hide (by rw [turnR_no hok]; rfl), below_drewN hbel _⟩
end Go.Proofs.Ytkjiefpnfkampaa
