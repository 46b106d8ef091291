/-
  Contracts of FourthRatio: the program's and the reference's.
-/
import Derived.Test.YteabfkgbakoljaaFourP
import Derived.Test.YteabfkgbakoljaaPhZ
namespace Go.Proofs.Yteabfkgbakoljaa
open Go.RowKit Fl Mem
set_option linter.unusedVariables false
set_option maxRecDepth 100000

theorem frD_len (xs : List Nat) : (frD xs).length = xs.length := by simp [frD]
theorem frD_cn (xs : List Nat) : (frD xs).map (cn .f32) = frD xs := by
  unfold frD; rw [List.map_map]; congr 1; funext x; exact cn_fb _ _ _ _
theorem sqs_idem (xs : List Nat) : (sqs xs).map (cn .f32) = sqs xs := by
  unfold sqs; rw [List.map_map]; congr 1; funext x; exact cn_fb _ _ _ _
theorem sqs_told {zs ys : List Nat} (h : zs.map (cn .f32) = ys) (hy : ys.map (cn .f32) = ys) : sqs zs = sqs ys := sqs_cn (h.trans hy.symm)
theorem fmean_told {zs ys : List Nat} (h : zs.map (cn .f32) = ys) : fmean zs = fmean ys := by rw [← fmean_map_cn zs, h]
/-- The first k differences. -/
theorem frD_take {xs : List Nat} {k x : Nat} (m : Nat) (h : xs[k]? = some x) : ((xs.take (k + 1)).map fun x => fb .sub .f32 x m) = ((xs.take k).map fun x => fb .sub .f32 x m) ++ [fb .sub .f32 x m] := by
  rw [take_eq h, List.map_append]; rfl

set_option maxHeartbeats 2000000 in
theorem i_FourthRatio {A : Option Addr} {n c : Nat} {xs : List Nat} {w : World} (h : Reads w w.heap.size 1 A n (fl .f32 xs)) (hn : n ≤ maxLen) :
    Calls Try.prog 30 #[.slice A n c] w fun e w' => ∃ z, e = .returned (.tuple #[.float .f32 z, .bool (frOk xs)]) ∧ Hid (cn .f32 z = frR xs) ∧ Below w.heap.size w w' := by
  have Hl := hide h.map_len
  cases hs : isSig xs with
  | false =>
    have e : frOk xs = false := by unfold frOk frTop; rw [hs]; rfl
    go_enter Try.func30, Try.ntmps30
    go_wp2_with (go_at_call 45; refine (i_IsSignal _ _ _ xs _ _ h hn).mono ?_; rintro e w' ⟨rfl, m', rfl⟩)
    go_ret2
    exact ⟨_, by rw [e]; rfl, hide (by rw [frR, e]; exact cn_zero), (by repeat (first | exact Below.refl _ _ | exact below_drewN (by assumption) _ | refine below_drewN ?_ _ | refine Below.alloc ?_ (by first | (simp; done) | (simp; omega)) _ | assumption))⟩
  | true =>
    have h96 : n ≤ 96 := by rw [← Hl.out]; exact (isSig_len hs).2
    go_enter Try.func30, Try.ntmps30
    go_wp2_with (first
      | (go_at_call 45; refine (i_IsSignal _ _ _ xs _ _ h hn).mono ?_; rintro e w' ⟨rfl, m', rfl⟩)
      | (go_at_call 78; refine (i_meanOfAll (h.drewN _) hn).mono ?_; rintro e w' ⟨z1, rfl, hz1, _, m1, rfl⟩))
    go_loopw [5, 17] (fun v i wr => ∃ (k : Nat) (zs : List Nat), k ≤ n ∧ i = .int .i64 k ∧ Hid (zs.map (cn .f32) = (xs.take k).map fun x => fb .sub .f32 x (fmean xs)) ∧ wr.ownsRow w.heap.size 27 1 v k (fl .f32 zs) ∧ Below w.heap.size w wr) (fun _ i _ => n - (intOf i).toNat)
    case atStart => exact ⟨0, [], Nat.zero_le _, rfl, hide rfl, own_emp rfl (Nat.le_refl _), (by repeat (first | exact Below.refl _ _ | exact below_drewN (by assumption) _ | refine below_drewN ?_ _ | refine Below.alloc ?_ (by first | (simp; done) | (simp; omega)) _ | assumption))⟩
    case round =>
      obtain ⟨k, zs, hk, rfl, hzs, hown, hbel⟩ := hrel
      have Hown := hide hown
      have hsz := hbel.size
      clear hown
      by_cases hlt : k < n
      · obtain ⟨ad, x, rfl, _, hx, hc⟩ := (h.below hbel).map_at hlt
        have HS := hide (frD_take (fmean xs) hx)
        clear hx
        go_wp2_with (at_builtin; refine wpList_append1 rfl (.tmp 21) (.tmp 25) 36 rfl w.heap.size 27 (.float .f32 0) _ 4 info_f32 Try.underlying36 rfl rfl _ _ _ rfl (own_drewN Hown.out _) rfl rfl (by omega) (by omega) (by simp; omega) ?_)
        intro v' w' hown' hb'
        have hbel' : Below w.heap.size w w' := (below_drewN hbel _).trans hb'
        have HT := hide (own_snoc hown')
        clear hown' hb'
        go_wp2
        go_roundw
        case rel => exact ⟨k + 1, _, by omega, by go_num, hide (by rw [HS.out, List.map_append, hzs.out, List.map_singleton, fl_eqr hz1.out]), HT.out, hbel'⟩
        case measure => simp [intOf]; omega
      · obtain rfl : k = n := by omega
        have HD : Hid (zs.map (cn .f32) = frD xs) := hide (by rw [hzs.out, List.take_of_length_le (by rw [Hl.out]; omega)]; rfl)
        obtain ⟨OA, oc, hov⟩ := own_shape Hown.out
        subst hov
        clear hzs
        cases hg : (FloatKind.f32.format.order (frBy xs) 0 == some Ordering.gt) with
        | false =>
          have Hg := hide hg
          clear hg
          go_wp2_with (first
            | (go_at_call 79; refine (i_squares (Reads.of_own Hown.out) (Nat.le_refl _) (by omega)).mono ?_; rintro e w2 ⟨A', c', zs2, rfl, ho, hzs2, hb2⟩)
            | (go_at_call 78; refine (i_meanOfAll (Reads.of_own ho) hn).mono ?_; rintro e w' ⟨z2, rfl, hz2, _, m2, rfl⟩; have Hb : Hid (fb .mul .f32 z2 z2 = frBy xs) := hide (by rw [← fb_cn, hz2.out, fmean_told hzs2.out, sqs_told HD.out (frD_cn xs)]; rfl); have ht : (FloatKind.f32.format.order (fb .mul .f32 z2 z2) 0 == some Ordering.gt) = false := by rw [Hb.out]; exact Hg.out))
          have e : frOk xs = false := by unfold frOk frTop; rw [Hg.out]; simp
          go_ret2
          exact ⟨_, by rw [e]; rfl, hide (by rw [frR, e]; exact cn_zero), below_drewN (hbel.trans (hb2.mono hbel.size)) _⟩
        | true =>
          have Hg := hide hg
          clear hg
          go_wp2_with fail
          refine (i_squares (Reads.of_own Hown.out) (Nat.le_refl _) (by omega)).mono ?_
          rintro e w2 ⟨A', c', zs2, rfl, ho, hzs2, hb2⟩
          go_wp2_with fail
          refine (i_meanOfAll (Reads.of_own ho) hn).mono ?_
          rintro e w' ⟨z2, rfl, hz2, _, m2, rfl⟩
          have Hb : Hid (fb .mul .f32 z2 z2 = frBy xs) := hide (by rw [← fb_cn, hz2.out, fmean_told hzs2.out, sqs_told HD.out (frD_cn xs)]; rfl)
          have ht : (FloatKind.f32.format.order (fb .mul .f32 z2 z2) 0 == some Ordering.gt) = true := by rw [Hb.out]; exact Hg.out
          have Ho := hide ho
          clear ho
          go_wp2_with fail
          refine (i_squares (Reads.drewN (Reads.of_own Ho.out) _) (Nat.le_refl _) (by omega)).mono ?_
          rintro e w3 ⟨A3, c3, zs3, rfl, ho3, hzs3, hb3⟩
          go_wp2_with fail
          refine (i_meanOfAll (Reads.of_own ho3) hn).mono ?_
          rintro e w' ⟨z3, rfl, hz3, _, m3, rfl⟩
          go_wp2_with fail
          have HR : cn .f32 z3 = fmean (sqs (sqs (frD xs))) := by rw [hz3.out, fmean_told hzs3.out, sqs_told hzs2.out (by rw [sqs_told HD.out (frD_cn xs)]; exact sqs_idem _), sqs_told HD.out (frD_cn xs)]
          refine (i_ifFin (R := frV xs) (by rw [cn_flR, ← fb_cn, cn_flR, Hb.out, HR]; rfl)).mono ?_
          rintro e w' ⟨z5, rfl, hz5, m5, rfl⟩
          clear ht HR
          go_wp2
          have e : frOk xs = fin .f32 (frV xs) := by unfold frOk frTop; rw [hs, Hg.out]; rfl
          go_ret2
          exact ⟨_, by rw [e]; rfl, hide (by rw [hz5.out, frR, e]), below_drewN ((below_drewN (hbel.trans (hb2.mono hbel.size)) _).trans (hb3.mono (Nat.le_trans hbel.size hb2.size))) _⟩

theorem fsum_sqs_take {xs : List Nat} {k x : Nat} (m : Nat) (h : xs[k]? = some x) :
    fsum (sqs ((xs.take (k + 1)).map fun x => fb .sub .f32 x m)) = fb .add .f32 (fsum (sqs ((xs.take k).map fun x => fb .sub .f32 x m))) (fb .mul .f32 (fb .sub .f32 x m) (fb .sub .f32 x m)) := by
  rw [frD_take m h, sqs, List.map_append, List.map_singleton, fsum_snoc]; rfl
theorem fsum_sqs2_take {xs : List Nat} {k x : Nat} (m : Nat) (h : xs[k]? = some x) :
    fsum (sqs (sqs ((xs.take (k + 1)).map fun x => fb .sub .f32 x m))) = fb .add .f32 (fsum (sqs (sqs ((xs.take k).map fun x => fb .sub .f32 x m)))) (fb .mul .f32 (fb .mul .f32 (fb .sub .f32 x m) (fb .sub .f32 x m)) (fb .mul .f32 (fb .sub .f32 x m) (fb .sub .f32 x m))) := by
  rw [frD_take m h]
  unfold sqs
  rw [List.map_append, List.map_append, List.map_singleton, List.map_singleton, fsum_snoc]
theorem s_l02AboveR {x R : Nat} {w : World} (hR : cn .f32 x = R) : Calls Try.prog 83 #[.float .f32 x] w fun e w' => e = .returned (.bool (pos R)) ∧ ∃ n, w' = w.drewN n := by
  have := s_l02Above x w
  rwa [← pos_cn x, hR] at this

set_option maxHeartbeats 2000000 in
theorem s_FourthRatio {A : Option Addr} {n c : Nat} {xs : List Nat} {w : World} (h : Reads w w.heap.size 1 A n (fl .f32 xs)) (hn : n ≤ maxLen) :
    Calls Try.prog 31 #[.slice A n c] w fun e w' => ∃ z, e = .returned (.tuple #[.float .f32 z, .bool (frOk xs)]) ∧ Hid (cn .f32 z = frR xs) ∧ Below w.heap.size w w' := by
  have Hl := hide h.map_len
  cases hs : isSig xs with
  | false =>
    have e : frOk xs = false := by unfold frOk frTop; rw [hs]; rfl
    go_enter Try.func31, Try.ntmps31
    go_wp2_with (go_at_call 82; refine (s_l07Signal _ _ _ xs _ _ h hn).mono ?_; rintro e w' ⟨rfl, m', rfl⟩)
    go_ret2
    exact ⟨_, by rw [e]; rfl, hide (by rw [frR, e]; exact cn_zero), (by repeat (first | exact Below.refl _ _ | exact below_drewN (by assumption) _ | refine below_drewN ?_ _ | refine Below.alloc ?_ (by first | (simp; done) | (simp; omega)) _ | assumption))⟩
  | true =>
    have h96 : n ≤ 96 := by rw [← Hl.out]; exact (isSig_len hs).2
    go_enter Try.func31, Try.ntmps31
    go_wp2_with (go_at_call 82; refine (s_l07Signal _ _ _ xs _ _ h hn).mono ?_; rintro e w' ⟨rfl, m', rfl⟩)
    go_loopw [4, 18] (fun s i wr => ∃ k m z : Nat, k ≤ n ∧ i = .int .i64 k ∧ s = .float .f32 z ∧ wr = w.drewN m ∧ Hid (cn .f32 z = fsum (xs.take k))) (fun _ i _ => n - (intOf i).toNat)
    case atStart => exact ⟨0, m', 0, Nat.zero_le _, rfl, rfl, rfl, hide cn_zero⟩
    case round =>
      obtain ⟨k, m, z, hk, rfl, rfl, rfl, hz⟩ := hrel
      by_cases hlt : k < n
      · obtain ⟨ad, x, rfl, _, hx, hc⟩ := h.map_at hlt
        have HS := hide (fsum_take hx)
        clear hx
        go_wp2
        go_roundw
        case rel => exact ⟨k + 1, _, _, by omega, by go_num, rfl, rfl, hide (by rw [HS.out]; exact fl_eql hz.out)⟩
        case measure => simp [intOf]; omega
      · obtain rfl : k = n := by omega
        have Hz : Hid (cn .f32 z = fsum xs) := hide (by rw [hz.out, List.take_of_length_le (by rw [Hl.out]; omega)])
        clear hz
        go_wp2
        go_loopw [7, 8, 35] (fun s t i wr => ∃ j m a b : Nat, j ≤ k ∧ i = .int .i64 j ∧ s = .float .f32 a ∧ t = .float .f32 b ∧ wr = w.drewN m ∧ Hid (cn .f32 a = fsum (sqs ((xs.take j).map fun x => fb .sub .f32 x (fmean xs)))) ∧ Hid (cn .f32 b = fsum (sqs (sqs ((xs.take j).map fun x => fb .sub .f32 x (fmean xs)))))) (fun _ _ i _ => k - (intOf i).toNat)
        case atStart => exact ⟨0, _, 0, 0, Nat.zero_le _, rfl, rfl, rfl, rfl, hide cn_zero, hide cn_zero⟩
        case round =>
          obtain ⟨j, m2, a, b, hj, rfl, rfl, rfl, rfl, ha, hb⟩ := hrel
          have Hm : ∀ W, Hid (cn .f32 (flR .quo .f32 z (floatOfInt .f32 (k : Int)) W) = fmean xs) := fun W => hide (by rw [fl_eql Hz.out, fmean, Hl.out])
          have HM := hide Hm
          clear Hm
          by_cases hjt : j < k
          · obtain ⟨ad, x, rfl, _, hx, hc⟩ := h.map_at hjt
            have HS := hide (fsum_sqs_take (fmean xs) hx)
            have HT := hide (fsum_sqs2_take (fmean xs) hx)
            clear hx
            go_wp2
            go_roundw
            case rel => exact ⟨j + 1, _, _, _, by omega, by go_num, rfl, rfl, rfl, hide (by rw [HS.out]; exact fl_eq ha.out (fl_eq (fl_eqr (HM.out _).out) (fl_eqr (HM.out _).out))), hide (by rw [HT.out]; exact fl_eq hb.out (fl_eq (fl_eq (fl_eqr (HM.out _).out) (fl_eqr (HM.out _).out)) (fl_eq (fl_eqr (HM.out _).out) (fl_eqr (HM.out _).out))))⟩
            case measure => simp [intOf]; omega
          · obtain rfl : j = k := by omega
            have hE : ((xs.take j).map fun x => fb .sub .f32 x (fmean xs)) = frD xs := by rw [List.take_of_length_le (by rw [Hl.out]; omega)]; rfl
            have HA : ∀ W, Hid (cn .f32 (flR .quo .f32 a (floatOfInt .f32 (j : Int)) W) = fmean (sqs (frD xs))) := fun W => hide (by
              rw [fl_eql ha.out, hE]
              show _ = fb .quo .f32 (fsum (sqs (frD xs))) (floatOfInt .f32 ((sqs (frD xs)).length : Int))
              rw [sqs_len, frD_len, Hl.out])
            have HB : ∀ W, Hid (cn .f32 (flR .quo .f32 b (floatOfInt .f32 (j : Int)) W) = fmean (sqs (sqs (frD xs)))) := fun W => hide (by
              rw [fl_eql hb.out, hE]
              show _ = fb .quo .f32 (fsum (sqs (sqs (frD xs)))) (floatOfInt .f32 ((sqs (sqs (frD xs))).length : Int))
              rw [sqs_len, sqs_len, frD_len, Hl.out])
            clear hE
            have HHA := hide HA
            have HHB := hide HB
            clear HA HB ha hb
            go_wp2_with fail
            cases hp : pos (frBy xs) with
            | false =>
              have e : frOk xs = false := by
                cases hf : frOk xs with
                | false => rfl
                | true =>
                  have h1 := frOk_by hf
                  unfold frOk frTop at hf
                  simp only [Bool.and_eq_true] at hf
                  unfold pos at hp
                  rw [h1, hf.1.2] at hp
                  cases hp
              have HE := hide e
              clear e
              refine (s_l02AboveR (R := frBy xs) (fl_eq (HHA.out _).out (HHA.out _).out)).mono ?_
              rintro e w' ⟨rfl, m', rfl⟩
              go_wp2
              go_ret2
              exact ⟨_, (by rw [HE.out] <;> rfl), hide (by rw [frR, HE.out]; exact cn_zero), (by repeat (first | exact Below.refl _ _ | exact below_drewN (by assumption) _ | refine below_drewN ?_ _ | refine Below.alloc ?_ (by first | (simp; done) | (simp; omega)) _ | assumption))⟩
            | true =>
              have e : frOk xs = fin .f32 (frV xs) := by
                unfold pos at hp
                simp only [Bool.and_eq_true] at hp
                unfold frOk frTop
                rw [hs, hp.2]; rfl
              have HE := hide e
              clear e
              refine (s_l02AboveR (R := frBy xs) (fl_eq (HHA.out _).out (HHA.out _).out)).mono ?_
              rintro e w' ⟨rfl, m', rfl⟩
              go_wp2_with fail
              refine (s_l02Num (R := frV xs) (fl_eq (HHB.out _).out (fl_eq (HHA.out _).out (HHA.out _).out))).mono ?_
              rintro e w' ⟨z5, rfl, hz5, m5, rfl⟩
              go_wp2
              go_ret2
              exact ⟨_, (by rw [HE.out] <;> rfl), hide (by rw [hz5.out, frR, HE.out]), (by repeat (first | exact Below.refl _ _ | exact below_drewN (by assumption) _ | refine below_drewN ?_ _ | refine Below.alloc ?_ (by first | (simp; done) | (simp; omega)) _ | assumption))⟩
end Go.Proofs.Yteabfkgbakoljaa
