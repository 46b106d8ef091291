/-
  Contracts of PeakRatio: the program's and the reference's.
-/
import Derived.Test.YteabfkgbakoljaaRoot
import Derived.Test.YteabfkgbakoljaaMax
import Derived.BigGuardPart
import Derived.RegionTactic
import Derived.BigRegion
namespace Go.Proofs.Yteabfkgbakoljaa
open Go.RowKit Fl Mem
set_option linter.unusedVariables false
set_option maxRecDepth 100000

theorem i_absolute (x : Nat) (w : World) : Calls Try.prog 66 #[.float .f32 x] w fun e w' => ∃ z, e = .returned (.float .f32 z) ∧ Hid (cn .f32 z = mm true .f32 x (Op.negFloat .f32 x)) ∧ ∃ m, w' = w.drewN m := by
  go_enter Try.func66, Try.ntmps66
  go_wp2
  go_ret
  exact ⟨_, rfl, hide (cn_mmR _ _ _ _ _), _, rfl⟩

/-- What PeakRatio returns. -/
def prTop (xs : List Nat) : Bool := rpOk xs && (FloatKind.f32.format.order (rpR xs) 0 == some .gt)
def prVal (xs : List Nat) : Nat := fb .quo .f32 (peakTo xs) (rpR xs)
def prOk (xs : List Nat) : Bool := prTop xs && fin .f32 (prVal xs)
def prR (xs : List Nat) : Nat := if prOk xs = true then prVal xs else 0
theorem rp_fin {xs : List Nat} (h : rpOk xs = true) : isSig xs = true := by unfold rpOk at h; simp at h; exact h.1
theorem sig_fin {xs : List Nat} (h : isSig xs = true) : xs.all (fin .f32) = true := by unfold isSig at h; simp only [Bool.and_eq_true] at h; exact h.2

theorem all_take {xs : List Nat} (h : xs.all (fin .f32) = true) {k x : Nat} (hx : xs[k]? = some x) : (xs.take k).all (fin .f32) = true ∧ fin .f32 x = true := by
  rw [List.all_eq_true] at h
  exact ⟨List.all_eq_true.2 fun y hy => h y (List.mem_of_mem_take hy), h x (List.mem_of_getElem? hx)⟩

set_option maxHeartbeats 1000000 in
theorem i_PeakRatio {A : Option Addr} {n c : Nat} {xs : List Nat} {w : World} (h : Reads w w.heap.size 1 A n (fl .f32 xs)) (hn : n ≤ maxLen) :
    Calls Try.prog 28 #[.slice A n c] w fun e w' => ∃ z, e = .returned (.tuple #[.float .f32 z, .bool (prOk xs)]) ∧ Hid (cn .f32 z = prR xs) ∧ Below w.heap.size w w' := by
  have Hl := hide h.map_len
  cases hr : rpOk xs with
  | false =>
    have e : prOk xs = false := by unfold prOk prTop; rw [hr]; rfl
    go_enter Try.func28, Try.ntmps28
    go_wp2_with (go_at_call 27; refine (i_RootPower h hn).mono ?_; rintro e w' ⟨z, rfl, hz, hb⟩; rw [hr])
    go_ret2
    exact ⟨_, by rw [e]; rfl, hide (by rw [prR, e]; exact cn_zero), (by repeat (first | exact Below.refl _ _ | exact below_drewN (by assumption) _ | refine below_drewN ?_ _ | refine Below.alloc ?_ (by first | (simp; done) | (simp; omega)) _ | assumption))⟩
  | true =>
    have h96 : n ≤ 96 := by rw [← Hl.out]; exact (isSig_len (rp_fin hr)).2
    have Hf := hide (sig_fin (rp_fin hr))
    cases hg : (FloatKind.f32.format.order (rpR xs) 0 == some .gt) with
    | false =>
      have e : prOk xs = false := by unfold prOk prTop; rw [hg, Bool.and_false]; rfl
      go_enter Try.func28, Try.ntmps28
      go_wp2_with (go_at_call 27; refine (i_RootPower h hn).mono ?_; rintro e w' ⟨z, rfl, hz, hb⟩; rw [hr]; rw [← hz.out, order_cnl] at hg)
      go_ret2
      exact ⟨_, by rw [e]; rfl, hide (by rw [prR, e]; exact cn_zero), (by repeat (first | exact Below.refl _ _ | exact below_drewN (by assumption) _ | refine below_drewN ?_ _ | refine Below.alloc ?_ (by first | (simp; done) | (simp; omega)) _ | assumption))⟩
    | true =>
      have HR : Hid (prOk xs = fin .f32 (prVal xs)) := hide (by unfold prOk prTop; rw [hr, hg]; rfl)
      go_enter Try.func28, Try.ntmps28
      go_wp2_with (go_at_call 27; refine (i_RootPower h hn).mono ?_; rintro e w1 ⟨z, rfl, hz, hb⟩; rw [hr]; rw [← hz.out, order_cnl] at hg)
      clear hr hg
      go_loopw [6, 23] (fun s i wr => ∃ k m p : Nat, k ≤ n ∧ i = .int .i64 k ∧ s = .float .f32 p ∧ wr = w1.drewN m ∧ Hid (cn .f32 p = peakTo (xs.take k))) (fun _ i _ => n - (intOf i).toNat)
      case atStart => exact ⟨0, 0, 0, Nat.zero_le _, rfl, rfl, rfl, hide cn_zero⟩
      case round =>
        obtain ⟨k, m, p, hk, rfl, rfl, rfl, hp⟩ := hrel
        by_cases hlt : k < n
        · obtain ⟨ad, x, rfl, _, hx, hc⟩ := (h.below hb).map_at hlt
          have HS := hide (show peakTo (xs.take (k + 1)) = _ by rw [take_eq hx, peakTo_snoc])
          clear hx
          go_wp2_with (go_at_call 66; refine (i_absolute _ _).mono ?_; rintro e w' ⟨z1, rfl, hz1, m1, rfl⟩)
          go_roundw
          case rel => exact ⟨k + 1, _, _, by omega, by go_num, rfl, rfl, hide (by rw [HS.out, cn_mmR, ← mm_cnl, hp.out, ← mm_cnr, hz1.out])⟩
          case measure => simp [intOf]; omega
        · obtain rfl : k = n := by omega
          go_wp2_with (go_at_call 57; refine (i_ifFin (R := prVal xs) (by rw [cn_flR, prVal, ← fb_cn, hp.out, hz.out, List.take_of_length_le (by rw [Hl.out]; omega), ← fb_cn, ← fb_cn, ← hz.out, cn_cn, fb_cnr, fb_cn])).mono ?_; rintro e w' ⟨z5, rfl, hz5, m5, rfl⟩)
          go_ret2
          exact ⟨_, by rw [HR.out]; rfl, hide (by rw [hz5.out, prR, HR.out]), (by repeat (first | exact Below.refl _ _ | exact below_drewN (by assumption) _ | refine below_drewN ?_ _ | refine Below.alloc ?_ (by first | (simp; done) | (simp; omega)) _ | assumption))⟩

set_option maxHeartbeats 1000000 in
theorem s_PeakRatio {A : Option Addr} {n c : Nat} {xs : List Nat} {w : World} (h : Reads w w.heap.size 1 A n (fl .f32 xs)) (hn : n ≤ maxLen) :
    Calls Try.prog 29 #[.slice A n c] w fun e w' => ∃ z, e = .returned (.tuple #[.float .f32 z, .bool (prOk xs)]) ∧ Hid (cn .f32 z = prR xs) ∧ Below w.heap.size w w' := by
  have Hl := hide h.map_len
  cases hr : rpOk xs with
  | false =>
    have e : prOk xs = false := by unfold prOk prTop; rw [hr]; rfl
    go_enter Try.func29, Try.ntmps29
    go_wp2_with (go_at_call 80; refine (s_RootPower h hn).mono ?_; rintro e w' ⟨z, rfl, hz, hb⟩; rw [hr])
    go_ret2
    exact ⟨_, by rw [e]; rfl, hide (by rw [prR, e]; exact cn_zero), (by repeat (first | exact Below.refl _ _ | exact below_drewN (by assumption) _ | refine below_drewN ?_ _ | refine Below.alloc ?_ (by first | (simp; done) | (simp; omega)) _ | assumption))⟩
  | true =>
    have h96 : n ≤ 96 := by rw [← Hl.out]; exact (isSig_len (rp_fin hr)).2
    have Hf := hide (sig_fin (rp_fin hr))
    cases hg : (FloatKind.f32.format.order (rpR xs) 0 == some .gt) with
    | false =>
      have e : prOk xs = false := by unfold prOk prTop; rw [hg, Bool.and_false]; rfl
      go_enter Try.func29, Try.ntmps29
      go_wp2_with (go_at_call 80; refine (s_RootPower h hn).mono ?_; rintro e w' ⟨z, rfl, hz, hb⟩; rw [hr]; rw [← hz.out, order_cnl] at hg)
      go_ret2
      exact ⟨_, by rw [e]; rfl, hide (by rw [prR, e]; exact cn_zero), (by repeat (first | exact Below.refl _ _ | exact below_drewN (by assumption) _ | refine below_drewN ?_ _ | refine Below.alloc ?_ (by first | (simp; done) | (simp; omega)) _ | assumption))⟩
    | true =>
      have HR : Hid (prOk xs = fin .f32 (prVal xs)) := hide (by unfold prOk prTop; rw [hr, hg]; rfl)
      go_enter Try.func29, Try.ntmps29
      go_wp2_with (go_at_call 80; refine (s_RootPower h hn).mono ?_; rintro e w1 ⟨z, rfl, hz, hb⟩; rw [hr]; rw [← hz.out, order_cnl] at hg)
      clear hr hg
      go_loopw [6, 22] (fun s i wr => ∃ k m p : Nat, k ≤ n ∧ i = .int .i64 k ∧ s = .float .f32 p ∧ wr = w1.drewN m ∧ Hid (cn .f32 p = peakTo (xs.take k))) (fun _ i _ => n - (intOf i).toNat)
      case atStart => exact ⟨0, 0, 0, Nat.zero_le _, rfl, rfl, rfl, hide cn_zero⟩
      case round =>
        obtain ⟨k, m, p, hk, rfl, rfl, rfl, hp⟩ := hrel
        by_cases hlt : k < n
        · obtain ⟨ad, x, rfl, _, hx, hc⟩ := (h.below hb).map_at hlt
          have hfin := all_take Hf.out hx
          have HS := hide (show peakTo (xs.take (k + 1)) = _ by rw [take_eq hx, peakTo_snoc' hfin.1 hfin.2])
          clear hx hfin
          go_wp2
          go_region
          go_wp2
          go_roundw
          case rel => exact ⟨k + 1, _, _, by omega, by go_num, rfl, rfl, hide (by rw [HS.out, cn_mmR, ← mm_cnl, cn_mmR, ← mm_cnl (mx := true) (x := p), hp.out])⟩
          case measure => simp [intOf]; omega
        · obtain rfl : k = n := by omega
          go_wp2_with (go_at_call 81; refine (s_l02Num (R := prVal xs) (by rw [cn_flR, prVal, ← fb_cn, hp.out, hz.out, List.take_of_length_le (by rw [Hl.out]; omega), ← fb_cn, ← fb_cn, ← hz.out, cn_cn, fb_cnr, fb_cn])).mono ?_; rintro e w' ⟨z5, rfl, hz5, m5, rfl⟩)
          go_ret2
          exact ⟨_, by rw [HR.out]; rfl, hide (by rw [hz5.out, prR, HR.out]), (by repeat (first | exact Below.refl _ _ | exact below_drewN (by assumption) _ | refine below_drewN ?_ _ | refine Below.alloc ?_ (by first | (simp; done) | (simp; omega)) _ | assumption))⟩
end Go.Proofs.Yteabfkgbakoljaa
