/-
  Contracts of CapabilityOf: the program's and the reference's.
-/
import Derived.Test.YtolbibpmngmpdaaRoot
import Derived.Test.YtolbibpmngmpdaaTold
import Derived.Test.YtolbibpmngmpdaaCapP
import Derived.BigGuardPart
namespace Go.Proofs.Ytolbibpmngmpdaa
open Go.RowKit Fl Mem
set_option linter.unusedVariables false
set_option maxRecDepth 100000

/-- How much the numbers differ from m. -/
def devTo (xs : List Nat) (m : Nat) : Nat := xs.foldl (fun s x => fb .add .f32 s (fb .mul .f32 (fb .sub .f32 x m) (fb .sub .f32 x m))) 0
theorem devTo_snoc (xs : List Nat) (m x : Nat) : devTo (xs ++ [x]) m = fb .add .f32 (devTo xs m) (fb .mul .f32 (fb .sub .f32 x m) (fb .sub .f32 x m)) := by unfold devTo; rw [List.foldl_append]; rfl
def capS (xs : List Nat) : Nat := rootOf (fb .quo .f32 (devTo xs (fmean xs)) (floatOfInt .f32 ((xs.length : Int) - 1)))
def capW (xs : List Nat) (lo hi : Nat) : Nat := fb .quo .f32 (fb .sub .f32 hi lo) (fb .mul .f32 1086324736 (capS xs))
def capN (xs : List Nat) (lo hi : Nat) : Nat := fb .quo .f32 (mm false .f32 (fb .sub .f32 hi (fmean xs)) (fb .sub .f32 (fmean xs) lo)) (fb .mul .f32 1077936128 (capS xs))
def capTop (xs : List Nat) (lo hi : Nat) : Bool := isToldL xs && decide (2 ≤ xs.length) && fin .f32 lo && fin .f32 hi && (FloatKind.f32.format.order lo hi == some .lt)
def capOk (xs : List Nat) (lo hi : Nat) : Bool := capTop xs lo hi && pos (capS xs) && fin .f32 (capW xs lo hi) && fin .f32 (capN xs lo hi)
def capA (xs : List Nat) (lo hi : Nat) : Nat := if capOk xs lo hi = true then capW xs lo hi else 0
def capB (xs : List Nat) (lo hi : Nat) : Nat := if capOk xs lo hi = true then capN xs lo hi else 0
theorem less_one : ∀ n : Nat, n ≤ 256 → fb .sub .f32 (floatOfInt .f32 (n : Int)) 1065353216 = floatOfInt .f32 ((n : Int) - 1) := by
  intro n hn
  have h : ((List.range 257).all fun n => fb .sub .f32 (floatOfInt .f32 (n : Int)) 1065353216 == floatOfInt .f32 ((n : Int) - 1)) = true := by decide +kernel
  have := List.all_eq_true.1 h n (by simp; omega)
  simpa using this

theorem below_al {w : World} {B : Nat} (h : B ≤ w.heap.size) (o : Obj) : Below B w (w.alloc o) := (Below.refl _ _).alloc h o

theorem mm_eq2 {mx : Bool} {k : FloatKind} {x y a b : Nat} {w : World} (hx : cn k x = a) (hy : cn k y = b) : cn k (mmR mx k x y w) = mm mx k a b := by rw [cn_mmR, ← mm_cnl, ← mm_cnr, hx, hy]

set_option maxHeartbeats 1000000 in
theorem i_CapabilityOf {A : Option Addr} {n c : Nat} {xs : List Nat} {lo hi : Nat} {w : World} (h : Reads w w.heap.size 1 A n (fl .f32 xs)) (hn : n ≤ maxLen) :
    Calls Try.prog 21 #[.slice A n c, .float .f32 lo, .float .f32 hi] w fun e w' => ∃ z1 z2, e = .returned (.tuple #[.float .f32 z1, .float .f32 z2, .bool (capOk xs lo hi)]) ∧ Hid (cn .f32 z1 = capA xs lo hi) ∧ Hid (cn .f32 z2 = capB xs lo hi) ∧ Below w.heap.size w w' := by
  have Hl := hide h.map_len
  have Htop : Hid (capTop xs lo hi = (isToldL xs && decide (2 ≤ n) && fin .f32 lo && fin .f32 hi && (FloatKind.f32.format.order lo hi == some .lt))) := hide (by rw [capTop, Hl.out])
  go_enter Try.func21, Try.ntmps21
  go_wp2_with (first | (go_at_call 63; refine (i_isTold _ _ _ xs _ _ h hn).mono ?_; rintro e w' ⟨rfl, m', rfl⟩) | (go_at_call 69; refine (i_areFinite _ _ _ [lo, hi] _ _ (reads_new (Value.float .f32) _ _ [lo, hi]) (by simp [maxLen])).mono ?_; rintro e w' ⟨rfl, m2, rfl⟩) | (go_at_call 72; refine (i_addUp (B := w.heap.size) (xs := xs) (by repeat (first | assumption | apply Reads.drewN | refine Reads.alloc ?_ (by simp) _)) hn).mono ?_; rintro e w' ⟨z1, rfl, hz1, _, m3, rfl⟩))
  · have h0 : isToldL xs = false := by assumption
    have e : capOk xs lo hi = false := by unfold capOk; rw [Htop.out, h0]; simp
    go_ret3
    exact ⟨_, _, by rw [e]; rfl, hide (by rw [capA, e]; exact cn_zero), hide (by rw [capB, e]; exact cn_zero), (by repeat (first | exact Below.refl _ _ | exact below_drewN (by assumption) _ | refine below_drewN ?_ _ | refine Below.alloc ?_ (by first | (simp; done) | (simp; omega)) _ | assumption))⟩
  · have h0 : (n : Int) < 2 := by assumption
    have e : capOk xs lo hi = false := by unfold capOk; rw [Htop.out, decide_eq_false (show ¬ 2 ≤ n by omega)]; simp
    go_ret3
    exact ⟨_, _, by rw [e]; rfl, hide (by rw [capA, e]; exact cn_zero), hide (by rw [capB, e]; exact cn_zero), (by repeat (first | exact Below.refl _ _ | exact below_drewN (by assumption) _ | refine below_drewN ?_ _ | refine Below.alloc ?_ (by first | (simp; done) | (simp; omega)) _ | assumption))⟩
  · have h0 : fin .f32 lo = false ∨ fin .f32 hi = false := by assumption
    have e : capOk xs lo hi = false := by unfold capOk; rw [Htop.out]; rcases h0 with h0 | h0 <;> simp [h0]
    go_ret3
    exact ⟨_, _, by rw [e]; rfl, hide (by rw [capA, e]; exact cn_zero), hide (by rw [capB, e]; exact cn_zero), (by repeat (first | exact Below.refl _ _ | exact below_drewN (by assumption) _ | refine below_drewN ?_ _ | refine Below.alloc ?_ (by first | (simp; done) | (simp; omega)) _ | assumption))⟩
  · have h0 : (!FloatKind.f32.format.order lo hi == some Ordering.lt) = true := by assumption
    have e : capOk xs lo hi = false := by unfold capOk; rw [Htop.out]; simp at h0; simp [h0]
    go_ret3
    exact ⟨_, _, by rw [e]; rfl, hide (by rw [capA, e]; exact cn_zero), hide (by rw [capB, e]; exact cn_zero), (by repeat (first | exact Below.refl _ _ | exact below_drewN (by assumption) _ | refine below_drewN ?_ _ | refine Below.alloc ?_ (by first | (simp; done) | (simp; omega)) _ | assumption))⟩
  · have h0 : isToldL xs = true := by assumption
    have h1 : fin .f32 lo = true ∧ fin .f32 hi = true := by assumption
    have h2 : (!FloatKind.f32.format.order lo hi == some Ordering.lt) = false := by assumption
    have h3 : (2 : Int) ≤ (n : Int) := by assumption
    have e0 : Hid (capTop xs lo hi = true) := hide (by rw [Htop.out, h0, h1.1, h1.2, decide_eq_true (show 2 ≤ n by omega)]; simp at h2; simp [h2])
    have hlen := told_len h0
    rw [Hl.out] at hlen
    generalize hM : flR BinOp.quo .f32 z1 (floatOfInt .f32 (n : Int)) _ = mw
    have Hm : Hid (cn .f32 mw = fmean xs) := hide (by rw [← hM, cn_flR, ← fb_cnl, hz1.out, fmean, Hl.out])
    clear hM
    generalize hW : World.drewN (World.alloc _ _) _ = w1
    have hb1 : Below w.heap.size w w1 := by rw [← hW]; exact (by repeat (first | exact Below.refl _ _ | exact below_drewN (by assumption) _ | refine below_drewN ?_ _ | refine Below.alloc ?_ (by first | (simp; done) | (simp; omega)) _ | assumption))
    clear hW hz1 h0 h2
    go_loopw [11, 47] (fun s i wr => ∃ k m z : Nat, k ≤ n ∧ i = .int .i64 k ∧ s = .float .f32 z ∧ wr = w1.drewN m ∧ Hid (cn .f32 z = devTo (xs.take k) (fmean xs))) (fun _ i _ => n - (intOf i).toNat)
    case atStart => exact ⟨0, 0, 0, Nat.zero_le _, rfl, rfl, rfl, hide cn_zero⟩
    case round =>
      obtain ⟨k, m, z, hk, rfl, rfl, rfl, hz⟩ := hrel
      by_cases hlt : k < n
      · obtain ⟨ad, x, rfl, _, hx, hc⟩ := (h.below hb1).map_at hlt
        have Hx := hide hx
        clear hx
        go_wp2
        go_roundw
        case rel => exact ⟨k + 1, _, _, by omega, by go_num, rfl, rfl, hide (by rw [take_eq Hx.out, devTo_snoc, cn_flR, ← fb_cn, hz.out, cn_flR, ← fb_cn .mul, cn_flR, cn_flR, ← fb_cnr .sub, Hm.out])⟩
        case measure => simp [intOf]; omega
      · obtain rfl : k = n := by omega
        have hsz1 := hb1.size
        have Hs : Hid (capS xs = rootOf (fb .quo .f32 (devTo xs (fmean xs)) (fb .sub .f32 (floatOfInt .f32 (k : Int)) 1065353216))) := hide (by rw [capS, Hl.out, less_one k (by omega)])
        have Hz2 : Hid (cn .f32 z = devTo xs (fmean xs)) := hide (by rw [hz.out, List.take_of_length_le (by rw [Hl.out]; omega)])
        go_wp2_with (first
          | (go_at_call 73; refine (i_RootNumber _ _).mono ?_; rintro e w' ⟨z4, rfl, hz4, m4, rfl⟩; have Hz4 : Hid (cn .f32 z4 = capS xs) := hide (by rw [hz4.out, ← rootOf_cn, cn_flR, ← fb_cn, Hz2.out, cn_flR, Hs.out]); clear hz4)
          | (go_at_call 74; refine (i_areMore1 _ _ _ _ (by simp)).mono ?_; rintro e w' ⟨rfl, m5, rfl⟩)
          | (go_at_call 69; refine (i_areFinite2 _ _ _ _ _ (by simp) (RA := capW xs lo hi) (RB := capN xs lo hi) (fl_eq (cn_flR _ _ _ _ _) (fl_eqr Hz4.out)) (fl_eq (mm_eq2 (fl_eqr Hm.out) (fl_eql Hm.out)) (fl_eqr Hz4.out))).mono ?_; rintro e w' ⟨rfl, HA, HB, m6, rfl⟩))
        · have h0 : (!pos z4) = true := by assumption
          have e : capOk xs lo hi = false := by unfold capOk; rw [← pos_cn, Hz4.out] at h0; simp at h0; rw [h0]; simp
          go_ret3
          exact ⟨_, _, by rw [e]; rfl, hide (by rw [capA, e]; exact cn_zero), hide (by rw [capB, e]; exact cn_zero), (by repeat (first | exact Below.refl _ _ | exact below_drewN (by assumption) _ | refine below_drewN ?_ _ | refine Below.alloc ?_ (by first | (simp; done) | (simp; omega)) _ | assumption))⟩
        · have h0 : (!fin .f32 (capW xs lo hi)) = true ∨ (!fin .f32 (capN xs lo hi)) = true := by assumption
          have e : capOk xs lo hi = false := by unfold capOk; rcases h0 with h0 | h0 <;> simp at h0 <;> rw [h0] <;> simp
          go_ret3
          exact ⟨_, _, by rw [e]; rfl, hide (by rw [capA, e]; exact cn_zero), hide (by rw [capB, e]; exact cn_zero), (by repeat (first | exact Below.refl _ _ | exact below_drewN (by assumption) _ | refine below_drewN ?_ _ | refine Below.alloc ?_ (by first | (simp; done) | (simp; omega)) _ | assumption))⟩
        · have h0 : (!pos z4) = false := by assumption
          have h1' : (!fin .f32 (capW xs lo hi)) = false ∧ (!fin .f32 (capN xs lo hi)) = false := by assumption
          have h1 : fin .f32 (capW xs lo hi) = true ∧ fin .f32 (capN xs lo hi) = true := by simpa using h1'
          have e : capOk xs lo hi = true := by
            unfold capOk
            rw [← pos_cn, Hz4.out] at h0
            simp at h0
            rw [e0.out, h0, h1.1, h1.2]; rfl
          go_ret3
          exact ⟨_, _, by rw [e]; rfl, hide (by rw [HA.out, capA, if_pos e]), hide (by rw [HB.out, capB, if_pos e]), (by repeat (first | exact Below.refl _ _ | exact below_drewN (by assumption) _ | refine below_drewN ?_ _ | refine Below.alloc ?_ (by first | (simp; done) | (simp; omega)) _ | assumption))⟩

theorem fin_lt {k : FloatKind} {x y : Nat} (hx : fin k x = true) (hy : fin k y = true) (h1 : (k.format.order x y == some Ordering.gt) = false) (h2 : (k.format.order x y == some Ordering.eq) = false) : (k.format.order x y == some Ordering.lt) = true := by
  obtain ⟨s, m, i, hx⟩ := (fin_iff k x).1 hx
  obtain ⟨t, n, j, hy⟩ := (fin_iff k y).1 hy
  have h := order_num hx hy (b := min i j) (by omega) (by omega)
  rw [h] at h1 h2 ⊢
  generalize compare (sval s m i (min i j)) (sval t n j (min i j)) = o at *
  cases o
  · rfl
  · exact absurd h2 (by decide)
  · exact absurd h1 (by decide)
theorem s_l01FinR (x : Nat) (w : World) {R : Nat} (hR : cn .f32 x = R) : Calls Try.prog 120 #[.float .f32 x] w fun e w' => e = .returned (.bool (fin .f32 R)) ∧ Hid (cn .f32 x = R) ∧ ∃ n, w' = w.drewN n := by
  refine (s_l01Finite x w).mono ?_
  rintro e w' ⟨rfl, h⟩
  exact ⟨by rw [← hR, fin_cn], hR, h⟩


end Go.Proofs.Ytolbibpmngmpdaa
