/-
  The bars of a sequence test: both sides.
-/
import Derived.Test.YtolbibpmngmpdaaLogX
import Derived.Test.YtolbibpmngmpdaaTold
namespace Go.Proofs.Ytolbibpmngmpdaa
open Go.RowKit Mem Fl
set_option linter.unusedVariables false
set_option maxRecDepth 100000

/-- Is a number above 0 and below another one. -/
def innr (x q : Nat) : Bool := (FloatKind.f32.format.order x 0 == some .gt) && (FloatKind.f32.format.order x q == some .lt)
theorem gt_num {x : Nat} (wf : Wf .f32 x) (h : (FloatKind.f32.format.order x 0 == some .gt) = true) : (Nn x ∨ x = 2139095040) ∧ x ≠ 0 := by
  have h0 : FloatKind.f32.format.read 0 = .number false 0 (-149) := by decide +kernel
  have hz : ∀ j : Int, Ieee.signed false 0 (j.toNat) = 0 := by intro j; simp [Ieee.signed]
  unfold Ieee.Format.order at h
  rw [h0] at h
  cases hr : FloatKind.f32.format.read x with
  | nan s t => rw [hr] at h; cases h
  | infinity s =>
    rw [hr] at h
    cases s with
    | true => cases h
    | false =>
      obtain ⟨h1, h2⟩ := read_inf hr
      have hw := wf_word wf
      rw [← h1, h2] at hw
      have : x = 2139095040 := by rw [hw]; decide +kernel
      exact ⟨.inr this, by omega⟩
  | number s m i =>
    rw [hr] at h
    simp only [Ieee.Datum.order] at h
    cases s with
    | true =>
      exfalso
      have h1 : Ieee.signed true m (i - min i (-149)).toNat ≤ 0 := signed_true _ _
      rw [show Ieee.signed false 0 (-149 - min i (-149)).toNat = 0 by simp [Ieee.signed], compare_int] at h
      split at h
      · cases h
      · split at h
        · cases h
        · omega
    | false =>
      refine ⟨.inl (nn_of wf hr), ?_⟩
      rintro rfl
      rw [h0] at hr
      cases hr
      revert h
      decide +kernel
theorem innr_pos {x q : Nat} (wf : Wf .f32 x) (hq : q < 2139095040) (h : innr x q = true) : Nn x ∧ x ≠ 0 ∧ x < q := by
  unfold innr at h
  rw [Bool.and_eq_true] at h
  obtain ⟨h1, h2⟩ := gt_num wf h.1
  have hi : FloatKind.f32.format.infRung = 2139095040 := f32_inf
  rcases h1 with h1 | h1
  · have := lt_pos (k := .f32) (c := x) (q := q) (by rw [hi]; exact h1) (by rw [hi]; exact hq)
    rw [this] at h
    exact ⟨h1, h2, of_decide_eq_true h.2⟩
  · exfalso
    subst h1
    have h3 := h.2
    have hrq := read_pos (k := .f32) (r := q) (by rw [hi]; exact hq)
    have hri : FloatKind.f32.format.read 2139095040 = .infinity false := by decide +kernel
    unfold Ieee.Format.order at h3
    rw [hri, hrq] at h3
    cases h3
theorem i_isInner {x q : Nat} {w : World} : Calls Try.prog 67 #[.float .f32 x, .float .f32 q] w fun e w' => e = .returned (.bool (innr x q)) ∧ w = w' := by
  have hp : Hid (innr x q = ((FloatKind.f32.format.order x 0 == some .gt) && (FloatKind.f32.format.order x q == some .lt))) := hide rfl
  cases h1 : (FloatKind.f32.format.order x 0 == some .gt) with
  | false =>
    rw [h1] at hp
    go_enter Try.func67, Try.ntmps67
    go_wp2
    go_ret
    exact ⟨ret_bool hp.out.symm, rfl⟩
  | true =>
    rw [h1] at hp
    cases h2 : (FloatKind.f32.format.order x q == some .lt)
    all_goals
      rw [h2] at hp
      go_enter Try.func67, Try.ntmps67
      go_wp2
      go_ret
      exact ⟨ret_bool hp.out.symm, rfl⟩
def bars1 (a b : Nat) : Nat := logN (fb .quo .f32 b (fb .sub .f32 1065353216 a))
def bars2 (a b : Nat) : Nat := logN (fb .quo .f32 (fb .sub .f32 1065353216 b) a)
def barsIn (a b : Nat) : Bool := innr a 1056964608 && innr b 1056964608
def barsOk (a b : Nat) : Bool := barsIn a b && (fin .f32 (bars1 a b) && fin .f32 (bars2 a b))
theorem flR_nn {op : BinOp} {x y r : Nat} (h : fb op .f32 x y = r) (hr : r ≤ 2139095040) (w : World) : flR op .f32 x y w = r :=
  flR_bd h (by
    have : isNan .f32 (FloatKind.f32.format.word false r) = false := isNan_word' (k := .f32) (s := false) (by rw [show FloatKind.f32.format.infRung = 2139095040 from f32_inf]; exact hr)
    exact this) w
theorem bars_facts {a b : Nat} (wa : Wf .f32 a) (wb : Wf .f32 b) (h : barsIn a b = true) : ∃ d1 q1 d2 q2 : Nat, (∀ W, flR .sub .f32 1065353216 a W = d1) ∧ (∀ W, flR .quo .f32 b d1 W = q1) ∧ q1 ≤ 2139095040 ∧ q1 ≠ 0 ∧ (∀ W, flR .sub .f32 1065353216 b W = d2) ∧ (∀ W, flR .quo .f32 d2 a W = q2) ∧ q2 ≤ 2139095040 ∧ q2 ≠ 0 ∧ bars1 a b = logN q1 ∧ bars2 a b = logN q2 := by
  unfold barsIn at h
  rw [Bool.and_eq_true] at h
  obtain ⟨a1, a2, a3⟩ := innr_pos wa (by decide) h.1
  obtain ⟨b1, b2, b3⟩ := innr_pos wb (by decide) h.2
  obtain ⟨u1, u2, u3⟩ := one_sub (a := a) (by omega)
  obtain ⟨v1, v2, v3⟩ := one_sub (a := b) (by omega)
  obtain ⟨s1, s2⟩ := quo_dn b1 u3 u2 u1
  obtain ⟨t1, t2⟩ := quo_dn v3 a1 a2 (by omega)
  have hz1 : fb .quo .f32 b (fb .sub .f32 1065353216 a) ≠ 0 := fun e => b2 (Nat.le_zero.1 (e ▸ s1))
  have hz2 : fb .quo .f32 (fb .sub .f32 1065353216 b) a ≠ 0 := fun e => v2 (Nat.le_zero.1 (e ▸ t1))
  have hu : fb .sub .f32 1065353216 a ≤ 2139095040 := Nat.le_trans u1 (by decide)
  have hv : fb .sub .f32 1065353216 b ≤ 2139095040 := Nat.le_trans v1 (by decide)
  have hL1 : bars1 a b = logN (fb .quo .f32 b (fb .sub .f32 1065353216 a)) := by unfold bars1; rfl
  have hL2 : bars2 a b = logN (fb .quo .f32 (fb .sub .f32 1065353216 b) a) := by unfold bars2; rfl
  generalize bars1 a b = B1 at *
  generalize bars2 a b = B2 at *
  have hd1 : ∀ W, flR .sub .f32 1065353216 a W = fb .sub .f32 1065353216 a := flR_nn rfl hu
  have hd2 : ∀ W, flR .sub .f32 1065353216 b W = fb .sub .f32 1065353216 b := flR_nn rfl hv
  generalize fb .sub .f32 1065353216 a = d1 at *
  generalize fb .sub .f32 1065353216 b = d2 at *
  have hq1 : ∀ W, flR .quo .f32 b d1 W = fb .quo .f32 b d1 := flR_nn rfl s2
  have hq2 : ∀ W, flR .quo .f32 d2 a W = fb .quo .f32 d2 a := flR_nn rfl t2
  generalize fb .quo .f32 b d1 = q1 at *
  generalize fb .quo .f32 d2 a = q2 at *
  exact ⟨d1, q1, d2, q2, hd1, hq1, s2, hz1, hd2, hq2, t2, hz2, hL1, hL2⟩
/-- What bars look like. -/
def BarR (a b : Nat) (e : Ending) : Prop := ∃ x y : Nat, e = .returned (.tuple #[.float .f32 x, .float .f32 y, .bool (barsOk a b)]) ∧ cn .f32 x = (if barsOk a b = true then bars1 a b else 0) ∧ cn .f32 y = (if barsOk a b = true then bars2 a b else 0)
theorem cn_zero : cn .f32 0 = 0 := by decide +kernel
theorem BarR.no {a b : Nat} (h : barsOk a b = false) : BarR a b (.returned (.tuple #[.float .f32 0, .float .f32 0, .bool false])) := by
  unfold BarR; rw [h, if_neg (by simp), if_neg (by simp)]; exact ⟨0, 0, rfl, cn_zero, cn_zero⟩
theorem BarR.yes {a b x y : Nat} (h : barsOk a b = true) (hx : cn .f32 x = bars1 a b) (hy : cn .f32 y = bars2 a b) : BarR a b (.returned (.tuple #[.float .f32 x, .float .f32 y, .bool true])) := by
  unfold BarR; rw [h, if_pos rfl, if_pos rfl]; exact ⟨x, y, rfl, hx, hy⟩
set_option maxHeartbeats 2000000 in
theorem i_SequenceBars {a b : Nat} {w : World} (wa : Wf .f32 a) (wb : Wf .f32 b) :
    Calls Try.prog 18 #[.float .f32 a, .float .f32 b] w fun e w' => BarR a b e ∧ Below w.heap.size w w' := by
  have hp : Hid (barsOk a b = (barsIn a b && (fin .f32 (bars1 a b) && fin .f32 (bars2 a b)))) := hide rfl
  have hq : Hid (barsIn a b = (innr a 1056964608 && innr b 1056964608)) := hide rfl
  cases h1 : innr a 1056964608 with
  | false =>
    have HN : Hid (barsOk a b = false) := hide (by rw [hp.out, hq.out, h1]; rfl)
    go_enter Try.func18, Try.ntmps18
    go_wp2_with (go_at_call 67; refine i_isInner.mono ?_; rintro e w' ⟨rfl, rfl⟩; rw [h1])
    go_ret3
    exact ⟨BarR.no HN.out, Below.refl _ _⟩
  | true =>
    cases h2 : innr b 1056964608 with
    | false =>
      have HN : Hid (barsOk a b = false) := hide (by rw [hp.out, hq.out, h1, h2]; rfl)
      go_enter Try.func18, Try.ntmps18
      go_wp2_with (go_at_call 67; refine i_isInner.mono ?_; rintro e w' ⟨rfl, rfl⟩; (first | rw [h1] | rw [h2]))
      go_ret3
      exact ⟨BarR.no HN.out, Below.refl _ _⟩
    | true =>
      have hin : barsIn a b = true := by rw [hq.out, h1, h2]; rfl
      obtain ⟨d1, q1, d2, q2, D1, Q1, k1, k2, D2, Q2, k3, k4, L1, L2⟩ := bars_facts wa wb hin
      replace D1 := hide D1
      replace Q1 := hide Q1
      replace D2 := hide D2
      replace Q2 := hide Q2
      rw [hin, L1, L2] at hp
      have hL := hide (And.intro L1 L2)
      clear L1 L2 hin hq wa wb
      replace k1 := hide k1
      replace k2 := hide k2
      replace k3 := hide k3
      replace k4 := hide k4
      cases h3 : (fin .f32 (logN q1) && fin .f32 (logN q2)) with
      | false =>
        have HN : Hid (barsOk a b = false) := hide (by rw [hp.out, h3]; rfl)
        go_enter Try.func18, Try.ntmps18
        go_wp2_with (first
          | (go_at_call 67; refine i_isInner.mono ?_; rintro e w' ⟨rfl, rfl⟩; (first | rw [h1] | rw [h2]))
          | (go_at_call 68; rw [D1.out, Q1.out]; refine (i_LogNumber k1.out k2.out).mono ?_; rintro e w1 ⟨z1, rfl, hz1, m1, rfl⟩)
          | (go_at_call 68; rw [D2.out, Q2.out]; refine (i_LogNumber k3.out k4.out).mono ?_; rintro e w2 ⟨z2, rfl, hz2, m2, rfl⟩)
          | (go_at_call 69; refine (i_areFinite2 _ _ _ _ _ (by simp) hz1.out hz2.out).mono ?_; rintro e w' ⟨rfl, HA, HB, m6, rfl⟩; rw [h3]))
        go_ret3
        exact ⟨BarR.no HN.out, (by repeat (first | exact Below.refl _ _ | exact below_drewN (by assumption) _ | refine below_drewN ?_ _ | refine Below.alloc ?_ (by first | (simp; done) | (simp; omega)) _ | assumption))⟩
      | true =>
        have HN : Hid (barsOk a b = true) := hide (by rw [hp.out, h3]; rfl)
        go_enter Try.func18, Try.ntmps18
        go_wp2_with (first
          | (go_at_call 67; refine i_isInner.mono ?_; rintro e w' ⟨rfl, rfl⟩; (first | rw [h1] | rw [h2]))
          | (go_at_call 68; rw [D1.out, Q1.out]; refine (i_LogNumber k1.out k2.out).mono ?_; rintro e w1 ⟨z1, rfl, hz1, m1, rfl⟩)
          | (go_at_call 68; rw [D2.out, Q2.out]; refine (i_LogNumber k3.out k4.out).mono ?_; rintro e w2 ⟨z2, rfl, hz2, m2, rfl⟩)
          | (go_at_call 69; refine (i_areFinite2 _ _ _ _ _ (by simp) hz1.out hz2.out).mono ?_; rintro e w' ⟨rfl, HA, HB, m6, rfl⟩; rw [h3]))
        go_ret3
        exact ⟨BarR.yes HN.out (by rw [hL.out.1]; exact HA.out) (by rw [hL.out.2]; exact HB.out), (by repeat (first | exact Below.refl _ _ | exact below_drewN (by assumption) _ | refine below_drewN ?_ _ | refine Below.alloc ?_ (by first | (simp; done) | (simp; omega)) _ | assumption))⟩
end Go.Proofs.Ytolbibpmngmpdaa
