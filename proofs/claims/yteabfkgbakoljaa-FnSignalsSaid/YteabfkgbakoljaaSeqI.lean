/-
  The bars of a sequence test: both sides.
-/
import Derived.Test.YteabfkgbakoljaaPhZ
import Derived.Laws.ResultCell
import Derived.Test.YteabfkgbakoljaaFl
import Derived.Test.YteabfkgbakoljaaHelq
import Derived.BigGuardPart
namespace Go.Proofs.Yteabfkgbakoljaa
open Go.RowKit Mem Fl
set_option linter.unusedVariables false
set_option maxRecDepth 100000

/-- Is a number above 0 and below another one. -/
def innr (x q : Nat) : Bool := (FloatKind.f32.format.order x 0 == some .gt) && (FloatKind.f32.format.order x q == some .lt)
theorem gt_num {x : Nat} (wf : Wf .f32 x) (h : (FloatKind.f32.format.order x 0 == some .gt) = true) : (Nn x ∨ x = 2139095040) ∧ x ≠ 0 := by
  have h0 : FloatKind.f32.format.read 0 = .number false 0 (-149) := by decide +kernel
  have hz : ∀ j : Int, Ieee.signed false 0 (j.toNat) = 0 := by intro j; simp [Ieee.signed]
  unfold Ieee.Format.order at h
  rw [h0] at h
  cases hr : FloatKind.f32.format.read x with
  | nan s t => rw [hr] at h; cases h
  | infinity s =>
    rw [hr] at h
    cases s with
    | true => cases h
    | false =>
      obtain ⟨h1, h2⟩ := read_inf hr
      have hw := wf_word wf
      rw [← h1, h2] at hw
      have : x = 2139095040 := by rw [hw]; decide +kernel
      exact ⟨.inr this, by omega⟩
  | number s m i =>
    rw [hr] at h
    simp only [Ieee.Datum.order] at h
    cases s with
    | true =>
      exfalso
      have h1 : Ieee.signed true m (i - min i (-149)).toNat ≤ 0 := signed_true _ _
      rw [show Ieee.signed false 0 (-149 - min i (-149)).toNat = 0 by simp [Ieee.signed], compare_int] at h
      split at h
      · cases h
      · split at h
        · cases h
        · omega
    | false =>
      refine ⟨.inl (nn_of wf hr), ?_⟩
      rintro rfl
      rw [h0] at hr
      cases hr
      revert h
      decide +kernel
theorem innr_pos {x q : Nat} (wf : Wf .f32 x) (hq : q < 2139095040) (h : innr x q = true) : Nn x ∧ x ≠ 0 ∧ x < q := by
  unfold innr at h
  rw [Bool.and_eq_true] at h
  obtain ⟨h1, h2⟩ := gt_num wf h.1
  have hi : FloatKind.f32.format.infRung = 2139095040 := f32_inf
  rcases h1 with h1 | h1
  · have := lt_pos (k := .f32) (c := x) (q := q) (by rw [hi]; exact h1) (by rw [hi]; exact hq)
    rw [this] at h
    exact ⟨h1, h2, of_decide_eq_true h.2⟩
  · exfalso
    subst h1
    have h3 := h.2
    have hrq := read_pos (k := .f32) (r := q) (by rw [hi]; exact hq)
    have hri : FloatKind.f32.format.read 2139095040 = .infinity false := by decide +kernel
    unfold Ieee.Format.order at h3
    rw [hri, hrq] at h3
    cases h3
theorem i_isInner {x q : Nat} {w : World} : Calls Try.prog 67 #[.float .f32 x, .float .f32 q] w fun e w' => e = .returned (.bool (innr x q)) ∧ w = w' := by
  have hp : Hid (innr x q = ((FloatKind.f32.format.order x 0 == some .gt) && (FloatKind.f32.format.order x q == some .lt))) := hide rfl
  cases h1 : (FloatKind.f32.format.order x 0 == some .gt) with
  | false =>
    rw [h1] at hp
    go_enter Try.func67, Try.ntmps67
    go_wp2
    go_ret
    exact ⟨ret_bool hp.out.symm, rfl⟩
  | true =>
    rw [h1] at hp
    cases h2 : (FloatKind.f32.format.order x q == some .lt)
    all_goals
      rw [h2] at hp
      go_enter Try.func67, Try.ntmps67
      go_wp2
      go_ret
      exact ⟨ret_bool hp.out.symm, rfl⟩
def bars1 (a b : Nat) : Nat := logN (fb .quo .f32 b (fb .sub .f32 1065353216 a))
def bars2 (a b : Nat) : Nat := logN (fb .quo .f32 (fb .sub .f32 1065353216 b) a)
def barsIn (a b : Nat) : Bool := innr a 1056964608 && innr b 1056964608
def barsOk (a b : Nat) : Bool := barsIn a b && (fin .f32 (bars1 a b) && fin .f32 (bars2 a b))
theorem flR_nn {op : BinOp} {x y r : Nat} (h : fb op .f32 x y = r) (hr : r ≤ 2139095040) (w : World) : flR op .f32 x y w = r :=
  flR_bd h (by
    have : isNan .f32 (FloatKind.f32.format.word false r) = false := isNan_word' (k := .f32) (s := false) (by rw [show FloatKind.f32.format.infRung = 2139095040 from f32_inf]; exact hr)
    exact this) w
theorem bars_facts {a b : Nat} (wa : Wf .f32 a) (wb : Wf .f32 b) (h : barsIn a b = true) : ∃ d1 q1 d2 q2 : Nat, (∀ W, flR .sub .f32 1065353216 a W = d1) ∧ (∀ W, flR .quo .f32 b d1 W = q1) ∧ q1 ≤ 2139095040 ∧ q1 ≠ 0 ∧ (∀ W, flR .sub .f32 1065353216 b W = d2) ∧ (∀ W, flR .quo .f32 d2 a W = q2) ∧ q2 ≤ 2139095040 ∧ q2 ≠ 0 ∧ bars1 a b = logN q1 ∧ bars2 a b = logN q2 := by
  unfold barsIn at h
  rw [Bool.and_eq_true] at h
  obtain ⟨a1, a2, a3⟩ := innr_pos wa (by decide) h.1
  obtain ⟨b1, b2, b3⟩ := innr_pos wb (by decide) h.2
  obtain ⟨u1, u2, u3⟩ := one_sub (a := a) (by omega)
  obtain ⟨v1, v2, v3⟩ := one_sub (a := b) (by omega)
  obtain ⟨s1, s2⟩ := quo_dn b1 u3 u2 u1
  obtain ⟨t1, t2⟩ := quo_dn v3 a1 a2 (by omega)
  have hz1 : fb .quo .f32 b (fb .sub .f32 1065353216 a) ≠ 0 := fun e => b2 (Nat.le_zero.1 (e ▸ s1))
  have hz2 : fb .quo .f32 (fb .sub .f32 1065353216 b) a ≠ 0 := fun e => v2 (Nat.le_zero.1 (e ▸ t1))
  have hu : fb .sub .f32 1065353216 a ≤ 2139095040 := Nat.le_trans u1 (by decide)
  have hv : fb .sub .f32 1065353216 b ≤ 2139095040 := Nat.le_trans v1 (by decide)
  have hL1 : bars1 a b = logN (fb .quo .f32 b (fb .sub .f32 1065353216 a)) := by unfold bars1; rfl
  have hL2 : bars2 a b = logN (fb .quo .f32 (fb .sub .f32 1065353216 b) a) := by unfold bars2; rfl
  generalize bars1 a b = B1 at *
  generalize bars2 a b = B2 at *
  have hd1 : ∀ W, flR .sub .f32 1065353216 a W = fb .sub .f32 1065353216 a := flR_nn rfl hu
  have hd2 : ∀ W, flR .sub .f32 1065353216 b W = fb .sub .f32 1065353216 b := flR_nn rfl hv
  generalize fb .sub .f32 1065353216 a = d1 at *
  generalize fb .sub .f32 1065353216 b = d2 at *
  have hq1 : ∀ W, flR .quo .f32 b d1 W = fb .quo .f32 b d1 := flR_nn rfl s2
  have hq2 : ∀ W, flR .quo .f32 d2 a W = fb .quo .f32 d2 a := flR_nn rfl t2
  generalize fb .quo .f32 b d1 = q1 at *
  generalize fb .quo .f32 d2 a = q2 at *
  exact ⟨d1, q1, d2, q2, hd1, hq1, s2, hz1, hd2, hq2, t2, hz2, hL1, hL2⟩
/-- What bars look like. -/
def BarR (a b : Nat) (e : Ending) : Prop := ∃ x y : Nat, e = .returned (.tuple #[.float .f32 x, .float .f32 y, .bool (barsOk a b)]) ∧ cn .f32 x = (if barsOk a b = true then bars1 a b else 0) ∧ cn .f32 y = (if barsOk a b = true then bars2 a b else 0)
theorem cn_zero : cn .f32 0 = 0 := by decide +kernel
theorem BarR.no {a b : Nat} (h : barsOk a b = false) : BarR a b (.returned (.tuple #[.float .f32 0, .float .f32 0, .bool false])) := by
  unfold BarR; rw [h, if_neg (by simp), if_neg (by simp)]; exact ⟨0, 0, rfl, cn_zero, cn_zero⟩
theorem BarR.yes {a b x y : Nat} (h : barsOk a b = true) (hx : cn .f32 x = bars1 a b) (hy : cn .f32 y = bars2 a b) : BarR a b (.returned (.tuple #[.float .f32 x, .float .f32 y, .bool true])) := by
  unfold BarR; rw [h, if_pos rfl, if_pos rfl]; exact ⟨x, y, rfl, hx, hy⟩
set_option maxHeartbeats 2000000 in
theorem i_SequenceBars {a b : Nat} {w : World} (wa : Wf .f32 a) (wb : Wf .f32 b) :
    Calls Try.prog 18 #[.float .f32 a, .float .f32 b] w fun e w' => BarR a b e ∧ Below w.heap.size w w' := by
  have hp : Hid (barsOk a b = (barsIn a b && (fin .f32 (bars1 a b) && fin .f32 (bars2 a b)))) := hide rfl
  have hq : Hid (barsIn a b = (innr a 1056964608 && innr b 1056964608)) := hide rfl
  cases h1 : innr a 1056964608 with
  | false =>
    have HN : Hid (barsOk a b = false) := hide (by rw [hp.out, hq.out, h1]; rfl)
    go_enter Try.func18, Try.ntmps18
    go_wp2_with (go_at_call 67; refine i_isInner.mono ?_; rintro e w' ⟨rfl, rfl⟩; rw [h1])
    go_ret3
    exact ⟨BarR.no HN.out, Below.refl _ _⟩
  | true =>
    cases h2 : innr b 1056964608 with
    | false =>
      have HN : Hid (barsOk a b = false) := hide (by rw [hp.out, hq.out, h1, h2]; rfl)
      go_enter Try.func18, Try.ntmps18
      go_wp2_with (go_at_call 67; refine i_isInner.mono ?_; rintro e w' ⟨rfl, rfl⟩; (first | rw [h1] | rw [h2]))
      go_ret3
      exact ⟨BarR.no HN.out, Below.refl _ _⟩
    | true =>
      have hin : barsIn a b = true := by rw [hq.out, h1, h2]; rfl
      obtain ⟨d1, q1, d2, q2, D1, Q1, k1, k2, D2, Q2, k3, k4, L1, L2⟩ := bars_facts wa wb hin
      replace D1 := hide D1
      replace Q1 := hide Q1
      replace D2 := hide D2
      replace Q2 := hide Q2
      rw [hin, L1, L2] at hp
      have hL := hide (And.intro L1 L2)
      clear L1 L2 hin hq wa wb
      replace k1 := hide k1
      replace k2 := hide k2
      replace k3 := hide k3
      replace k4 := hide k4
      cases h3 : (fin .f32 (logN q1) && fin .f32 (logN q2)) with
      | false =>
        have HN : Hid (barsOk a b = false) := hide (by rw [hp.out, h3]; rfl)
        go_enter Try.func18, Try.ntmps18
        go_wp2_with (first
          | (go_at_call 67; refine i_isInner.mono ?_; rintro e w' ⟨rfl, rfl⟩; (first | rw [h1] | rw [h2]))
          | (go_at_call 68; rw [D1.out, Q1.out]; refine (i_LogNumber k1.out k2.out).mono ?_; rintro e w1 ⟨z1, rfl, hz1, m1, rfl⟩)
          | (go_at_call 68; rw [D2.out, Q2.out]; refine (i_LogNumber k3.out k4.out).mono ?_; rintro e w2 ⟨z2, rfl, hz2, m2, rfl⟩)
          | (go_at_call 69; refine (i_areFinite2 _ _ _ _ _ (by simp) hz1.out hz2.out).mono ?_; rintro e w' ⟨rfl, HA, HB, m6, rfl⟩; rw [h3]))
        go_ret3
        exact ⟨BarR.no HN.out, (by repeat (first | exact Below.refl _ _ | exact below_drewN (by assumption) _ | refine below_drewN ?_ _ | refine Below.alloc ?_ (by first | (simp; done) | (simp; omega)) _ | assumption))⟩
      | true =>
        have HN : Hid (barsOk a b = true) := hide (by rw [hp.out, h3]; rfl)
        go_enter Try.func18, Try.ntmps18
        go_wp2_with (first
          | (go_at_call 67; refine i_isInner.mono ?_; rintro e w' ⟨rfl, rfl⟩; (first | rw [h1] | rw [h2]))
          | (go_at_call 68; rw [D1.out, Q1.out]; refine (i_LogNumber k1.out k2.out).mono ?_; rintro e w1 ⟨z1, rfl, hz1, m1, rfl⟩)
          | (go_at_call 68; rw [D2.out, Q2.out]; refine (i_LogNumber k3.out k4.out).mono ?_; rintro e w2 ⟨z2, rfl, hz2, m2, rfl⟩)
          | (go_at_call 69; refine (i_areFinite2 _ _ _ _ _ (by simp) hz1.out hz2.out).mono ?_; rintro e w' ⟨rfl, HA, HB, m6, rfl⟩; rw [h3]))
        go_ret3
        exact ⟨BarR.yes HN.out (by rw [hL.out.1]; exact HA.out) (by rw [hL.out.2]; exact HB.out), (by repeat (first | exact Below.refl _ _ | exact below_drewN (by assumption) _ | refine below_drewN ?_ _ | refine Below.alloc ?_ (by first | (simp; done) | (simp; omega)) _ | assumption))⟩
end Go.Proofs.Yteabfkgbakoljaa

/-
  A sequence test: its plain law; what it is made of, both sides.
-/
namespace Go.Proofs.Yteabfkgbakoljaa
open Go.RowKit Mem Fl
set_option linter.unusedVariables false
set_option maxRecDepth 100000

theorem results_rowT {P : Program} {fn : Func} {p u : Tmp} {ty : TypeId} (h : fn.results = #[.cell p ty, .tmp u]) (tmps : Array Value) (w : World) (g : Nat) (t : TypeId) (cs : Array Value) (fr : Nat × Nat) (d : TypeDesc)
    (hp : tmps.getD p undef = .pointer (some ⟨g, 0, none⟩)) (hg : w.heap[g]? = some (.cells cs t fr))
    (hu : P.underlying ty = some d) (hd : (match d with | .struct _ | .array _ _ => true | _ => false) = true) (hi : (P.info? ty).map (·.size) = some cs.size) :
    (results fn tmps).run P w = .ok (.tuple #[.agg cs, tmps.getD u undef]) w := by
  rw [results_cell_tmp h, hp]
  simp [asAddr, run_loadVar_row w g t ty cs fr d hg hu hd hi, Result.andThen]
def seqIn (lo hi : Nat) : Bool := (innr lo 1065353216 && innr hi 1065353216) && (FloatKind.f32.format.order lo hi == some .lt)
def seqIn' (lo hi : Nat) : Bool := ((FloatKind.f32.format.order lo 0 == some .gt) && (FloatKind.f32.format.order lo hi == some .lt)) && (FloatKind.f32.format.order hi 1065353216 == some .lt)
theorem seqIn_facts {lo hi : Nat} (wl : Wf .f32 lo) (wh : Wf .f32 hi) (h : seqIn lo hi = true) : Nn lo ∧ lo ≠ 0 ∧ Nn hi ∧ hi ≠ 0 ∧ lo < hi ∧ hi < 1065353216 := by
  unfold seqIn at h
  rw [Bool.and_eq_true, Bool.and_eq_true] at h
  obtain ⟨⟨h1, h2⟩, h3⟩ := h
  obtain ⟨a1, a2, a3⟩ := innr_pos wl (by decide) h1
  obtain ⟨b1, b2, b3⟩ := innr_pos wh (by decide) h2
  have hi' : FloatKind.f32.format.infRung = 2139095040 := f32_inf
  rw [lt_pos (k := .f32) (by rw [hi']; exact a1) (by rw [hi']; exact b1)] at h3
  exact ⟨a1, a2, b1, b2, of_decide_eq_true h3, b3⟩
theorem seqIn_eq {lo hi : Nat} (wl : Wf .f32 lo) (wh : Wf .f32 hi) : seqIn' lo hi = seqIn lo hi := by
  have hi' : FloatKind.f32.format.infRung = 2139095040 := f32_inf
  cases h : seqIn' lo hi with
  | false =>
    cases h2 : seqIn lo hi with
    | false => rfl
    | true =>
      have h3 := h2
      unfold seqIn innr at h3
      unfold seqIn' at h
      simp only [Bool.and_eq_true] at h3
      rw [h3.1.1.1, h3.1.2.2, h3.2] at h
      cases h
  | true =>
    unfold seqIn' at h
    simp only [Bool.and_eq_true] at h
    obtain ⟨⟨h1, h2⟩, h3⟩ := h
    obtain ⟨l1, l2⟩ := gt_num wl h1
    have hl : Nn lo := by
      rcases l1 with l1 | l1
      · exact l1
      · exfalso
        subst l1
        have hri : FloatKind.f32.format.read 2139095040 = .infinity false := by decide +kernel
        unfold Ieee.Format.order at h2
        rw [hri] at h2
        cases hr : FloatKind.f32.format.read hi with
        | nan s t => rw [hr] at h2; cases h2
        | infinity s => rw [hr] at h2; cases s <;> revert h2 <;> decide
        | number s m i => rw [hr] at h2; cases h2
    have rl := nn_read hl
    have hh : Nn hi := by
      cases hr : FloatKind.f32.format.read hi with
      | nan s t => unfold Ieee.Format.order at h2; rw [hr, show FloatKind.f32.format.read lo = _ from rl] at h2; cases h2
      | infinity s =>
        have hro : FloatKind.f32.format.read 1065353216 = .number false 8388608 (-23) := by decide +kernel
        cases s with
        | true => unfold Ieee.Format.order at h2; rw [hr, show FloatKind.f32.format.read lo = _ from rl] at h2; cases h2
        | false => unfold Ieee.Format.order at h3; rw [hr, hro] at h3; cases h3
      | number s m i =>
        cases s with
        | false => exact nn_of wh hr
        | true =>
          exfalso
          rcases ord_pn (k := .f32) rl hr with h9 | h9 <;> rw [h9] at h2 <;> cases h2
    have e2 := lt_pos (k := .f32) (c := lo) (q := hi) (by rw [hi']; exact hl) (by rw [hi']; exact hh)
    have e3 := lt_pos (k := .f32) (c := hi) (q := 1065353216) (by rw [hi']; exact hh) (by rw [hi']; decide)
    have e4 := lt_pos (k := .f32) (c := lo) (q := 1065353216) (by rw [hi']; exact hl) (by rw [hi']; decide)
    have e5 := gt_pos (k := .f32) (c := hi) (q := 0) (by rw [hi']; exact hh) (by rw [hi']; decide)
    have d2 := of_decide_eq_true (e2.symm.trans h2)
    have d3 := of_decide_eq_true (e3.symm.trans h3)
    unfold seqIn innr
    rw [h1, h2, h3, e4, e5, decide_eq_true (by omega), decide_eq_true (by omega)]
    rfl
def sUp (lo hi : Nat) : Nat := logN (fb .quo .f32 hi lo)
def sDn (lo hi : Nat) : Nat := logN (fb .quo .f32 (fb .sub .f32 1065353216 hi) (fb .sub .f32 1065353216 lo))
def seqOk (lo hi a b : Nat) : Bool := barsOk a b && seqIn lo hi
theorem seq_facts {lo hi : Nat} (wl : Wf .f32 lo) (wh : Wf .f32 hi) (h : seqIn lo hi = true) : ∃ q1 d1 d2 q2 : Nat, (∀ W, flR .quo .f32 hi lo W = q1) ∧ q1 ≤ 2139095040 ∧ q1 ≠ 0 ∧ (∀ W, flR .sub .f32 1065353216 hi W = d1) ∧ (∀ W, flR .sub .f32 1065353216 lo W = d2) ∧ (∀ W, flR .quo .f32 d1 d2 W = q2) ∧ q2 ≤ 2139095040 ∧ q2 ≠ 0 ∧ sUp lo hi = logN q1 ∧ sDn lo hi = logN q2 := by
  obtain ⟨a1, a2, b1, b2, hlt, hone⟩ := seqIn_facts wl wh h
  obtain ⟨u1, u2, u3⟩ := one_sub (a := hi) hone
  obtain ⟨v1, v2, v3⟩ := one_sub (a := lo) (by omega)
  obtain ⟨s1, s2⟩ := quo_dn b1 a1 a2 (by omega)
  obtain ⟨t1, t2⟩ := quo_dn u3 v3 v2 v1
  have hz1 : fb .quo .f32 hi lo ≠ 0 := fun e => b2 (Nat.le_zero.1 (e ▸ s1))
  have hz2 : fb .quo .f32 (fb .sub .f32 1065353216 hi) (fb .sub .f32 1065353216 lo) ≠ 0 := fun e => u2 (Nat.le_zero.1 (e ▸ t1))
  have hu : fb .sub .f32 1065353216 hi ≤ 2139095040 := Nat.le_trans u1 (by decide)
  have hv : fb .sub .f32 1065353216 lo ≤ 2139095040 := Nat.le_trans v1 (by decide)
  have hL1 : sUp lo hi = logN (fb .quo .f32 hi lo) := by unfold sUp; rfl
  have hL2 : sDn lo hi = logN (fb .quo .f32 (fb .sub .f32 1065353216 hi) (fb .sub .f32 1065353216 lo)) := by unfold sDn; rfl
  generalize sUp lo hi = B1 at *
  generalize sDn lo hi = B2 at *
  have hd1 : ∀ W, flR .sub .f32 1065353216 hi W = fb .sub .f32 1065353216 hi := flR_nn rfl hu
  have hd2 : ∀ W, flR .sub .f32 1065353216 lo W = fb .sub .f32 1065353216 lo := flR_nn rfl hv
  have hq1 : ∀ W, flR .quo .f32 hi lo W = fb .quo .f32 hi lo := flR_nn rfl s2
  generalize fb .sub .f32 1065353216 hi = d1 at *
  generalize fb .sub .f32 1065353216 lo = d2 at *
  generalize fb .quo .f32 hi lo = q1 at *
  have hq2 : ∀ W, flR .quo .f32 d1 d2 W = fb .quo .f32 d1 d2 := flR_nn rfl t2
  generalize fb .quo .f32 d1 d2 = q2 at *
  exact ⟨q1, d1, d2, q2, hq1, s2, hz1, hd1, hd2, hq2, t2, hz2, hL1, hL2⟩
/-- How a test ends with a sum. -/
def seqEnd (A B s : Nat) : Int := if (FloatKind.f32.format.order s A == some .lt || FloatKind.f32.format.order s A == some .eq) = true then -1 else if (FloatKind.f32.format.order s B == some .gt || FloatKind.f32.format.order s B == some .eq) = true then 1 else 0
theorem seqEnd_cn (A B s : Nat) : seqEnd (cn .f32 A) (cn .f32 B) (cn .f32 s) = seqEnd A B s := by unfold seqEnd; rw [order_cn, order_cn]
def sPk (g : Bool) (dn up : Nat) : Nat := if g = true then dn else up
theorem sPk_t (dn up : Nat) : sPk true dn up = dn := rfl
theorem sPk_f (dn up : Nat) : sPk false dn up = up := rfl
def seqRes (A B up dn : Nat) : List Bool → Nat → Int → Int × Int
  | [], _, k => (0, k)
  | g :: l, s, k => if seqEnd A B (fb .add .f32 s (sPk g dn up)) = 0 then seqRes A B up dn l (fb .add .f32 s (sPk g dn up)) (k + 1) else (seqEnd A B (fb .add .f32 s (sPk g dn up)), k + 1)
theorem seqRes_on {A B up dn : Nat} {xs : List Bool} {k : Nat} {g : Bool} {s : Nat} (hg : xs[k]? = some g) (h0 : seqEnd A B (fb .add .f32 s (sPk g dn up)) = 0) :
    seqRes A B up dn (xs.drop k) s (k : Int) = seqRes A B up dn (xs.drop (k + 1)) (fb .add .f32 s (sPk g dn up)) ((k + 1 : Nat) : Int) := by
  obtain ⟨hk, hx⟩ := List.getElem?_eq_some_iff.1 hg
  rw [List.drop_eq_getElem_cons hk, hx, seqRes, if_pos h0]
  rfl
theorem seqRes_end {A B up dn : Nat} {xs : List Bool} {k : Nat} {g : Bool} {s : Nat} (hg : xs[k]? = some g) (h0 : seqEnd A B (fb .add .f32 s (sPk g dn up)) ≠ 0) :
    seqRes A B up dn (xs.drop k) s (k : Int) = (seqEnd A B (fb .add .f32 s (sPk g dn up)), (k : Int) + 1) := by
  obtain ⟨hk, hx⟩ := List.getElem?_eq_some_iff.1 hg
  rw [List.drop_eq_getElem_cons hk, hx, seqRes, if_neg h0]
abbrev sqA (a b c d : Nat) : Array Value := #[.float .f32 a, .float .f32 b, .float .f32 c, .float .f32 d]
set_option maxHeartbeats 2000000 in
theorem i_ends {a b c d s : Nat} {w : World} : Calls Try.prog 71 #[.agg (sqA a b c d), .float .f32 s] w fun e w' => e = .returned (.int .i64 (seqEnd a b s)) ∧ Below w.heap.size w w' := by
  have hp : Hid (seqEnd a b s = if (FloatKind.f32.format.order s a == some .lt || FloatKind.f32.format.order s a == some .eq) = true then -1 else if (FloatKind.f32.format.order s b == some .gt || FloatKind.f32.format.order s b == some .eq) = true then 1 else 0) := hide rfl
  cases h1 : (FloatKind.f32.format.order s a == some .lt || FloatKind.f32.format.order s a == some .eq) with
  | true =>
    rw [h1, if_pos rfl] at hp
    go_enter Try.func71, Try.ntmps71
    go_wp2
    go_ret
    exact ⟨ret_int hp.out.symm, (by repeat (first | exact Below.refl _ _ | exact below_drewN (by assumption) _ | refine below_drewN ?_ _ | refine Below.alloc ?_ (by first | (simp; done) | (simp; omega)) _ | assumption))⟩
  | false =>
    cases h2 : (FloatKind.f32.format.order s b == some .gt || FloatKind.f32.format.order s b == some .eq) with
    | true =>
      rw [h1, h2, if_neg (by simp), if_pos rfl] at hp
      go_enter Try.func71, Try.ntmps71
      go_wp2
      go_ret
      exact ⟨ret_int hp.out.symm, (by repeat (first | exact Below.refl _ _ | exact below_drewN (by assumption) _ | refine below_drewN ?_ _ | refine Below.alloc ?_ (by first | (simp; done) | (simp; omega)) _ | assumption))⟩
    | false =>
      rw [h1, h2, if_neg (by simp), if_neg (by simp)] at hp
      go_enter Try.func71, Try.ntmps71
      go_wp2
      go_ret
      exact ⟨ret_int hp.out.symm, (by repeat (first | exact Below.refl _ _ | exact below_drewN (by assumption) _ | refine below_drewN ?_ _ | refine Below.alloc ?_ (by first | (simp; done) | (simp; omega)) _ | assumption))⟩
/-- What a test that is read looks like. -/
def SeqR (lo hi a b : Nat) (e : Ending) : Prop := ∃ x1 x2 x3 x4 : Nat, e = .returned (.tuple #[.agg (sqA x1 x2 x3 x4), .bool (seqOk lo hi a b)]) ∧ (seqOk lo hi a b = true → cn .f32 x1 = bars1 a b ∧ cn .f32 x2 = bars2 a b ∧ cn .f32 x3 = sUp lo hi ∧ cn .f32 x4 = sDn lo hi)
theorem SeqR.no {lo hi a b : Nat} {x1 x2 x3 x4 : Nat} (h : seqOk lo hi a b = false) : SeqR lo hi a b (.returned (.tuple #[.agg (sqA x1 x2 x3 x4), .bool false])) := by
  unfold SeqR; rw [h]; exact ⟨_, _, _, _, rfl, fun h => by cases h⟩
theorem SeqR.yes {lo hi a b : Nat} {x1 x2 x3 x4 : Nat} (h : seqOk lo hi a b = true) (h1 : cn .f32 x1 = bars1 a b ∧ cn .f32 x2 = bars2 a b ∧ cn .f32 x3 = sUp lo hi ∧ cn .f32 x4 = sDn lo hi) : SeqR lo hi a b (.returned (.tuple #[.agg (sqA x1 x2 x3 x4), .bool true])) := by
  unfold SeqR; rw [h]; exact ⟨_, _, _, _, rfl, fun _ => h1⟩
end Go.Proofs.Yteabfkgbakoljaa

/-
  Alarms, in plain lists: a run of numbers above a bar that is longer than a delay ends just where the number and those of delay places before it are above the bar.
-/
namespace Go.Proofs.Yteabfkgbakoljaa
open Go.RowKit Fl
set_option linter.unusedVariables false

/-- Is a number greater than another one. -/
def gtB (x b : Nat) : Bool := FloatKind.f32.format.order x b == some .gt

/-- Are the number at an index, and those of delay places before it, above a bar. -/
def alarmB (xs : List Nat) (bar delay at_ : Nat) : Bool := decide (delay ≤ at_) && (List.range (delay + 1)).all fun k => gtB (xs.getD (at_ - delay + k) 0) bar

def alarmsL (xs : List Nat) (bar delay : Nat) : List Nat := (List.range xs.length).filter (alarmB xs bar delay)

/-- r is the length of the run that ends before index i. -/
def RunAt (xs : List Nat) (bar r i : Nat) : Prop := r ≤ i ∧ (∀ j, i - r ≤ j → j < i → gtB (xs.getD j 0) bar = true) ∧ (r < i → gtB (xs.getD (i - r - 1) 0) bar = false)

theorem RunAt.zero (xs : List Nat) (bar : Nat) : RunAt xs bar 0 0 := ⟨Nat.le_refl _, fun j h1 h2 => by omega, fun h => by omega⟩
theorem RunAt.more {xs : List Nat} {bar r i x : Nat} (h : RunAt xs bar r i) (hx : xs[i]? = some x) (hg : gtB x bar = true) : RunAt xs bar (r + 1) (i + 1) := by
  obtain ⟨h1, h2, h3⟩ := h
  refine ⟨by omega, fun j hj hj' => ?_, fun hr => ?_⟩
  · rcases Nat.lt_or_ge j i with hi | hi
    · exact h2 j (by omega) hi
    · obtain rfl : j = i := by omega
      rw [List.getD_eq_getElem?_getD, hx]; exact hg
  · rw [show i + 1 - (r + 1) - 1 = i - r - 1 by omega]; exact h3 (by omega)
theorem RunAt.none {xs : List Nat} {bar i x : Nat} (hx : xs[i]? = some x) (hg : gtB x bar = false) : RunAt xs bar 0 (i + 1) := by
  refine ⟨by omega, fun j hj hj' => by omega, fun _ => ?_⟩
  rw [show i + 1 - 0 - 1 = i by omega, List.getD_eq_getElem?_getD, hx]; exact hg
theorem RunAt.iff {xs : List Nat} {bar r i delay : Nat} (h : RunAt xs bar r (i + 1)) : alarmB xs bar delay i = decide (delay < r) := by
  obtain ⟨h1, h2, h3⟩ := h
  rw [Bool.eq_iff_iff]
  unfold alarmB
  simp only [Bool.and_eq_true, decide_eq_true_eq, List.all_eq_true, List.mem_range]
  constructor
  · rintro ⟨hd, ha⟩
    rcases Nat.lt_or_ge delay r with hlt | hge
    · exact hlt
    · have := ha (delay - r) (by omega)
      rw [show i - delay + (delay - r) = i + 1 - r - 1 by omega, h3 (by omega)] at this
      cases this
  · intro hlt
    exact ⟨by omega, fun k hk => h2 _ (by omega) (by omega)⟩

/-- The indices before i. -/
def alarmsTo (xs : List Nat) (bar delay i : Nat) : List Nat := (List.range i).filter (alarmB xs bar delay)
theorem alarmsTo_succ (xs : List Nat) (bar delay i : Nat) : alarmsTo xs bar delay (i + 1) = alarmsTo xs bar delay i ++ (if alarmB xs bar delay i = true then [i] else []) := by
  unfold alarmsTo
  rw [List.range_succ, List.filter_append]
  congr 1
  by_cases h : alarmB xs bar delay i = true <;> simp [h]
theorem alarmsTo_all (xs : List Nat) (bar delay : Nat) : alarmsTo xs bar delay xs.length = alarmsL xs bar delay := rfl
theorem alarmsTo_le (xs : List Nat) (bar delay i : Nat) : (alarmsTo xs bar delay i).length ≤ i := by
  have := List.length_filter_le (alarmB xs bar delay) (List.range i)
  simpa [alarmsTo] using this

/-- The first index, -1 if there is none. -/
def firstOf (l : List Nat) : Int := match l with | [] => -1 | i :: _ => i

theorem firstOf_at {xs : List Nat} {bar delay i : Nat} (hi : i < xs.length) (h0 : alarmsTo xs bar delay i = []) (h1 : alarmB xs bar delay i = true) : firstOf (alarmsL xs bar delay) = i := by
  have : alarmsL xs bar delay = alarmsTo xs bar delay (i + 1) ++ (List.range' (i + 1) (xs.length - (i + 1))).filter (alarmB xs bar delay) := by
    unfold alarmsL alarmsTo
    rw [← List.filter_append]
    congr 1
    rw [List.range_eq_range', List.range_eq_range', show xs.length = (i + 1) + (xs.length - (i + 1)) by omega, ← List.range'_append_1]
    simp
  rw [this, alarmsTo_succ, h0, if_pos h1]; rfl
end Go.Proofs.Yteabfkgbakoljaa

/-
  Contracts of the alarms: the program's and the reference's.
-/
namespace Go.Proofs.Yteabfkgbakoljaa
open Go.RowKit Fl Mem
set_option linter.unusedVariables false
set_option maxRecDepth 100000

/-- What AlarmAt returns. -/
def alarmOk (xs : List Nat) (bar : Nat) (d : Int) : Bool := isSig xs && fin .f32 bar && inB d 0 ((xs.length : Int) - 1)
def alarmAtR (xs : List Nat) (bar : Nat) (d : Int) : Int := if alarmOk xs bar d = true then firstOf (alarmsL xs bar d.toNat) else 0

end Go.Proofs.Yteabfkgbakoljaa

/-
  Contracts of the alarm's states: the program's and the reference's.
-/
namespace Go.Proofs.Yteabfkgbakoljaa
open Go.RowKit Fl Mem
set_option linter.unusedVariables false
set_option maxRecDepth 100000

theorem info_bool : (Try.prog.info? 4).map (fun i => (i.zero, i.size, i.bytes)) = some (some (.bool false), 1, 1) := by kernel_rfl
abbrev bl (xs : List Bool) : List Value := xs.map Value.bool

def ltB (x b : Nat) : Bool := FloatKind.f32.format.order x b == some .lt
/-- The state of the alarm behind a number. -/
def stepB (on off : Nat) (is : Bool) (x : Nat) : Bool := if gtB x on = true then true else if ltB x off = true then false else is
def isAt (xs : List Nat) (on off k : Nat) : Bool := (xs.take k).foldl (stepB on off) false
def statesTo (xs : List Nat) (on off k : Nat) : List Bool := (List.range k).map fun i => isAt xs on off (i + 1)
theorem isAt_succ {xs : List Nat} {on off k x : Nat} (h : xs[k]? = some x) : isAt xs on off (k + 1) = stepB on off (isAt xs on off k) x := by
  unfold isAt; rw [take_eq h, List.foldl_append]; rfl
theorem statesTo_succ (xs : List Nat) (on off k : Nat) : statesTo xs on off (k + 1) = statesTo xs on off k ++ [isAt xs on off (k + 1)] := by
  unfold statesTo; rw [List.range_succ, List.map_append]; rfl
theorem statesTo_len (xs : List Nat) (on off k : Nat) : (statesTo xs on off k).length = k := by simp [statesTo]
def statesOk (xs : List Nat) (on off : Nat) : Bool := isSig xs && fin .f32 on && fin .f32 off && !gtB off on
def statesR (xs : List Nat) (on off : Nat) : List Bool := if statesOk xs on off = true then statesTo xs on off xs.length else []
theorem statesR_no {xs : List Nat} {on off : Nat} (h : statesOk xs on off = false) : statesR xs on off = [] := by unfold statesR; rw [h]; rfl



theorem statesR_le (xs : List Nat) (on off : Nat) : (statesR xs on off).length ≤ 1000 := by
  unfold statesR
  split
  · rename_i h
    rw [statesTo_len]
    have h1 : isSig xs = true := by unfold statesOk at h; simp only [Bool.and_eq_true] at h; exact h.1.1.1
    have := (isSig_len h1).2
    omega
  · simp
end Go.Proofs.Yteabfkgbakoljaa

/-
  A sequence test: the program's walk.
-/
namespace Go.Proofs.Yteabfkgbakoljaa
open Go.RowKit Mem Fl
set_option linter.unusedVariables false
set_option maxRecDepth 100000

set_option maxHeartbeats 4000000 in
theorem i_asSequence {lo hi a b : Nat} {w : World} (wl : Wf .f32 lo) (wh : Wf .f32 hi) (wa : Wf .f32 a) (wb : Wf .f32 b) :
    Calls Try.prog 70 #[.float .f32 lo, .float .f32 hi, .float .f32 a, .float .f32 b] w fun e w' => SeqR lo hi a b e ∧ Below w.heap.size w w' := by
  have hp : Hid (seqOk lo hi a b = (barsOk a b && ((innr lo 1065353216 && innr hi 1065353216) && (FloatKind.f32.format.order lo hi == some .lt)))) := hide rfl
  have HF : Hid (seqIn lo hi = true → _) := hide (fun h => seq_facts wl wh h)
  have HIn : Hid (seqIn lo hi = ((innr lo 1065353216 && innr hi 1065353216) && (FloatKind.f32.format.order lo hi == some .lt))) := hide rfl
  have HB : ∀ W, _ := fun W => i_SequenceBars (w := W) wa wb
  replace HB := hide HB
  clear wl wh wa wb
  go_enter Try.func70, Try.ntmps70
  go_wp2_with fail
  refine (HB.out _).mono ?_
  rintro e w1 ⟨⟨x, y, rfl, hx, hy⟩, hb⟩
  have blkB := (Blk.new w 88 (sqA 0 0 0 0)).below hb (by simp)
  have bel1 : Below w.heap.size w w1 := ((Below.refl _ _).alloc (Nat.le_refl _) _).trans (hb.mono (by simp))
  clear hb HB
  cases h1 : barsOk a b with
  | false =>
    have HN : Hid (seqOk lo hi a b = false) := hide (by rw [hp.out, h1]; rfl)
    have d0 := blkB.cell 0
    have d1 := blkB.cell 1
    have d2 := blkB.cell 2
    have d3 := blkB.cell 3
    have f0 := blkB.frozen 0
    have f1 := blkB.frozen 1
    have f2 := blkB.frozen 2
    have f3 := blkB.frozen 3
    clear hx hy
    go_wp2
    refine bodyPost_ret (results_rowT (P := Try.prog) rfl _ _ w.heap.size 88 (sqA 0 0 0 0) (0, 0) _ rfl ((((blkB.set_ 0 _).set_ 1 _).set_ 2 _).set_ 3 _) Try.underlying88 rfl (by kernel_rfl)) rfl ?_
    exact ⟨SeqR.no HN.out, ((((bel1.setCell (Nat.le_refl _) _).setCell (Nat.le_refl _) _).setCell (Nat.le_refl _) _).setCell (Nat.le_refl _) _)⟩
  | true =>
    rw [h1, if_pos rfl] at hx hy
    have HX := hide hx
    have HY := hide hy
    clear hx hy
    cases h2 : innr lo 1065353216 with
    | false =>
      have HN : Hid (seqOk lo hi a b = false) := hide (by rw [hp.out, h1, h2]; rfl)
      have d0 := blkB.cell 0
      have d1 := blkB.cell 1
      have d2 := blkB.cell 2
      have d3 := blkB.cell 3
      have f0 := blkB.frozen 0
      have f1 := blkB.frozen 1
      have f2 := blkB.frozen 2
      have f3 := blkB.frozen 3
      go_wp2_with (go_at_call 67; refine i_isInner.mono ?_; rintro e w' ⟨rfl, rfl⟩; rw [h2])
      refine bodyPost_ret (results_rowT (P := Try.prog) rfl _ _ w.heap.size 88 (sqA 0 0 0 0) (0, 0) _ rfl ((((blkB.set_ 0 _).set_ 1 _).set_ 2 _).set_ 3 _) Try.underlying88 rfl (by kernel_rfl)) rfl ?_
      exact ⟨SeqR.no HN.out, ((((bel1.setCell (Nat.le_refl _) _).setCell (Nat.le_refl _) _).setCell (Nat.le_refl _) _).setCell (Nat.le_refl _) _)⟩
    | true =>
      cases h3 : innr hi 1065353216 with
      | false =>
        have HN : Hid (seqOk lo hi a b = false) := hide (by rw [hp.out, h1, h2, h3]; rfl)
        have d0 := blkB.cell 0
        have d1 := blkB.cell 1
        have d2 := blkB.cell 2
        have d3 := blkB.cell 3
        have f0 := blkB.frozen 0
        have f1 := blkB.frozen 1
        have f2 := blkB.frozen 2
        have f3 := blkB.frozen 3
        go_wp2_with (go_at_call 67; refine i_isInner.mono ?_; rintro e w' ⟨rfl, rfl⟩; (first | rw [h2] | rw [h3]))
        refine bodyPost_ret (results_rowT (P := Try.prog) rfl _ _ w.heap.size 88 (sqA 0 0 0 0) (0, 0) _ rfl ((((blkB.set_ 0 _).set_ 1 _).set_ 2 _).set_ 3 _) Try.underlying88 rfl (by kernel_rfl)) rfl ?_
        exact ⟨SeqR.no HN.out, ((((bel1.setCell (Nat.le_refl _) _).setCell (Nat.le_refl _) _).setCell (Nat.le_refl _) _).setCell (Nat.le_refl _) _)⟩
      | true =>
        cases h4 : (FloatKind.f32.format.order lo hi == some .lt) with
        | false =>
          have HN : Hid (seqOk lo hi a b = false) := hide (by rw [hp.out, h1, h2, h3, h4]; rfl)
          have d0 := blkB.cell 0
          have d1 := blkB.cell 1
          have d2 := blkB.cell 2
          have d3 := blkB.cell 3
          have f0 := blkB.frozen 0
          have f1 := blkB.frozen 1
          have f2 := blkB.frozen 2
          have f3 := blkB.frozen 3
          go_wp2_with (go_at_call 67; refine i_isInner.mono ?_; rintro e w' ⟨rfl, rfl⟩; (first | rw [h2] | rw [h3]))
          refine bodyPost_ret (results_rowT (P := Try.prog) rfl _ _ w.heap.size 88 (sqA 0 0 0 0) (0, 0) _ rfl ((((blkB.set_ 0 _).set_ 1 _).set_ 2 _).set_ 3 _) Try.underlying88 rfl (by kernel_rfl)) rfl ?_
          exact ⟨SeqR.no HN.out, ((((bel1.setCell (Nat.le_refl _) _).setCell (Nat.le_refl _) _).setCell (Nat.le_refl _) _).setCell (Nat.le_refl _) _)⟩
        | true =>
          have HN : Hid (seqOk lo hi a b = true) := hide (by rw [hp.out, h1, h2, h3, h4]; rfl)
          obtain ⟨q1, e1, e2, q2, Q1, k1, k2, D1, D2, Q2, k3, k4, L1, L2⟩ := HF.out (by rw [HIn.out, h2, h3, h4]; rfl)
          replace Q1 := hide Q1
          replace D1 := hide D1
          replace D2 := hide D2
          replace Q2 := hide Q2
          have hL := hide (And.intro L1 L2)
          replace k1 := hide k1
          replace k2 := hide k2
          replace k3 := hide k3
          replace k4 := hide k4
          clear L1 L2 HF HIn hp
          have d0 := blkB.cell 0
          have d1 := blkB.cell 1
          have d2 := blkB.cell 2
          have d3 := blkB.cell 3
          have f0 := blkB.frozen 0
          have f1 := blkB.frozen 1
          have f2 := blkB.frozen 2
          have f3 := blkB.frozen 3
          have hlt := blkB.lt
          go_wp2_with (first
            | (go_at_call 67; refine i_isInner.mono ?_; rintro e w' ⟨rfl, rfl⟩; (first | rw [h2] | rw [h3]))
            | (go_at_call 68; rw [Q1.out]; refine (i_LogNumber k1.out k2.out).mono ?_; rintro e w3 ⟨z1, rfl, hz1, m1, rfl⟩)
            | (go_at_call 68; rw [D1.out, D2.out, Q2.out]; refine (i_LogNumber k3.out k4.out).mono ?_; rintro e w4 ⟨z2, rfl, hz2, m2, rfl⟩))
          refine bodyPost_ret (results_rowT (P := Try.prog) rfl _ _ w.heap.size 88 (sqA x y z1 z2) (0, 0) _ rfl (((((blkB.drewN _).set_ 0 _).set_ 1 _).set_ 2 _).set_ 3 _) Try.underlying88 rfl (by kernel_rfl)) rfl ?_
          replace bel1 := below_drewN bel1
          exact ⟨SeqR.yes HN.out ⟨HX.out, HY.out, by rw [hL.out.1]; exact hz1.out, by rw [hL.out.2]; exact hz2.out⟩, (((((bel1 _).setCell (Nat.le_refl _) _).setCell (Nat.le_refl _) _).setCell (Nat.le_refl _) _).setCell (Nat.le_refl _) _)⟩
def tOk (xs : List Bool) (lo hi a b : Nat) : Bool := seqOk lo hi a b && decide (xs.length ≤ 256)
def tR (xs : List Bool) (lo hi a b : Nat) : Int × Int := if tOk xs lo hi a b = true then seqRes (bars1 a b) (bars2 a b) (sUp lo hi) (sDn lo hi) xs 0 0 else (0, 0)
theorem tR_no {xs : List Bool} {lo hi a b : Nat} (h : tOk xs lo hi a b = false) : tR xs lo hi a b = (0, 0) := by unfold tR; rw [h]; rfl
theorem tR_yes {xs : List Bool} {lo hi a b : Nat} (h : tOk xs lo hi a b = true) : tR xs lo hi a b = seqRes (bars1 a b) (bars2 a b) (sUp lo hi) (sDn lo hi) xs 0 0 := by unfold tR; rw [h]; rfl
theorem ret_test {a b c d : Int} {o p : Bool} (h1 : (a, b) = (c, d)) (h2 : o = p) : Ending.returned (.tuple #[.int .i64 a, .int .i64 b, .bool o]) = .returned (.tuple #[.int .i64 c, .int .i64 d, .bool p]) := by
  injection h1 with h3 h4; subst h3; subst h4; subst h2; rfl
set_option maxHeartbeats 4000000 in
theorem i_SequenceTest {A : Option Addr} {n c : Nat} {xs : List Bool} {lo hi a b : Nat} {w : World} (h : Reads w w.heap.size 1 A n (bl xs)) (hn : n ≤ 1048576) (wl : Wf .f32 lo) (wh : Wf .f32 hi) (wa : Wf .f32 a) (wb : Wf .f32 b) :
    Calls Try.prog 19 #[.slice A n c, .float .f32 lo, .float .f32 hi, .float .f32 a, .float .f32 b] w fun e w' => e = .returned (.tuple #[.int .i64 (tR xs lo hi a b).1, .int .i64 (tR xs lo hi a b).2, .bool (tOk xs lo hi a b)]) ∧ Below w.heap.size w w' := by
  have Hl := hide h.map_len
  have hT : Hid (tOk xs lo hi a b = (seqOk lo hi a b && decide (xs.length ≤ 256))) := hide rfl
  have HB : ∀ W, _ := fun W => i_asSequence (w := W) wl wh wa wb
  replace HB := hide HB
  clear wl wh wa wb
  go_enter Try.func19, Try.ntmps19
  go_wp2_with fail
  refine (HB.out _).mono ?_
  rintro e w1 ⟨⟨x1, x2, x3, x4, rfl, hx⟩, hb⟩
  clear HB
  cases h1 : seqOk lo hi a b with
  | false =>
    have HN : Hid (tOk xs lo hi a b = false) := hide (by rw [hT.out, h1]; rfl)
    clear hx
    go_wp2
    go_ret3
    exact ⟨ret_test (by rw [tR_no HN.out]) HN.out.symm, hb.alloc hb.size _⟩
  | true =>
    obtain ⟨c1, c2, c3, c4⟩ := hx h1
    have C1 := hide c1
    have C2 := hide c2
    have C3 := hide c3
    have C4 := hide c4
    clear hx c1 c2 c3 c4
    by_cases hm : n ≤ 256
    · have hmI : ¬ (256 : Int) < (n : Int) := by omega
      have HN : Hid (tOk xs lo hi a b = true) := hide (by rw [hT.out, h1, Hl.out, decide_eq_true hm]; rfl)
      have HR := hide (tR_yes HN.out)
      have blk := Blk.new w1 88 (sqA x1 x2 x3 x4)
      have bel1 := hb.alloc hb.size (.cells (sqA x1 x2 x3 x4) 88)
      have hr1 := hide (h.below bel1)
      have hgt : w1.heap.size < (w1.alloc (.cells (sqA x1 x2 x3 x4) 88)).heap.size := by simp
      have hsz1 := hb.size
      clear h hb h1 hm
      go_wp2
      go_loopw [15, 36] (fun s i wr => ∃ k sz : Nat, k ≤ n ∧ i = .int .i64 k ∧ s = .float .f32 sz ∧ Hid (seqRes (bars1 a b) (bars2 a b) (sUp lo hi) (sDn lo hi) (xs.drop k) (cn .f32 sz) (k : Int) = tR xs lo hi a b) ∧ Hid (Blk wr w1.heap.size 88 (sqA x1 x2 x3 x4)) ∧ Hid (Reads wr w.heap.size 1 A n (bl xs)) ∧ Below w.heap.size w wr) (fun _ i _ => n - (intOf i).toNat)
      case atStart => exact ⟨0, 0, Nat.zero_le _, rfl, rfl, hide (by rw [HR.out, cn_zero]; rfl), hide blk, hr1, bel1⟩
      case round =>
        clear blk bel1 hr1 hgt
        obtain ⟨k, sz, hk, rfl, rfl, hres, hblk, hrd, hbel⟩ := hrel
        by_cases hk2 : k < n
        · obtain ⟨ad, g, rfl, _, hx, hc⟩ := hrd.out.map_at hk2
          have hkI : (k : Int) < (n : Int) := by omega
          have e0 := hblk.out.cell 0
          have e1 := hblk.out.cell 1
          have e2 := hblk.out.cell 2
          have e3 := hblk.out.cell 3
          have hblt := hblk.out.lt
          have HX := hide hx
          have hszb := hbel.size
          clear hx
          cases g with
          | true =>
            have HS : Hid (∀ W, fb .add .f32 (cn .f32 sz) (sPk true (sDn lo hi) (sUp lo hi)) = cn .f32 (flR .add .f32 sz x4 W)) := hide (fun W => by rw [sPk_t, ← C4.out, fb_cn, cn_flR])
            have HE : Hid (∀ W, seqEnd (bars1 a b) (bars2 a b) (cn .f32 (flR .add .f32 sz x4 W)) = seqEnd x1 x2 (flR .add .f32 sz x4 W)) := hide (fun W => by rw [← C1.out, ← C2.out, seqEnd_cn])
            go_wp2_with fail
            refine i_ends.mono ?_
            rintro e w3 ⟨rfl, hb3⟩
            generalize hZ : flR .add .f32 sz x4 wr = Z at *
            have HEz := HE.out wr
            rw [hZ] at HEz
            have HSz := HS.out wr
            rw [hZ] at HSz
            have hbel3 : Below w.heap.size w w3 := (below_drewN hbel _).trans (hb3.mono hszb)
            have hblk3 := hide ((hblk.out.drewN _).below hb3 hblt)
            have hrd3 := hide ((hrd.out.drewN _).below (hb3.mono hszb))
            by_cases h0 : seqEnd x1 x2 Z = 0
            · have HO := hide ((seqRes_on HX.out (by rw [HSz, HEz]; exact h0)).symm.trans hres.out)
              rw [h0]
              rw [HSz] at HO
              go_wp2
              go_roundw
              case rel => exact ⟨k + 1, Z, by omega, by go_num, rfl, HO, hblk3, hrd3, hbel3⟩
              case measure => (simp [intOf]; try omega)
            · have HO := hide ((seqRes_end HX.out (by rw [HSz, HEz]; exact h0)).symm.trans hres.out)
              rw [HSz, HEz] at HO
              generalize seqEnd x1 x2 Z = E at *
              go_wp2
              go_ret3
              exact ⟨ret_test HO.out HN.out.symm, hbel3⟩
          | false =>
            have HS : Hid (∀ W, fb .add .f32 (cn .f32 sz) (sPk false (sDn lo hi) (sUp lo hi)) = cn .f32 (flR .add .f32 sz x3 W)) := hide (fun W => by rw [sPk_f, ← C3.out, fb_cn, cn_flR])
            have HE : Hid (∀ W, seqEnd (bars1 a b) (bars2 a b) (cn .f32 (flR .add .f32 sz x3 W)) = seqEnd x1 x2 (flR .add .f32 sz x3 W)) := hide (fun W => by rw [← C1.out, ← C2.out, seqEnd_cn])
            go_wp2_with fail
            refine i_ends.mono ?_
            rintro e w3 ⟨rfl, hb3⟩
            generalize hZ : flR .add .f32 sz x3 wr = Z at *
            have HEz := HE.out wr
            rw [hZ] at HEz
            have HSz := HS.out wr
            rw [hZ] at HSz
            have hbel3 : Below w.heap.size w w3 := (below_drewN hbel _).trans (hb3.mono hszb)
            have hblk3 := hide ((hblk.out.drewN _).below hb3 hblt)
            have hrd3 := hide ((hrd.out.drewN _).below (hb3.mono hszb))
            by_cases h0 : seqEnd x1 x2 Z = 0
            · have HO := hide ((seqRes_on HX.out (by rw [HSz, HEz]; exact h0)).symm.trans hres.out)
              rw [h0]
              rw [HSz] at HO
              go_wp2
              go_roundw
              case rel => exact ⟨k + 1, Z, by omega, by go_num, rfl, HO, hblk3, hrd3, hbel3⟩
              case measure => (simp [intOf]; try omega)
            · have HO := hide ((seqRes_end HX.out (by rw [HSz, HEz]; exact h0)).symm.trans hres.out)
              rw [HSz, HEz] at HO
              generalize seqEnd x1 x2 Z = E at *
              go_wp2
              go_ret3
              exact ⟨ret_test HO.out HN.out.symm, hbel3⟩
        · obtain rfl : k = n := by omega
          have hkI : ¬ (k : Int) < (k : Int) := by omega
          have HO : Hid ((0, (k : Int)) = tR xs lo hi a b) := hide (by
            have := hres.out
            rwa [List.drop_eq_nil_of_le (by rw [Hl.out]; exact Nat.le_refl _)] at this)
          go_wp2
          go_ret3
          exact ⟨ret_test HO.out HN.out.symm, hbel⟩
    · have hmI : (256 : Int) < (n : Int) := by omega
      have HN : Hid (tOk xs lo hi a b = false) := hide (by rw [hT.out, h1, Hl.out, decide_eq_false hm]; rfl)
      clear hm
      go_wp2
      go_ret3
      exact ⟨ret_test (by rw [tR_no HN.out]) HN.out.symm, hb.alloc hb.size _⟩
end Go.Proofs.Yteabfkgbakoljaa
