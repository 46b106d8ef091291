/-
  A sequence test: its plain law; what it is made of, both sides.
-/
import Derived.Test.YtolbibpmngmpdaaSeqB
import Derived.Laws.ResultCell
namespace Go.Proofs.Ytolbibpmngmpdaa
open Go.RowKit Mem Fl
set_option linter.unusedVariables false
set_option maxRecDepth 100000

theorem results_rowT {P : Program} {fn : Func} {p u : Tmp} {ty : TypeId} (h : fn.results = #[.cell p ty, .tmp u]) (tmps : Array Value) (w : World) (g : Nat) (t : TypeId) (cs : Array Value) (fr : Nat × Nat) (d : TypeDesc)
    (hp : tmps.getD p undef = .pointer (some ⟨g, 0, none⟩)) (hg : w.heap[g]? = some (.cells cs t fr))
    (hu : P.underlying ty = some d) (hd : (match d with | .struct _ | .array _ _ => true | _ => false) = true) (hi : (P.info? ty).map (·.size) = some cs.size) :
    (results fn tmps).run P w = .ok (.tuple #[.agg cs, tmps.getD u undef]) w := by
  rw [results_cell_tmp h, hp]
  simp [asAddr, run_loadVar_row w g t ty cs fr d hg hu hd hi, Result.andThen]
def seqIn (lo hi : Nat) : Bool := (innr lo 1065353216 && innr hi 1065353216) && (FloatKind.f32.format.order lo hi == some .lt)
def seqIn' (lo hi : Nat) : Bool := ((FloatKind.f32.format.order lo 0 == some .gt) && (FloatKind.f32.format.order lo hi == some .lt)) && (FloatKind.f32.format.order hi 1065353216 == some .lt)
theorem seqIn_facts {lo hi : Nat} (wl : Wf .f32 lo) (wh : Wf .f32 hi) (h : seqIn lo hi = true) : Nn lo ∧ lo ≠ 0 ∧ Nn hi ∧ hi ≠ 0 ∧ lo < hi ∧ hi < 1065353216 := by
  unfold seqIn at h
  rw [Bool.and_eq_true, Bool.and_eq_true] at h
  obtain ⟨⟨h1, h2⟩, h3⟩ := h
  obtain ⟨a1, a2, a3⟩ := innr_pos wl (by decide) h1
  obtain ⟨b1, b2, b3⟩ := innr_pos wh (by decide) h2
  have hi' : FloatKind.f32.format.infRung = 2139095040 := f32_inf
  rw [lt_pos (k := .f32) (by rw [hi']; exact a1) (by rw [hi']; exact b1)] at h3
  exact ⟨a1, a2, b1, b2, of_decide_eq_true h3, b3⟩
theorem seqIn_eq {lo hi : Nat} (wl : Wf .f32 lo) (wh : Wf .f32 hi) : seqIn' lo hi = seqIn lo hi := by
  have hi' : FloatKind.f32.format.infRung = 2139095040 := f32_inf
  cases h : seqIn' lo hi with
  | false =>
    cases h2 : seqIn lo hi with
    | false => rfl
    | true =>
      have h3 := h2
      unfold seqIn innr at h3
      unfold seqIn' at h
      simp only [Bool.and_eq_true] at h3
      rw [h3.1.1.1, h3.1.2.2, h3.2] at h
      cases h
  | true =>
    unfold seqIn' at h
    simp only [Bool.and_eq_true] at h
    obtain ⟨⟨h1, h2⟩, h3⟩ := h
    obtain ⟨l1, l2⟩ := gt_num wl h1
    have hl : Nn lo := by
      rcases l1 with l1 | l1
      · exact l1
      · exfalso
        subst l1
        have hri : FloatKind.f32.format.read 2139095040 = .infinity false := by decide +kernel
        unfold Ieee.Format.order at h2
        rw [hri] at h2
        cases hr : FloatKind.f32.format.read hi with
        | nan s t => rw [hr] at h2; cases h2
        | infinity s => rw [hr] at h2; cases s <;> revert h2 <;> decide
        | number s m i => rw [hr] at h2; cases h2
    have rl := nn_read hl
    have hh : Nn hi := by
      cases hr : FloatKind.f32.format.read hi with
      | nan s t => unfold Ieee.Format.order at h2; rw [hr, show FloatKind.f32.format.read lo = _ from rl] at h2; cases h2
      | infinity s =>
        have hro : FloatKind.f32.format.read 1065353216 = .number false 8388608 (-23) := by decide +kernel
        cases s with
        | true => unfold Ieee.Format.order at h2; rw [hr, show FloatKind.f32.format.read lo = _ from rl] at h2; cases h2
        | false => unfold Ieee.Format.order at h3; rw [hr, hro] at h3; cases h3
      | number s m i =>
        cases s with
        | false => exact nn_of wh hr
        | true =>
          exfalso
          rcases ord_pn (k := .f32) rl hr with h9 | h9 <;> rw [h9] at h2 <;> cases h2
    have e2 := lt_pos (k := .f32) (c := lo) (q := hi) (by rw [hi']; exact hl) (by rw [hi']; exact hh)
    have e3 := lt_pos (k := .f32) (c := hi) (q := 1065353216) (by rw [hi']; exact hh) (by rw [hi']; decide)
    have e4 := lt_pos (k := .f32) (c := lo) (q := 1065353216) (by rw [hi']; exact hl) (by rw [hi']; decide)
    have e5 := gt_pos (k := .f32) (c := hi) (q := 0) (by rw [hi']; exact hh) (by rw [hi']; decide)
    have d2 := of_decide_eq_true (e2.symm.trans h2)
    have d3 := of_decide_eq_true (e3.symm.trans h3)
    unfold seqIn innr
    rw [h1, h2, h3, e4, e5, decide_eq_true (by omega), decide_eq_true (by omega)]
    rfl
def sUp (lo hi : Nat) : Nat := logN (fb .quo .f32 hi lo)
def sDn (lo hi : Nat) : Nat := logN (fb .quo .f32 (fb .sub .f32 1065353216 hi) (fb .sub .f32 1065353216 lo))
def seqOk (lo hi a b : Nat) : Bool := barsOk a b && seqIn lo hi
theorem seq_facts {lo hi : Nat} (wl : Wf .f32 lo) (wh : Wf .f32 hi) (h : seqIn lo hi = true) : ∃ q1 d1 d2 q2 : Nat, (∀ W, flR .quo .f32 hi lo W = q1) ∧ q1 ≤ 2139095040 ∧ q1 ≠ 0 ∧ (∀ W, flR .sub .f32 1065353216 hi W = d1) ∧ (∀ W, flR .sub .f32 1065353216 lo W = d2) ∧ (∀ W, flR .quo .f32 d1 d2 W = q2) ∧ q2 ≤ 2139095040 ∧ q2 ≠ 0 ∧ sUp lo hi = logN q1 ∧ sDn lo hi = logN q2 := by
  obtain ⟨a1, a2, b1, b2, hlt, hone⟩ := seqIn_facts wl wh h
  obtain ⟨u1, u2, u3⟩ := one_sub (a := hi) hone
  obtain ⟨v1, v2, v3⟩ := one_sub (a := lo) (by omega)
  obtain ⟨s1, s2⟩ := quo_dn b1 a1 a2 (by omega)
  obtain ⟨t1, t2⟩ := quo_dn u3 v3 v2 v1
  have hz1 : fb .quo .f32 hi lo ≠ 0 := fun e => b2 (Nat.le_zero.1 (e ▸ s1))
  have hz2 : fb .quo .f32 (fb .sub .f32 1065353216 hi) (fb .sub .f32 1065353216 lo) ≠ 0 := fun e => u2 (Nat.le_zero.1 (e ▸ t1))
  have hu : fb .sub .f32 1065353216 hi ≤ 2139095040 := Nat.le_trans u1 (by decide)
  have hv : fb .sub .f32 1065353216 lo ≤ 2139095040 := Nat.le_trans v1 (by decide)
  have hL1 : sUp lo hi = logN (fb .quo .f32 hi lo) := by unfold sUp; rfl
  have hL2 : sDn lo hi = logN (fb .quo .f32 (fb .sub .f32 1065353216 hi) (fb .sub .f32 1065353216 lo)) := by unfold sDn; rfl
  generalize sUp lo hi = B1 at *
  generalize sDn lo hi = B2 at *
  have hd1 : ∀ W, flR .sub .f32 1065353216 hi W = fb .sub .f32 1065353216 hi := flR_nn rfl hu
  have hd2 : ∀ W, flR .sub .f32 1065353216 lo W = fb .sub .f32 1065353216 lo := flR_nn rfl hv
  have hq1 : ∀ W, flR .quo .f32 hi lo W = fb .quo .f32 hi lo := flR_nn rfl s2
  generalize fb .sub .f32 1065353216 hi = d1 at *
  generalize fb .sub .f32 1065353216 lo = d2 at *
  generalize fb .quo .f32 hi lo = q1 at *
  have hq2 : ∀ W, flR .quo .f32 d1 d2 W = fb .quo .f32 d1 d2 := flR_nn rfl t2
  generalize fb .quo .f32 d1 d2 = q2 at *
  exact ⟨q1, d1, d2, q2, hq1, s2, hz1, hd1, hd2, hq2, t2, hz2, hL1, hL2⟩
/-- How a test ends with a sum. -/
def seqEnd (A B s : Nat) : Int := if (FloatKind.f32.format.order s A == some .lt || FloatKind.f32.format.order s A == some .eq) = true then -1 else if (FloatKind.f32.format.order s B == some .gt || FloatKind.f32.format.order s B == some .eq) = true then 1 else 0
theorem seqEnd_cn (A B s : Nat) : seqEnd (cn .f32 A) (cn .f32 B) (cn .f32 s) = seqEnd A B s := by unfold seqEnd; rw [order_cn, order_cn]
def sPk (g : Bool) (dn up : Nat) : Nat := if g = true then dn else up
theorem sPk_t (dn up : Nat) : sPk true dn up = dn := rfl
theorem sPk_f (dn up : Nat) : sPk false dn up = up := rfl
def seqRes (A B up dn : Nat) : List Bool → Nat → Int → Int × Int
  | [], _, k => (0, k)
  | g :: l, s, k => if seqEnd A B (fb .add .f32 s (sPk g dn up)) = 0 then seqRes A B up dn l (fb .add .f32 s (sPk g dn up)) (k + 1) else (seqEnd A B (fb .add .f32 s (sPk g dn up)), k + 1)
theorem seqRes_on {A B up dn : Nat} {xs : List Bool} {k : Nat} {g : Bool} {s : Nat} (hg : xs[k]? = some g) (h0 : seqEnd A B (fb .add .f32 s (sPk g dn up)) = 0) :
    seqRes A B up dn (xs.drop k) s (k : Int) = seqRes A B up dn (xs.drop (k + 1)) (fb .add .f32 s (sPk g dn up)) ((k + 1 : Nat) : Int) := by
  obtain ⟨hk, hx⟩ := List.getElem?_eq_some_iff.1 hg
  rw [List.drop_eq_getElem_cons hk, hx, seqRes, if_pos h0]
  rfl
theorem seqRes_end {A B up dn : Nat} {xs : List Bool} {k : Nat} {g : Bool} {s : Nat} (hg : xs[k]? = some g) (h0 : seqEnd A B (fb .add .f32 s (sPk g dn up)) ≠ 0) :
    seqRes A B up dn (xs.drop k) s (k : Int) = (seqEnd A B (fb .add .f32 s (sPk g dn up)), (k : Int) + 1) := by
  obtain ⟨hk, hx⟩ := List.getElem?_eq_some_iff.1 hg
  rw [List.drop_eq_getElem_cons hk, hx, seqRes, if_neg h0]
abbrev sqA (a b c d : Nat) : Array Value := #[.float .f32 a, .float .f32 b, .float .f32 c, .float .f32 d]
set_option maxHeartbeats 2000000 in
theorem i_ends {a b c d s : Nat} {w : World} : Calls Try.prog 71 #[.agg (sqA a b c d), .float .f32 s] w fun e w' => e = .returned (.int .i64 (seqEnd a b s)) ∧ Below w.heap.size w w' := by
  have hp : Hid (seqEnd a b s = if (FloatKind.f32.format.order s a == some .lt || FloatKind.f32.format.order s a == some .eq) = true then -1 else if (FloatKind.f32.format.order s b == some .gt || FloatKind.f32.format.order s b == some .eq) = true then 1 else 0) := hide rfl
  cases h1 : (FloatKind.f32.format.order s a == some .lt || FloatKind.f32.format.order s a == some .eq) with
  | true =>
    rw [h1, if_pos rfl] at hp
    go_enter Try.func71, Try.ntmps71
    go_wp2
    go_ret
    exact ⟨ret_int hp.out.symm, (by repeat (first | exact Below.refl _ _ | exact below_drewN (by assumption) _ | refine below_drewN ?_ _ | refine Below.alloc ?_ (by first | (simp; done) | (simp; omega)) _ | assumption))⟩
  | false =>
    cases h2 : (FloatKind.f32.format.order s b == some .gt || FloatKind.f32.format.order s b == some .eq) with
    | true =>
      rw [h1, h2, if_neg (by simp), if_pos rfl] at hp
      go_enter Try.func71, Try.ntmps71
      go_wp2
      go_ret
      exact ⟨ret_int hp.out.symm, (by repeat (first | exact Below.refl _ _ | exact below_drewN (by assumption) _ | refine below_drewN ?_ _ | refine Below.alloc ?_ (by first | (simp; done) | (simp; omega)) _ | assumption))⟩
    | false =>
      rw [h1, h2, if_neg (by simp), if_neg (by simp)] at hp
      go_enter Try.func71, Try.ntmps71
      go_wp2
      go_ret
      exact ⟨ret_int hp.out.symm, (by repeat (first | exact Below.refl _ _ | exact below_drewN (by assumption) _ | refine below_drewN ?_ _ | refine Below.alloc ?_ (by first | (simp; done) | (simp; omega)) _ | assumption))⟩
/-- What a test that is read looks like. -/
def SeqR (lo hi a b : Nat) (e : Ending) : Prop := ∃ x1 x2 x3 x4 : Nat, e = .returned (.tuple #[.agg (sqA x1 x2 x3 x4), .bool (seqOk lo hi a b)]) ∧ (seqOk lo hi a b = true → cn .f32 x1 = bars1 a b ∧ cn .f32 x2 = bars2 a b ∧ cn .f32 x3 = sUp lo hi ∧ cn .f32 x4 = sDn lo hi)
theorem SeqR.no {lo hi a b : Nat} {x1 x2 x3 x4 : Nat} (h : seqOk lo hi a b = false) : SeqR lo hi a b (.returned (.tuple #[.agg (sqA x1 x2 x3 x4), .bool false])) := by
  unfold SeqR; rw [h]; exact ⟨_, _, _, _, rfl, fun h => by cases h⟩
theorem SeqR.yes {lo hi a b : Nat} {x1 x2 x3 x4 : Nat} (h : seqOk lo hi a b = true) (h1 : cn .f32 x1 = bars1 a b ∧ cn .f32 x2 = bars2 a b ∧ cn .f32 x3 = sUp lo hi ∧ cn .f32 x4 = sDn lo hi) : SeqR lo hi a b (.returned (.tuple #[.agg (sqA x1 x2 x3 x4), .bool true])) := by
  unfold SeqR; rw [h]; exact ⟨_, _, _, _, rfl, fun _ => h1⟩
end Go.Proofs.Ytolbibpmngmpdaa
