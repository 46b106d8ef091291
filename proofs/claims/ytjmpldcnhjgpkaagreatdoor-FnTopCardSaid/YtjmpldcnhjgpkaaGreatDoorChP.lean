/-
  A sequence test: its plain law; what it is made of, both sides.
-/
import Derived.Test.YtjmpldcnhjgpkaaGreatDoorSeqB
import Derived.Test.YtjmpldcnhjgpkaaGreatDoorOps
import Derived.Laws.ResultCell
import Derived.BigGuardPart
namespace Go.Proofs.YtjmpldcnhjgpkaaGreatDoor
open Go.RowKit Mem Fl
set_option linter.unusedVariables false
set_option maxRecDepth 100000

theorem results_rowT {P : Program} {fn : Func} {p u : Tmp} {ty : TypeId} (h : fn.results = #[.cell p ty, .tmp u]) (tmps : Array Value) (w : World) (g : Nat) (t : TypeId) (cs : Array Value) (fr : Nat × Nat) (d : TypeDesc)
    (hp : tmps.getD p undef = .pointer (some ⟨g, 0, none⟩)) (hg : w.heap[g]? = some (.cells cs t fr))
    (hu : P.underlying ty = some d) (hd : (match d with | .struct _ | .array _ _ => true | _ => false) = true) (hi : (P.info? ty).map (·.size) = some cs.size) :
    (results fn tmps).run P w = .ok (.tuple #[.agg cs, tmps.getD u undef]) w := by
  rw [results_cell_tmp h, hp]
  simp [asAddr, run_loadVar_row w g t ty cs fr d hg hu hd hi, Result.andThen]
def seqIn (lo hi : Nat) : Bool := (innr lo 1065353216 && innr hi 1065353216) && (FloatKind.f32.format.order lo hi == some .lt)
def seqIn' (lo hi : Nat) : Bool := ((FloatKind.f32.format.order lo 0 == some .gt) && (FloatKind.f32.format.order lo hi == some .lt)) && (FloatKind.f32.format.order hi 1065353216 == some .lt)
theorem seqIn_facts {lo hi : Nat} (wl : Wf .f32 lo) (wh : Wf .f32 hi) (h : seqIn lo hi = true) : Nn lo ∧ lo ≠ 0 ∧ Nn hi ∧ hi ≠ 0 ∧ lo < hi ∧ hi < 1065353216 := by
  unfold seqIn at h
  rw [Bool.and_eq_true, Bool.and_eq_true] at h
  obtain ⟨⟨h1, h2⟩, h3⟩ := h
  obtain ⟨a1, a2, a3⟩ := innr_pos wl (by decide) h1
  obtain ⟨b1, b2, b3⟩ := innr_pos wh (by decide) h2
  have hi' : FloatKind.f32.format.infRung = 2139095040 := f32_inf
  rw [lt_pos (k := .f32) (by rw [hi']; exact a1) (by rw [hi']; exact b1)] at h3
  exact ⟨a1, a2, b1, b2, of_decide_eq_true h3, b3⟩
theorem seqIn_eq {lo hi : Nat} (wl : Wf .f32 lo) (wh : Wf .f32 hi) : seqIn' lo hi = seqIn lo hi := by
  have hi' : FloatKind.f32.format.infRung = 2139095040 := f32_inf
  cases h : seqIn' lo hi with
  | false =>
    cases h2 : seqIn lo hi with
    | false => rfl
    | true =>
      have h3 := h2
      unfold seqIn innr at h3
      unfold seqIn' at h
      simp only [Bool.and_eq_true] at h3
      rw [h3.1.1.1, h3.1.2.2, h3.2] at h
      cases h
  | true =>
    unfold seqIn' at h
    simp only [Bool.and_eq_true] at h
    obtain ⟨⟨h1, h2⟩, h3⟩ := h
    obtain ⟨l1, l2⟩ := gt_num wl h1
    have hl : Nn lo := by
      rcases l1 with l1 | l1
      · exact l1
      · exfalso
        subst l1
        have hri : FloatKind.f32.format.read 2139095040 = .infinity false := by decide +kernel
        unfold Ieee.Format.order at h2
        rw [hri] at h2
        cases hr : FloatKind.f32.format.read hi with
        | nan s t => rw [hr] at h2; cases h2
        | infinity s => rw [hr] at h2; cases s <;> revert h2 <;> decide
        | number s m i => rw [hr] at h2; cases h2
    have rl := nn_read hl
    have hh : Nn hi := by
      cases hr : FloatKind.f32.format.read hi with
      | nan s t => unfold Ieee.Format.order at h2; rw [hr, show FloatKind.f32.format.read lo = _ from rl] at h2; cases h2
      | infinity s =>
        have hro : FloatKind.f32.format.read 1065353216 = .number false 8388608 (-23) := by decide +kernel
        cases s with
        | true => unfold Ieee.Format.order at h2; rw [hr, show FloatKind.f32.format.read lo = _ from rl] at h2; cases h2
        | false => unfold Ieee.Format.order at h3; rw [hr, hro] at h3; cases h3
      | number s m i =>
        cases s with
        | false => exact nn_of wh hr
        | true =>
          exfalso
          rcases ord_pn (k := .f32) rl hr with h9 | h9 <;> rw [h9] at h2 <;> cases h2
    have e2 := lt_pos (k := .f32) (c := lo) (q := hi) (by rw [hi']; exact hl) (by rw [hi']; exact hh)
    have e3 := lt_pos (k := .f32) (c := hi) (q := 1065353216) (by rw [hi']; exact hh) (by rw [hi']; decide)
    have e4 := lt_pos (k := .f32) (c := lo) (q := 1065353216) (by rw [hi']; exact hl) (by rw [hi']; decide)
    have e5 := gt_pos (k := .f32) (c := hi) (q := 0) (by rw [hi']; exact hh) (by rw [hi']; decide)
    have d2 := of_decide_eq_true (e2.symm.trans h2)
    have d3 := of_decide_eq_true (e3.symm.trans h3)
    unfold seqIn innr
    rw [h1, h2, h3, e4, e5, decide_eq_true (by omega), decide_eq_true (by omega)]
    rfl
def sUp (lo hi : Nat) : Nat := logN (fb .quo .f32 hi lo)
def sDn (lo hi : Nat) : Nat := logN (fb .quo .f32 (fb .sub .f32 1065353216 hi) (fb .sub .f32 1065353216 lo))
def seqOk (lo hi a b : Nat) : Bool := barsOk a b && seqIn lo hi
theorem seq_facts {lo hi : Nat} (wl : Wf .f32 lo) (wh : Wf .f32 hi) (h : seqIn lo hi = true) : ∃ q1 d1 d2 q2 : Nat, (∀ W, flR .quo .f32 hi lo W = q1) ∧ q1 ≤ 2139095040 ∧ q1 ≠ 0 ∧ (∀ W, flR .sub .f32 1065353216 hi W = d1) ∧ (∀ W, flR .sub .f32 1065353216 lo W = d2) ∧ (∀ W, flR .quo .f32 d1 d2 W = q2) ∧ q2 ≤ 2139095040 ∧ q2 ≠ 0 ∧ sUp lo hi = logN q1 ∧ sDn lo hi = logN q2 := by
  obtain ⟨a1, a2, b1, b2, hlt, hone⟩ := seqIn_facts wl wh h
  obtain ⟨u1, u2, u3⟩ := one_sub (a := hi) hone
  obtain ⟨v1, v2, v3⟩ := one_sub (a := lo) (by omega)
  obtain ⟨s1, s2⟩ := quo_dn b1 a1 a2 (by omega)
  obtain ⟨t1, t2⟩ := quo_dn u3 v3 v2 v1
  have hz1 : fb .quo .f32 hi lo ≠ 0 := fun e => b2 (Nat.le_zero.1 (e ▸ s1))
  have hz2 : fb .quo .f32 (fb .sub .f32 1065353216 hi) (fb .sub .f32 1065353216 lo) ≠ 0 := fun e => u2 (Nat.le_zero.1 (e ▸ t1))
  have hu : fb .sub .f32 1065353216 hi ≤ 2139095040 := Nat.le_trans u1 (by decide)
  have hv : fb .sub .f32 1065353216 lo ≤ 2139095040 := Nat.le_trans v1 (by decide)
  have hL1 : sUp lo hi = logN (fb .quo .f32 hi lo) := by unfold sUp; rfl
  have hL2 : sDn lo hi = logN (fb .quo .f32 (fb .sub .f32 1065353216 hi) (fb .sub .f32 1065353216 lo)) := by unfold sDn; rfl
  generalize sUp lo hi = B1 at *
  generalize sDn lo hi = B2 at *
  have hd1 : ∀ W, flR .sub .f32 1065353216 hi W = fb .sub .f32 1065353216 hi := flR_nn rfl hu
  have hd2 : ∀ W, flR .sub .f32 1065353216 lo W = fb .sub .f32 1065353216 lo := flR_nn rfl hv
  have hq1 : ∀ W, flR .quo .f32 hi lo W = fb .quo .f32 hi lo := flR_nn rfl s2
  generalize fb .sub .f32 1065353216 hi = d1 at *
  generalize fb .sub .f32 1065353216 lo = d2 at *
  generalize fb .quo .f32 hi lo = q1 at *
  have hq2 : ∀ W, flR .quo .f32 d1 d2 W = fb .quo .f32 d1 d2 := flR_nn rfl t2
  generalize fb .quo .f32 d1 d2 = q2 at *
  exact ⟨q1, d1, d2, q2, hq1, s2, hz1, hd1, hd2, hq2, t2, hz2, hL1, hL2⟩
/-- How a test ends with a sum. -/
def seqEnd (A B s : Nat) : Int := if (FloatKind.f32.format.order s A == some .lt || FloatKind.f32.format.order s A == some .eq) = true then -1 else if (FloatKind.f32.format.order s B == some .gt || FloatKind.f32.format.order s B == some .eq) = true then 1 else 0
theorem seqEnd_cn (A B s : Nat) : seqEnd (cn .f32 A) (cn .f32 B) (cn .f32 s) = seqEnd A B s := by unfold seqEnd; rw [order_cn, order_cn]
def sPk (g : Bool) (dn up : Nat) : Nat := if g = true then dn else up
theorem sPk_t (dn up : Nat) : sPk true dn up = dn := rfl
theorem sPk_f (dn up : Nat) : sPk false dn up = up := rfl
def seqRes (A B up dn : Nat) : List Bool → Nat → Int → Int × Int
  | [], _, k => (0, k)
  | g :: l, s, k => if seqEnd A B (fb .add .f32 s (sPk g dn up)) = 0 then seqRes A B up dn l (fb .add .f32 s (sPk g dn up)) (k + 1) else (seqEnd A B (fb .add .f32 s (sPk g dn up)), k + 1)
theorem seqRes_on {A B up dn : Nat} {xs : List Bool} {k : Nat} {g : Bool} {s : Nat} (hg : xs[k]? = some g) (h0 : seqEnd A B (fb .add .f32 s (sPk g dn up)) = 0) :
    seqRes A B up dn (xs.drop k) s (k : Int) = seqRes A B up dn (xs.drop (k + 1)) (fb .add .f32 s (sPk g dn up)) ((k + 1 : Nat) : Int) := by
  obtain ⟨hk, hx⟩ := List.getElem?_eq_some_iff.1 hg
  rw [List.drop_eq_getElem_cons hk, hx, seqRes, if_pos h0]
  rfl
theorem seqRes_end {A B up dn : Nat} {xs : List Bool} {k : Nat} {g : Bool} {s : Nat} (hg : xs[k]? = some g) (h0 : seqEnd A B (fb .add .f32 s (sPk g dn up)) ≠ 0) :
    seqRes A B up dn (xs.drop k) s (k : Int) = (seqEnd A B (fb .add .f32 s (sPk g dn up)), (k : Int) + 1) := by
  obtain ⟨hk, hx⟩ := List.getElem?_eq_some_iff.1 hg
  rw [List.drop_eq_getElem_cons hk, hx, seqRes, if_neg h0]
abbrev sqA (a b c d : Nat) : Array Value := #[.float .f32 a, .float .f32 b, .float .f32 c, .float .f32 d]
/-- What a test that is read looks like. -/
def SeqR (lo hi a b : Nat) (e : Ending) : Prop := ∃ x1 x2 x3 x4 : Nat, e = .returned (.tuple #[.agg (sqA x1 x2 x3 x4), .bool (seqOk lo hi a b)]) ∧ (seqOk lo hi a b = true → cn .f32 x1 = bars1 a b ∧ cn .f32 x2 = bars2 a b ∧ cn .f32 x3 = sUp lo hi ∧ cn .f32 x4 = sDn lo hi)
theorem SeqR.no {lo hi a b : Nat} {x1 x2 x3 x4 : Nat} (h : seqOk lo hi a b = false) : SeqR lo hi a b (.returned (.tuple #[.agg (sqA x1 x2 x3 x4), .bool false])) := by
  unfold SeqR; rw [h]; exact ⟨_, _, _, _, rfl, fun h => by cases h⟩
theorem SeqR.yes {lo hi a b : Nat} {x1 x2 x3 x4 : Nat} (h : seqOk lo hi a b = true) (h1 : cn .f32 x1 = bars1 a b ∧ cn .f32 x2 = bars2 a b ∧ cn .f32 x3 = sUp lo hi ∧ cn .f32 x4 = sDn lo hi) : SeqR lo hi a b (.returned (.tuple #[.agg (sqA x1 x2 x3 x4), .bool true])) := by
  unfold SeqR; rw [h]; exact ⟨_, _, _, _, rfl, fun _ => h1⟩
end Go.Proofs.YtjmpldcnhjgpkaaGreatDoor

/-
  Alarms, in plain lists: a run of numbers above a bar that is longer than a delay ends just where the number and those of delay places before it are above the bar.
-/
namespace Go.Proofs.YtjmpldcnhjgpkaaGreatDoor
open Go.RowKit Fl
set_option linter.unusedVariables false

/-- Is a number greater than another one. -/
def gtB (x b : Nat) : Bool := FloatKind.f32.format.order x b == some .gt

/-- Are the number at an index, and those of delay places before it, above a bar. -/
def alarmB (xs : List Nat) (bar delay at_ : Nat) : Bool := decide (delay ≤ at_) && (List.range (delay + 1)).all fun k => gtB (xs.getD (at_ - delay + k) 0) bar

def alarmsL (xs : List Nat) (bar delay : Nat) : List Nat := (List.range xs.length).filter (alarmB xs bar delay)

/-- r is the length of the run that ends before index i. -/
def RunAt (xs : List Nat) (bar r i : Nat) : Prop := r ≤ i ∧ (∀ j, i - r ≤ j → j < i → gtB (xs.getD j 0) bar = true) ∧ (r < i → gtB (xs.getD (i - r - 1) 0) bar = false)

theorem RunAt.zero (xs : List Nat) (bar : Nat) : RunAt xs bar 0 0 := ⟨Nat.le_refl _, fun j h1 h2 => by omega, fun h => by omega⟩
theorem RunAt.more {xs : List Nat} {bar r i x : Nat} (h : RunAt xs bar r i) (hx : xs[i]? = some x) (hg : gtB x bar = true) : RunAt xs bar (r + 1) (i + 1) := by
  obtain ⟨h1, h2, h3⟩ := h
  refine ⟨by omega, fun j hj hj' => ?_, fun hr => ?_⟩
  · rcases Nat.lt_or_ge j i with hi | hi
    · exact h2 j (by omega) hi
    · obtain rfl : j = i := by omega
      rw [List.getD_eq_getElem?_getD, hx]; exact hg
  · rw [show i + 1 - (r + 1) - 1 = i - r - 1 by omega]; exact h3 (by omega)
theorem RunAt.none {xs : List Nat} {bar i x : Nat} (hx : xs[i]? = some x) (hg : gtB x bar = false) : RunAt xs bar 0 (i + 1) := by
  refine ⟨by omega, fun j hj hj' => by omega, fun _ => ?_⟩
  rw [show i + 1 - 0 - 1 = i by omega, List.getD_eq_getElem?_getD, hx]; exact hg
theorem RunAt.iff {xs : List Nat} {bar r i delay : Nat} (h : RunAt xs bar r (i + 1)) : alarmB xs bar delay i = decide (delay < r) := by
  obtain ⟨h1, h2, h3⟩ := h
  rw [Bool.eq_iff_iff]
  unfold alarmB
  simp only [Bool.and_eq_true, decide_eq_true_eq, List.all_eq_true, List.mem_range]
  constructor
  · rintro ⟨hd, ha⟩
    rcases Nat.lt_or_ge delay r with hlt | hge
    · exact hlt
    · have := ha (delay - r) (by omega)
      rw [show i - delay + (delay - r) = i + 1 - r - 1 by omega, h3 (by omega)] at this
      cases this
  · intro hlt
    exact ⟨by omega, fun k hk => h2 _ (by omega) (by omega)⟩

/-- The indices before i. -/
def alarmsTo (xs : List Nat) (bar delay i : Nat) : List Nat := (List.range i).filter (alarmB xs bar delay)
theorem alarmsTo_succ (xs : List Nat) (bar delay i : Nat) : alarmsTo xs bar delay (i + 1) = alarmsTo xs bar delay i ++ (if alarmB xs bar delay i = true then [i] else []) := by
  unfold alarmsTo
  rw [List.range_succ, List.filter_append]
  congr 1
  by_cases h : alarmB xs bar delay i = true <;> simp [h]
theorem alarmsTo_all (xs : List Nat) (bar delay : Nat) : alarmsTo xs bar delay xs.length = alarmsL xs bar delay := rfl
theorem alarmsTo_le (xs : List Nat) (bar delay i : Nat) : (alarmsTo xs bar delay i).length ≤ i := by
  have := List.length_filter_le (alarmB xs bar delay) (List.range i)
  simpa [alarmsTo] using this

/-- The first index, -1 if there is none. -/
def firstOf (l : List Nat) : Int := match l with | [] => -1 | i :: _ => i

theorem firstOf_at {xs : List Nat} {bar delay i : Nat} (hi : i < xs.length) (h0 : alarmsTo xs bar delay i = []) (h1 : alarmB xs bar delay i = true) : firstOf (alarmsL xs bar delay) = i := by
  have : alarmsL xs bar delay = alarmsTo xs bar delay (i + 1) ++ (List.range' (i + 1) (xs.length - (i + 1))).filter (alarmB xs bar delay) := by
    unfold alarmsL alarmsTo
    rw [← List.filter_append]
    congr 1
    rw [List.range_eq_range', List.range_eq_range', show xs.length = (i + 1) + (xs.length - (i + 1)) by omega, ← List.range'_append_1]
    simp
  rw [this, alarmsTo_succ, h0, if_pos h1]; rfl
end Go.Proofs.YtjmpldcnhjgpkaaGreatDoor

/-
  Contracts of sums and means, and of lists that are handed on if all numbers are finite.
-/
namespace Go.Proofs.YtjmpldcnhjgpkaaGreatDoor
open Go.RowKit Fl Mem
set_option linter.unusedVariables false
set_option maxRecDepth 100000

/-- The sum of numbers, begun with +0. -/
def fsum (xs : List Nat) : Nat := xs.foldl (fb .add .f32) 0
theorem fsum_snoc (xs : List Nat) (x : Nat) : fsum (xs ++ [x]) = fb .add .f32 (fsum xs) x := by unfold fsum; rw [List.foldl_append]; rfl
theorem foldl_cn (xs ys : List Nat) (h : xs.map (cn .f32) = ys.map (cn .f32)) : ∀ s, xs.foldl (fb .add .f32) s = ys.foldl (fb .add .f32) s := by
  induction xs generalizing ys with
  | nil => intro s; cases ys with
    | nil => rfl
    | cons _ _ => simp at h
  | cons x xs ih =>
    intro s
    cases ys with
    | nil => simp at h
    | cons y ys =>
      simp only [List.map_cons, List.cons.injEq] at h
      simp only [List.foldl_cons]
      rw [← fb_cnr, h.1, fb_cnr]
      exact ih ys h.2 _
theorem fsum_cn {xs ys : List Nat} (h : xs.map (cn .f32) = ys.map (cn .f32)) : fsum xs = fsum ys := foldl_cn xs ys h 0
/-- The mean. -/
def fmean (xs : List Nat) : Nat := fb .quo .f32 (fsum xs) (floatOfInt .f32 (xs.length : Int))
theorem fmean_cn {xs ys : List Nat} (h : xs.map (cn .f32) = ys.map (cn .f32)) : fmean xs = fmean ys := by
  unfold fmean
  rw [fsum_cn h]
  have := congrArg List.length h
  simp at this
  rw [this]
theorem allfin_cn {xs ys : List Nat} (h : xs.map (cn .f32) = ys.map (cn .f32)) : xs.all (fin .f32) = ys.all (fin .f32) := by
  have h1 : ∀ l : List Nat, (l.map (cn .f32)).all (fin .f32) = l.all (fin .f32) := by
    intro l
    rw [List.all_map]
    congr 1
    funext x
    exact fin_cn _ _
  rw [← h1 xs, h, h1]

set_option maxHeartbeats 400000 in
theorem i_addUp {A : Option Addr} {n c : Nat} {xs : List Nat} {w : World} {B : Nat} (h : Reads w B 1 A n (fl .f32 xs)) (hn : n ≤ maxLen) :
    Calls Tryz.prog 88 #[.slice A n c] w fun e w' => ∃ z, e = .returned (.float .f32 z) ∧ Hid (cn .f32 z = fsum xs) ∧ Wf .f32 z ∧ ∃ m, w' = w.drewN m := by
  unfold maxLen at hn
  have Hl := hide h.map_len
  go_enter Tryz.func88, Tryz.ntmps88
  go_wp2
  go_loopw [3, 8] (fun s i wr => ∃ k m z : Nat, k ≤ n ∧ i = .int .i64 k ∧ s = .float .f32 z ∧ wr = w.drewN m ∧ Hid (cn .f32 z = fsum (xs.take k)) ∧ Hid (Wf .f32 z)) (fun _ i _ => n - (intOf i).toNat)
  case atStart => exact ⟨0, 0, 0, Nat.zero_le _, rfl, rfl, rfl, hide cn_zero, hide (by unfold Wf; decide +kernel)⟩
  case round =>
    obtain ⟨k, m, z, hk, rfl, rfl, rfl, hz, hwf⟩ := hrel
    by_cases hlt : k < n
    · obtain ⟨ad, x, rfl, _, hx, hc⟩ := h.map_at hlt
      have Hx := hide hx
      clear hx
      go_wp2
      go_roundw
      case rel => exact ⟨k + 1, _, _, by omega, by go_num, rfl, rfl, hide (by rw [take_eq Hx.out, fsum_snoc, ← hz.out, cn_flR, fb_cnl]), hide (wf_flR _ _ _ _ _)⟩
      case measure => simp [intOf]; omega
    · go_wp2
      go_ret
      exact ⟨z, rfl, hide (by rw [hz.out, List.take_of_length_le (by rw [Hl.out]; omega)]), hwf.out, _, rfl⟩

theorem i_ifFinite {x : Nat} {w : World} :
    Calls Tryz.prog 43 #[.float .f32 x] w fun e w' => e = .returned (.tuple #[.float .f32 (if fin .f32 x = true then x else 0), .bool (fin .f32 x)]) ∧ ∃ m, w' = w.drewN m := by
  cases hf : fin .f32 x
  all_goals
    go_enter Tryz.func43, Tryz.ntmps43
    go_wp2_with (go_at_call 83; refine (i_IsFinite _ _).mono ?_; rintro e w' ⟨rfl, m', rfl⟩)
    go_ret2
    exact ⟨rfl, _, rfl⟩

theorem i_ifAll {A : Option Addr} {n c : Nat} {xs : List Nat} {w : World} {B : Nat} (h : Reads w B 1 A n (fl .f32 xs)) (hn : n ≤ maxLen) :
    Calls Tryz.prog 51 #[.slice A n c] w fun e w' => e = .returned (.tuple #[if xs.all (fin .f32) = true then .slice A n c else .slice none 0 0, .bool (xs.all (fin .f32))]) ∧ ∃ m, w' = w.drewN m := by
  cases hf : xs.all (fin .f32)
  all_goals
    go_enter Tryz.func51, Tryz.ntmps51
    go_wp2_with (go_at_call 90; refine (i_areFinite _ _ _ xs _ _ h hn).mono ?_; rintro e w' ⟨rfl, m', rfl⟩)
    go_ret2
    exact ⟨rfl, _, rfl⟩
theorem i_ifAll_yes {A : Option Addr} {n c : Nat} {xs : List Nat} {w : World} {B : Nat} (h : Reads w B 1 A n (fl .f32 xs)) (hn : n ≤ maxLen) (hf : xs.all (fin .f32) = true) :
    Calls Tryz.prog 51 #[.slice A n c] w fun e w' => e = .returned (.tuple #[.slice A n c, .bool true]) ∧ ∃ m, w' = w.drewN m := by
  refine (i_ifAll h hn).mono ?_
  rintro e w' ⟨rfl, h'⟩
  rw [hf]
  exact ⟨rfl, h'⟩
theorem i_ifAll_no {A : Option Addr} {n c : Nat} {xs : List Nat} {w : World} {B : Nat} (h : Reads w B 1 A n (fl .f32 xs)) (hn : n ≤ maxLen) (hf : xs.all (fin .f32) = false) :
    Calls Tryz.prog 51 #[.slice A n c] w fun e w' => e = .returned (.tuple #[.slice none 0 0, .bool false]) ∧ ∃ m, w' = w.drewN m := by
  refine (i_ifAll h hn).mono ?_
  rintro e w' ⟨rfl, h'⟩
  rw [hf]
  exact ⟨rfl, h'⟩
end Go.Proofs.YtjmpldcnhjgpkaaGreatDoor

/-
  The chances of a sequence test: the plain law.
-/
namespace Go.Proofs.YtjmpldcnhjgpkaaGreatDoor
open Go.RowKit Mem Fl
set_option linter.unusedVariables false
set_option maxRecDepth 100000

def chA (sh : Nat) (c : List Nat) (j : Nat) (t : List Nat) : List Nat := t.set j (fb .add .f32 (t.getD j 0) (fb .mul .f32 (c.getD j 0) (fb .sub .f32 1065353216 sh)))
def chB (sh : Nat) (c : List Nat) (j : Nat) (t : List Nat) : List Nat := t.set (j + 1) (fb .add .f32 (t.getD (j + 1) 0) (fb .mul .f32 (c.getD j 0) sh))
def chNext (sh : Nat) (c : List Nat) : Nat → List Nat
  | 0 => List.replicate (c.length + 1) 0
  | j + 1 => chB sh c j (chA sh c j (chNext sh c j))
def chSum (up dn : Nat) (N : Int) (k : Nat) : Nat := fb .add .f32 (fb .mul .f32 (floatOfInt .f32 (k : Int)) up) (fb .mul .f32 (floatOfInt .f32 (N - (k : Int))) dn)
def eIx (e : Int) : Nat := if e = -1 then 0 else 1
def chPut (e : Int) (k : Nat) (p : List Nat × List Nat) : List Nat × List Nat := if e = 0 then p else (p.1.set k 0, p.2.set (eIx e) (fb .add .f32 (p.2.getD (eIx e) 0) (p.1.getD k 0)))
def chEnd (A B up dn : Nat) (N : Int) (nx o : List Nat) : Nat → List Nat × List Nat
  | 0 => (nx, o)
  | k + 1 => chPut (seqEnd A B (chSum up dn N k)) k (chEnd A B up dn N nx o k)
def chTot (c o : List Nat) : List Nat := o.set 2 (fb .add .f32 (o.getD 2 0) (fsum c))
def chSt (A B up dn sh : Nat) : Nat → List Nat × List Nat
  | 0 => ([1065353216], [0, 0, 0])
  | n + 1 => chEnd A B up dn ((n + 1 : Nat) : Int) (chNext sh (chSt A B up dn sh n).1 (chSt A B up dn sh n).1.length) (chTot (chSt A B up dn sh n).1 (chSt A B up dn sh n).2) ((chSt A B up dn sh n).1.length + 1)
theorem chNext_len (sh : Nat) (c : List Nat) : ∀ j, (chNext sh c j).length = c.length + 1
  | 0 => by simp [chNext]
  | j + 1 => by simp only [chNext, chA, chB, List.length_set]; exact chNext_len sh c j
theorem chPut_len {e : Int} {k : Nat} {p : List Nat × List Nat} : (chPut e k p).1.length = p.1.length ∧ (chPut e k p).2.length = p.2.length := by
  unfold chPut; split <;> simp
theorem chEnd_len (A B up dn : Nat) (N : Int) (nx o : List Nat) : ∀ k, (chEnd A B up dn N nx o k).1.length = nx.length ∧ (chEnd A B up dn N nx o k).2.length = o.length
  | 0 => ⟨rfl, rfl⟩
  | k + 1 => by
    have h := chEnd_len A B up dn N nx o k
    have h2 := @chPut_len (seqEnd A B (chSum up dn N k)) k (chEnd A B up dn N nx o k)
    simp only [chEnd]
    exact ⟨h2.1.trans h.1, h2.2.trans h.2⟩
theorem chSt_len (A B up dn sh : Nat) : ∀ n, (chSt A B up dn sh n).1.length = n + 1 ∧ (chSt A B up dn sh n).2.length = 3
  | 0 => ⟨rfl, rfl⟩
  | n + 1 => by
    have h := chSt_len A B up dn sh n
    have h2 := chEnd_len A B up dn ((n + 1 : Nat) : Int) (chNext sh (chSt A B up dn sh n).1 (chSt A B up dn sh n).1.length) (chTot (chSt A B up dn sh n).1 (chSt A B up dn sh n).2) ((chSt A B up dn sh n).1.length + 1)
    simp only [chSt]
    refine ⟨h2.1.trans ?_, h2.2.trans ?_⟩
    · rw [chNext_len, h.1]
    · unfold chTot; rw [List.length_set, h.2]
theorem am1 (a b o s : Nat) (w1 w2 w3 : World) : cn .f32 (flR .add .f32 a (flR .mul .f32 b (flR .sub .f32 o s w1) w2) w3) = fb .add .f32 (cn .f32 a) (fb .mul .f32 (cn .f32 b) (fb .sub .f32 o s)) := by
  rw [cn_flR, ← fb_cn, cn_flR, ← fb_cn .mul, cn_flR]
theorem am2 (a b s : Nat) (w2 w3 : World) : cn .f32 (flR .add .f32 a (flR .mul .f32 b s w2) w3) = fb .add .f32 (cn .f32 a) (fb .mul .f32 (cn .f32 b) s) := by
  rw [cn_flR, ← fb_cn, cn_flR, fb_cnl .mul .f32 b s]
theorem sm1 {K J u d up dn : Nat} (hu : cn .f32 u = up) (hd : cn .f32 d = dn) (w1 w2 w3 : World) : cn .f32 (flR .add .f32 (flR .mul .f32 K u w1) (flR .mul .f32 J d w2) w3) = fb .add .f32 (fb .mul .f32 K up) (fb .mul .f32 J dn) := by
  rw [cn_flR, ← fb_cn, cn_flR, cn_flR, ← hu, ← hd, fb_cnr, fb_cnr]
/-- The words of a told list. -/
theorem told_at {zs T : List Nat} {i z : Nat} (h : zs.map (cn .f32) = T) (hz : zs[i]? = some z) : cn .f32 z = T.getD i 0 := by
  rw [← h, List.getD_eq_getElem?_getD, List.getElem?_map, hz]; rfl
theorem told_set {zs T : List Nat} {i z y : Nat} (h : zs.map (cn .f32) = T) (hz : cn .f32 z = y) : (zs.set i z).map (cn .f32) = T.set i y := by rw [List.map_set, h, hz]
theorem told_lenC {zs T : List Nat} (h : zs.map (cn .f32) = T) : zs.length = T.length := by rw [← h, List.length_map]
theorem told_fsum {zs T : List Nat} (h : zs.map (cn .f32) = T) : fsum zs = fsum T := fsum_cn (by rw [← h, List.map_map]; congr 1; funext x; simp [cn_cn])
theorem told_rep (n : Nat) : (List.replicate n 0).map (cn .f32) = List.replicate n 0 := by rw [List.map_replicate, cn_zero]
theorem chPut_no {e : Int} {k : Nat} {p : List Nat × List Nat} (h : e = 0) : chPut e k p = p := if_pos h
theorem chPut_yes {e : Int} {k : Nat} {p : List Nat × List Nat} (h : e ≠ 0) : chPut e k p = (p.1.set k 0, p.2.set (eIx e) (fb .add .f32 (p.2.getD (eIx e) 0) (p.1.getD k 0))) := if_neg h
theorem seqEnd_cases (A B s : Nat) : seqEnd A B s = 0 ∨ seqEnd A B s = -1 ∨ seqEnd A B s = 1 := by
  unfold seqEnd
  split
  · exact .inr (.inl rfl)
  · split
    · exact .inr (.inr rfl)
    · exact .inl rfl
theorem one_told : [1065353216].map (cn .f32) = [1065353216] := by decide +kernel
theorem zero3_told : [0, 0, 0].map (cn .f32) = [0, 0, 0] := by decide +kernel
theorem chSum_told {u d up dn j k : Nat} (hu : cn .f32 u = up) (hd : cn .f32 d = dn) (w1 w2 w3 : World) : cn .f32 (flR .add .f32 (flR .mul .f32 (floatOfInt .f32 (j : Int)) u w1) (flR .mul .f32 (floatOfInt .f32 ((k : Int) + 1 - (j : Int))) d w2) w3) = chSum up dn ((k + 1 : Nat) : Int) j := by
  have e : ((k + 1 : Nat) : Int) - (j : Int) = (k : Int) + 1 - (j : Int) := by omega
  unfold chSum
  rw [e]
  exact sm1 hu hd w1 w2 w3
theorem getD_set_ne {t : List Nat} {i j y : Nat} (h : i ≠ j) : (t.set i y).getD j 0 = t.getD j 0 := by
  rw [List.getD_eq_getElem?_getD, List.getD_eq_getElem?_getD, List.getElem?_set_ne h]
theorem next_told {ns T C : List Nat} {sh j x y y2 z1 z2 : Nat} (hns : ns.map (cn .f32) = T) (hz1 : cn .f32 z1 = fb .add .f32 (cn .f32 y) (fb .mul .f32 (cn .f32 x) (fb .sub .f32 1065353216 sh))) (hz2 : cn .f32 z2 = fb .add .f32 (cn .f32 y2) (fb .mul .f32 (cn .f32 x) sh))
    (hy : cn .f32 y = T.getD j 0) (hy2 : cn .f32 y2 = T.getD (j + 1) 0) (hx : cn .f32 x = C.getD j 0) : ((ns.set j z1).set (j + 1) z2).map (cn .f32) = chB sh C j (chA sh C j T) := by
  have h1 : (ns.set j z1).map (cn .f32) = chA sh C j T := told_set hns (hz1.trans (by rw [hy, hx]))
  refine told_set h1 (hz2.trans ?_)
  rw [hy2, hx]
  unfold chA
  rw [getD_set_ne (by omega)]
theorem put_told {ns os N O : List Nat} {E : Int} {j x o z : Nat} (hE : E ≠ 0) (hns : ns.map (cn .f32) = N) (hos : os.map (cn .f32) = O) (hx : cn .f32 x = N.getD j 0) (ho : cn .f32 o = O.getD (eIx E) 0) (hz : cn .f32 z = fb .add .f32 o x) :
    (ns.set j 0).map (cn .f32) = (chPut E j (N, O)).1 ∧ (os.set (eIx E) z).map (cn .f32) = (chPut E j (N, O)).2 := by
  rw [chPut_yes hE]
  exact ⟨told_set hns cn_zero, told_set hos (hz.trans (by rw [← fb_cn, hx, ho]))⟩
theorem put_told_m {ns os N O : List Nat} {j x o z : Nat} (hns : ns.map (cn .f32) = N) (hos : os.map (cn .f32) = O) (hx : cn .f32 x = N.getD j 0) (ho : cn .f32 o = O.getD 0 0) (hz : cn .f32 z = fb .add .f32 o x) :
    (ns.set j 0).map (cn .f32) = (chPut (-1) j (N, O)).1 ∧ (os.set 0 z).map (cn .f32) = (chPut (-1) j (N, O)).2 := put_told (E := -1) (by decide) hns hos hx ho hz
theorem put_told_p {ns os N O : List Nat} {j x o z : Nat} (hns : ns.map (cn .f32) = N) (hos : os.map (cn .f32) = O) (hx : cn .f32 x = N.getD j 0) (ho : cn .f32 o = O.getD 1 0) (hz : cn .f32 z = fb .add .f32 o x) :
    (ns.set j 0).map (cn .f32) = (chPut 1 j (N, O)).1 ∧ (os.set 1 z).map (cn .f32) = (chPut 1 j (N, O)).2 := put_told (E := 1) (by decide) hns hos hx ho hz
theorem chEnd_at {A B up dn : Nat} {N E : Int} {nx o : List Nat} {k : Nat} (h : seqEnd A B (chSum up dn N k) = E) : chEnd A B up dn N nx o (k + 1) = chPut E k ((chEnd A B up dn N nx o k).1, (chEnd A B up dn N nx o k).2) := by
  rw [← h]; rfl
theorem chSt_succ (A B up dn sh n : Nat) : chSt A B up dn sh (n + 1) = chEnd A B up dn ((n + 1 : Nat) : Int) (chNext sh (chSt A B up dn sh n).1 (chSt A B up dn sh n).1.length) (chTot (chSt A B up dn sh n).1 (chSt A B up dn sh n).2) (n + 1 + 1) := by
  have e : (chSt A B up dn sh n).1.length + 1 = n + 1 + 1 := by rw [(chSt_len A B up dn sh n).1]
  rw [← e]; rfl
theorem allfin_toldC {zs T : List Nat} (h : zs.map (cn .f32) = T) : zs.all (fin .f32) = T.all (fin .f32) := by
  rw [← h, List.all_map]
  congr 1
  funext x
  exact (fin_cn .f32 x).symm
/-- Is a number a share. -/
def shB (x : Nat) : Bool := (FloatKind.f32.format.order x 0 == some .gt || FloatKind.f32.format.order x 0 == some .eq) && (FloatKind.f32.format.order x 1065353216 == some .lt || FloatKind.f32.format.order x 1065353216 == some .eq)
def chOk (sh lo hi a b : Nat) (m : Int) : Bool := seqOk lo hi a b && (shB sh && inB m 0 64)
def chV (sh lo hi a b : Nat) (m : Int) : List Nat := (chSt (bars1 a b) (bars2 a b) (sUp lo hi) (sDn lo hi) sh m.toNat).2
def chO (sh lo hi a b : Nat) (m : Int) : Bool := chOk sh lo hi a b m && (chV sh lo hi a b m).all (fin .f32)
def chR (sh lo hi a b : Nat) (m : Int) : List Nat := if chO sh lo hi a b m = true then chV sh lo hi a b m else []
/-- What chances look like. -/
def ChRd (base : Nat) (sh lo hi a b : Nat) (m : Int) (e : Ending) (w' : World) : Prop := ∃ v zs, e = .returned (.tuple #[v, .bool (chO sh lo hi a b m)]) ∧ w'.ownsRow base 25 1 v zs.length (fl .f32 zs) ∧ zs.map (cn .f32) = chR sh lo hi a b m
theorem ChRd.no {base sh lo hi a b : Nat} {m : Int} {w' : World} (h : chO sh lo hi a b m = false) : ChRd base sh lo hi a b m (.returned (.tuple #[.slice none 0 0, .bool false])) w' := by
  unfold ChRd chR; rw [h, if_neg (by simp)]; exact ⟨_, [], rfl, own_nil _ _ _ _, rfl⟩
theorem ChRd.yes {base sh lo hi a b : Nat} {m : Int} {w' : World} {v : Value} {zs : List Nat} {n : Nat} (h : chO sh lo hi a b m = true) (hn : n = zs.length) (ho : w'.ownsRow base 25 1 v n (fl .f32 zs)) (hz : zs.map (cn .f32) = chV sh lo hi a b m) : ChRd base sh lo hi a b m (.returned (.tuple #[v, .bool true])) w' := by
  subst hn
  unfold ChRd chR; rw [h, if_pos rfl]; exact ⟨_, zs, rfl, ho, hz⟩
end Go.Proofs.YtjmpldcnhjgpkaaGreatDoor
