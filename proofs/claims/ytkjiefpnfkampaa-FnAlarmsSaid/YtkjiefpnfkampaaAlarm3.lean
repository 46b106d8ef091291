/-
  Contracts of the alarm's states: the program's and the reference's.
-/
import Derived.Test.YtkjiefpnfkampaaAlarm
namespace Go.Proofs.Ytkjiefpnfkampaa
open Go.RowKit Fl Mem
set_option linter.unusedVariables false
set_option maxRecDepth 100000

theorem info_bool : (Try.prog.info? 4).map (fun i => (i.zero, i.size, i.bytes)) = some (some (.bool false), 1, 1) := by kernel_rfl
abbrev bl (xs : List Bool) : List Value := xs.map Value.bool

def ltB (x b : Nat) : Bool := FloatKind.f32.format.order x b == some .lt
/-- The state of the alarm behind a number. -/
def stepB (on off : Nat) (is : Bool) (x : Nat) : Bool := if gtB x on = true then true else if ltB x off = true then false else is
def isAt (xs : List Nat) (on off k : Nat) : Bool := (xs.take k).foldl (stepB on off) false
def statesTo (xs : List Nat) (on off k : Nat) : List Bool := (List.range k).map fun i => isAt xs on off (i + 1)
theorem isAt_succ {xs : List Nat} {on off k x : Nat} (h : xs[k]? = some x) : isAt xs on off (k + 1) = stepB on off (isAt xs on off k) x := by
  unfold isAt; rw [take_eq h, List.foldl_append]; rfl
theorem statesTo_succ (xs : List Nat) (on off k : Nat) : statesTo xs on off (k + 1) = statesTo xs on off k ++ [isAt xs on off (k + 1)] := by
  unfold statesTo; rw [List.range_succ, List.map_append]; rfl
theorem statesTo_len (xs : List Nat) (on off k : Nat) : (statesTo xs on off k).length = k := by simp [statesTo]
def statesOk (xs : List Nat) (on off : Nat) : Bool := isSig xs && fin .f32 on && fin .f32 off && !gtB off on
def statesR (xs : List Nat) (on off : Nat) : List Bool := if statesOk xs on off = true then statesTo xs on off xs.length else []
theorem statesR_no {xs : List Nat} {on off : Nat} (h : statesOk xs on off = false) : statesR xs on off = [] := by unfold statesR; rw [h]; rfl



set_option maxHeartbeats 1000000 in
theorem i_AlarmStates {A : Option Addr} {n c : Nat} {xs : List Nat} {on off : Nat} {w : World} (h : Reads w w.heap.size 1 A n (fl .f32 xs)) (hn : n ≤ maxLen) :
    Calls Try.prog 27 #[.slice A n c, .float .f32 on, .float .f32 off] w fun e w' => ∃ v, e = .returned (.tuple #[v, .bool (statesOk xs on off)]) ∧
      w'.ownsRow w.heap.size 4 1 v (statesR xs on off).length (bl (statesR xs on off)) ∧ Below w.heap.size w w' := by
  have Hl := hide h.map_len
  have Hok : Hid (statesOk xs on off = (isSig xs && fin .f32 on && fin .f32 off && !gtB off on)) := hide rfl
  go_enter Try.func27, Try.ntmps27
  go_wp2_with (first | (go_at_call 17; refine (i_IsSignal _ _ _ xs _ _ h hn).mono ?_; rintro e w' ⟨rfl, m', rfl⟩) | (go_at_call 54; refine (i_areFinite _ _ _ [on, off] _ _ (reads_new (Value.float .f32) _ _ [on, off]) (by simp [maxLen])).mono ?_; rintro e w' ⟨rfl, m2, rfl⟩))
  · have h0 : isSig xs = false := by assumption
    have e : statesOk xs on off = false := by rw [Hok.out, h0]; rfl
    go_ret2
    exact ⟨_, by rw [e]; rfl, by rw [statesR_no e]; exact own_nil _ _ _ _, (by repeat (first | exact Below.refl _ _ | exact below_drewN (by assumption) _ | refine below_drewN ?_ _ | refine Below.alloc ?_ (by first | (simp; done) | (simp; omega)) _ | assumption))⟩
  · have h0 : fin .f32 on = false ∨ fin .f32 off = false := by assumption
    have e : statesOk xs on off = false := by rw [Hok.out]; rcases h0 with h0 | h0 <;> simp [h0]
    go_ret2
    exact ⟨_, by rw [e]; rfl, by rw [statesR_no e]; exact own_nil _ _ _ _, (by repeat (first | exact Below.refl _ _ | exact below_drewN (by assumption) _ | refine below_drewN ?_ _ | refine Below.alloc ?_ (by first | (simp; done) | (simp; omega)) _ | assumption))⟩
  · have h0 : (FloatKind.f32.format.order off on == some Ordering.gt) = true := by assumption
    have e : statesOk xs on off = false := by rw [Hok.out, show gtB off on = true from h0]; simp
    go_ret2
    exact ⟨_, by rw [e]; rfl, by rw [statesR_no e]; exact own_nil _ _ _ _, (by repeat (first | exact Below.refl _ _ | exact below_drewN (by assumption) _ | refine below_drewN ?_ _ | refine Below.alloc ?_ (by first | (simp; done) | (simp; omega)) _ | assumption))⟩
  · have h0 : isSig xs = true := by assumption
    have h1 : fin .f32 on = true ∧ fin .f32 off = true := by assumption
    have h2 : (FloatKind.f32.format.order off on == some Ordering.gt) = false := by assumption
    have e : Hid (statesOk xs on off = true) := hide (by rw [Hok.out, h0, h1.1, h1.2, show gtB off on = false from h2]; rfl)
    have HR : Hid (statesR xs on off = statesTo xs on off n) := hide (by rw [statesR, if_pos e.out, Hl.out])
    have h96 : n ≤ 96 := by rw [← Hl.out]; exact (isSig_len h0).2
    try go_simp
    clear h0 h1 h2
    go_loopw [8, 9, 30] (fun v s i wr => ∃ k : Nat, k ≤ n ∧ i = .int .i64 k ∧ s = .bool (isAt xs on off k) ∧ wr.ownsRow w.heap.size 4 1 v k (bl (statesTo xs on off k)) ∧ Below w.heap.size w wr) (fun _ _ i _ => n - (intOf i).toNat)
    case atStart => exact ⟨0, Nat.zero_le _, rfl, rfl, own_emp (by simp) (by omega), (by repeat (first | exact Below.refl _ _ | exact below_drewN (by assumption) _ | refine below_drewN ?_ _ | refine Below.alloc ?_ (by first | (simp; done) | (simp; omega)) _ | assumption))⟩
    case round =>
      obtain ⟨k, hk, rfl, rfl, hown, hbel⟩ := hrel
      by_cases hlt : k < n
      · obtain ⟨ad, x, rfl, _, hx, hc⟩ := (h.below hbel).map_at hlt
        have Hx := hide hx
        have Hown := hide hown
        have hsz := hbel.size
        clear hx hown
        cases hg : gtB x on with
        | true =>
          have hg' : (FloatKind.f32.format.order x on == some Ordering.gt) = true := hg
          have HS : Hid (isAt xs on off (k + 1) = true) := hide (by rw [isAt_succ Hx.out]; unfold stepB; rw [if_pos hg])
          go_wp2_with (at_builtin; refine wpList_append1 rfl (.tmp 40) (.tmp 42) 39 rfl w.heap.size 4 (.bool false) _ 1 info_bool Try.underlying39 rfl rfl _ _ _ rfl Hown.out rfl rfl (by omega) (by omega) hsz ?_)
          intro v' w' hown' hb'
          have HT : Hid (w'.ownsRow w.heap.size 4 1 v' (k + 1) (bl (statesTo xs on off (k + 1)))) := hide (by rw [statesTo_succ, HS.out]; simpa using hown')
          have hbel' : Below w.heap.size w w' := hbel.trans hb'
          clear hown' hb'
          go_wp2
          go_roundw
          case rel => exact ⟨k + 1, by omega, by go_num, by rw [HS.out], HT.out, hbel'⟩
          case measure => simp [intOf]; omega
        | false =>
          have hg' : (FloatKind.f32.format.order x on == some Ordering.gt) = false := hg
          cases hu : ltB x off with
          | true =>
            have hu' : (FloatKind.f32.format.order x off == some Ordering.lt) = true := hu
            have HS : Hid (isAt xs on off (k + 1) = false) := hide (by rw [isAt_succ Hx.out]; unfold stepB; rw [hg, hu]; rfl)
            go_wp2_with (at_builtin; refine wpList_append1 rfl (.tmp 40) (.tmp 42) 39 rfl w.heap.size 4 (.bool false) _ 1 info_bool Try.underlying39 rfl rfl _ _ _ rfl Hown.out rfl rfl (by omega) (by omega) hsz ?_)
            intro v' w' hown' hb'
            have HT : Hid (w'.ownsRow w.heap.size 4 1 v' (k + 1) (bl (statesTo xs on off (k + 1)))) := hide (by rw [statesTo_succ, HS.out]; simpa using hown')
            have hbel' : Below w.heap.size w w' := hbel.trans hb'
            clear hown' hb'
            go_wp2
            go_roundw
            case rel => exact ⟨k + 1, by omega, by go_num, by rw [HS.out], HT.out, hbel'⟩
            case measure => simp [intOf]; omega
          | false =>
            have hu' : (FloatKind.f32.format.order x off == some Ordering.lt) = false := hu
            have HS : Hid (isAt xs on off (k + 1) = isAt xs on off k) := hide (by rw [isAt_succ Hx.out]; unfold stepB; rw [hg, hu]; rfl)
            go_wp2_with (at_builtin; refine wpList_append1 rfl (.tmp 40) (.tmp 42) 39 rfl w.heap.size 4 (.bool false) _ 1 info_bool Try.underlying39 rfl rfl _ _ _ rfl Hown.out rfl rfl (by omega) (by omega) hsz ?_)
            intro v' w' hown' hb'
            have HT : Hid (w'.ownsRow w.heap.size 4 1 v' (k + 1) (bl (statesTo xs on off (k + 1)))) := hide (by rw [statesTo_succ, HS.out]; simpa using hown')
            have hbel' : Below w.heap.size w w' := hbel.trans hb'
            clear hown' hb'
            go_wp2
            go_roundw
            case rel => exact ⟨k + 1, by omega, by go_num, by rw [HS.out], HT.out, hbel'⟩
            case measure => simp [intOf]; omega
      · go_wp2
        go_ret2
        obtain rfl : k = n := by omega
        exact ⟨_, by rw [e.out]; rfl, by rw [HR.out, statesTo_len]; exact hown, hbel⟩

set_option maxHeartbeats 1000000 in
theorem s_AlarmStates {A : Option Addr} {n c : Nat} {xs : List Nat} {on off : Nat} {w : World} (h : Reads w w.heap.size 1 A n (fl .f32 xs)) (hn : n ≤ maxLen) :
    Calls Try.prog 28 #[.slice A n c, .float .f32 on, .float .f32 off] w fun e w' => ∃ v, e = .returned (.tuple #[v, .bool (statesOk xs on off)]) ∧
      w'.ownsRow w.heap.size 4 1 v (statesR xs on off).length (bl (statesR xs on off)) ∧ Below w.heap.size w w' := by
  have Hl := hide h.map_len
  have Hok : Hid (statesOk xs on off = (isSig xs && fin .f32 on && fin .f32 off && !gtB off on)) := hide rfl
  go_enter Try.func28, Try.ntmps28
  go_wp2_with (first | (go_at_call 53; refine (s_l07Signal _ _ _ xs _ _ h hn).mono ?_; rintro e w' ⟨rfl, m', rfl⟩) | (go_at_call 61; refine (s_l01Finite _ _).mono ?_; rintro e w' ⟨rfl, m2, rfl⟩))
  · have h0 : isSig xs = false := by assumption
    have e : statesOk xs on off = false := by rw [Hok.out, h0]; rfl
    go_ret2
    exact ⟨_, by rw [e]; rfl, by rw [statesR_no e]; exact own_nil _ _ _ _, (by repeat (first | exact Below.refl _ _ | exact below_drewN (by assumption) _ | refine below_drewN ?_ _ | refine Below.alloc ?_ (by first | (simp; done) | (simp; omega)) _ | assumption))⟩
  · have h0 : fin .f32 on = false := by assumption
    have e : statesOk xs on off = false := by rw [Hok.out, h0]; simp
    go_ret2
    exact ⟨_, by rw [e]; rfl, by rw [statesR_no e]; exact own_nil _ _ _ _, (by repeat (first | exact Below.refl _ _ | exact below_drewN (by assumption) _ | refine below_drewN ?_ _ | refine Below.alloc ?_ (by first | (simp; done) | (simp; omega)) _ | assumption))⟩
  · have h0 : fin .f32 off = false := by assumption
    have e : statesOk xs on off = false := by rw [Hok.out, h0]; simp
    go_ret2
    exact ⟨_, by rw [e]; rfl, by rw [statesR_no e]; exact own_nil _ _ _ _, (by repeat (first | exact Below.refl _ _ | exact below_drewN (by assumption) _ | refine below_drewN ?_ _ | refine Below.alloc ?_ (by first | (simp; done) | (simp; omega)) _ | assumption))⟩
  · have h0 : (FloatKind.f32.format.order off on == some Ordering.gt) = true := by assumption
    have e : statesOk xs on off = false := by rw [Hok.out, show gtB off on = true from h0]; simp
    go_ret2
    exact ⟨_, by rw [e]; rfl, by rw [statesR_no e]; exact own_nil _ _ _ _, (by repeat (first | exact Below.refl _ _ | exact below_drewN (by assumption) _ | refine below_drewN ?_ _ | refine Below.alloc ?_ (by first | (simp; done) | (simp; omega)) _ | assumption))⟩
  · have h0 : isSig xs = true := by assumption
    have h1 : fin .f32 on = true := by assumption
    have h1' : fin .f32 off = true := by assumption
    have h2 : (FloatKind.f32.format.order off on == some Ordering.gt) = false := by assumption
    have e : Hid (statesOk xs on off = true) := hide (by rw [Hok.out, h0, h1, h1', show gtB off on = false from h2]; rfl)
    have HR : Hid (statesR xs on off = statesTo xs on off n) := hide (by rw [statesR, if_pos e.out, Hl.out])
    have h96 : n ≤ 96 := by rw [← Hl.out]; exact (isSig_len h0).2
    have HG : Hid (∀ x, x ∈ xs → gtB x on = true → ltB x off = false) := hide (fun x hx hg => by
      have hf : fin .f32 x = true := by
        unfold isSig at h0
        simp only [Bool.and_eq_true, List.all_eq_true] at h0
        exact h0.2 x hx
      have := gt_not_lt h1 h1' hf (by simpa [gtB] using hg) (by simpa using h2)
      unfold ltB
      simpa using this)
    try go_simp
    clear h0 h1 h1' h2
    go_loopw [8, 9, 32] (fun v s i wr => ∃ k : Nat, k ≤ n ∧ i = .int .i64 k ∧ s = .bool (isAt xs on off k) ∧ wr.ownsRow w.heap.size 4 1 v k (bl (statesTo xs on off k)) ∧ Below w.heap.size w wr) (fun _ _ i _ => n - (intOf i).toNat)
    case atStart => exact ⟨0, Nat.zero_le _, rfl, rfl, own_emp (by simp) (by omega), (by repeat (first | exact Below.refl _ _ | exact below_drewN (by assumption) _ | refine below_drewN ?_ _ | refine Below.alloc ?_ (by first | (simp; done) | (simp; omega)) _ | assumption))⟩
    case round =>
      obtain ⟨k, hk, rfl, rfl, hown, hbel⟩ := hrel
      by_cases hlt : k < n
      · obtain ⟨ad, x, rfl, _, hx, hc⟩ := (h.below hbel).map_at hlt
        have Hx := hide hx
        have Hown := hide hown
        have hsz := hbel.size
        clear hx hown
        cases hg : gtB x on with
        | true =>
          have hg' : (FloatKind.f32.format.order x on == some Ordering.gt) = true := hg
          have hu' : (FloatKind.f32.format.order x off == some Ordering.lt) = false := HG.out x (List.mem_of_getElem? Hx.out) hg
          have HS : Hid (isAt xs on off (k + 1) = true) := hide (by rw [isAt_succ Hx.out]; unfold stepB; rw [if_pos hg])
          go_wp2_with (at_builtin; refine wpList_append1 rfl (.tmp 47) (.tmp 49) 39 rfl w.heap.size 4 (.bool false) _ 1 info_bool Try.underlying39 rfl rfl _ _ _ rfl Hown.out rfl rfl (by omega) (by omega) hsz ?_)
          intro v' w' hown' hb'
          have HT : Hid (w'.ownsRow w.heap.size 4 1 v' (k + 1) (bl (statesTo xs on off (k + 1)))) := hide (by rw [statesTo_succ, HS.out]; simpa using hown')
          have hbel' : Below w.heap.size w w' := hbel.trans hb'
          clear hown' hb'
          go_wp2
          go_roundw
          case rel => exact ⟨k + 1, by omega, by go_num, by rw [HS.out], HT.out, hbel'⟩
          case measure => simp [intOf]; omega
        | false =>
          have hg' : (FloatKind.f32.format.order x on == some Ordering.gt) = false := hg
          cases hu : ltB x off with
          | true =>
            have hu' : (FloatKind.f32.format.order x off == some Ordering.lt) = true := hu
            have HS : Hid (isAt xs on off (k + 1) = false) := hide (by rw [isAt_succ Hx.out]; unfold stepB; rw [hg, hu]; rfl)
            go_wp2_with (at_builtin; refine wpList_append1 rfl (.tmp 47) (.tmp 49) 39 rfl w.heap.size 4 (.bool false) _ 1 info_bool Try.underlying39 rfl rfl _ _ _ rfl Hown.out rfl rfl (by omega) (by omega) hsz ?_)
            intro v' w' hown' hb'
            have HT : Hid (w'.ownsRow w.heap.size 4 1 v' (k + 1) (bl (statesTo xs on off (k + 1)))) := hide (by rw [statesTo_succ, HS.out]; simpa using hown')
            have hbel' : Below w.heap.size w w' := hbel.trans hb'
            clear hown' hb'
            go_wp2
            go_roundw
            case rel => exact ⟨k + 1, by omega, by go_num, by rw [HS.out], HT.out, hbel'⟩
            case measure => simp [intOf]; omega
          | false =>
            have hu' : (FloatKind.f32.format.order x off == some Ordering.lt) = false := hu
            have HS : Hid (isAt xs on off (k + 1) = isAt xs on off k) := hide (by rw [isAt_succ Hx.out]; unfold stepB; rw [hg, hu]; rfl)
            go_wp2_with (at_builtin; refine wpList_append1 rfl (.tmp 47) (.tmp 49) 39 rfl w.heap.size 4 (.bool false) _ 1 info_bool Try.underlying39 rfl rfl _ _ _ rfl Hown.out rfl rfl (by omega) (by omega) hsz ?_)
            intro v' w' hown' hb'
            have HT : Hid (w'.ownsRow w.heap.size 4 1 v' (k + 1) (bl (statesTo xs on off (k + 1)))) := hide (by rw [statesTo_succ, HS.out]; simpa using hown')
            have hbel' : Below w.heap.size w w' := hbel.trans hb'
            clear hown' hb'
            go_wp2
            go_roundw
            case rel => exact ⟨k + 1, by omega, by go_num, by rw [HS.out], HT.out, hbel'⟩
            case measure => simp [intOf]; omega
      · go_wp2
        go_ret2
        obtain rfl : k = n := by omega
        exact ⟨_, by rw [e.out]; rfl, by rw [HR.out, statesTo_len]; exact hown, hbel⟩
theorem statesR_le (xs : List Nat) (on off : Nat) : (statesR xs on off).length ≤ 1000 := by
  unfold statesR
  split
  · rename_i h
    rw [statesTo_len]
    have h1 : isSig xs = true := by unfold statesOk at h; simp only [Bool.and_eq_true] at h; exact h.1.1.1
    have := (isSig_len h1).2
    omega
  · simp
end Go.Proofs.Ytkjiefpnfkampaa
