/-
  Alarms, in plain lists: a run of numbers above a bar that is longer than a delay ends just where the number and those of delay places before it are above the bar.
-/
import Derived.Test.YtolbibpmngmpdaaFl
namespace Go.Proofs.Ytolbibpmngmpdaa
open Go.RowKit Fl
set_option linter.unusedVariables false

/-- Is a number greater than another one. -/
def gtB (x b : Nat) : Bool := FloatKind.f32.format.order x b == some .gt

/-- Are the number at an index, and those of delay places before it, above a bar. -/
def alarmB (xs : List Nat) (bar delay at_ : Nat) : Bool := decide (delay ≤ at_) && (List.range (delay + 1)).all fun k => gtB (xs.getD (at_ - delay + k) 0) bar

def alarmsL (xs : List Nat) (bar delay : Nat) : List Nat := (List.range xs.length).filter (alarmB xs bar delay)

/-- r is the length of the run that ends before index i. -/
def RunAt (xs : List Nat) (bar r i : Nat) : Prop := r ≤ i ∧ (∀ j, i - r ≤ j → j < i → gtB (xs.getD j 0) bar = true) ∧ (r < i → gtB (xs.getD (i - r - 1) 0) bar = false)

theorem RunAt.zero (xs : List Nat) (bar : Nat) : RunAt xs bar 0 0 := ⟨Nat.le_refl _, fun j h1 h2 => by omega, fun h => by omega⟩
theorem RunAt.more {xs : List Nat} {bar r i x : Nat} (h : RunAt xs bar r i) (hx : xs[i]? = some x) (hg : gtB x bar = true) : RunAt xs bar (r + 1) (i + 1) := by
  obtain ⟨h1, h2, h3⟩ := h
  refine ⟨by omega, fun j hj hj' => ?_, fun hr => ?_⟩
  · rcases Nat.lt_or_ge j i with hi | hi
    · exact h2 j (by omega) hi
    · obtain rfl : j = i := by omega
      rw [List.getD_eq_getElem?_getD, hx]; exact hg
  · rw [show i + 1 - (r + 1) - 1 = i - r - 1 by omega]; exact h3 (by omega)
theorem RunAt.none {xs : List Nat} {bar i x : Nat} (hx : xs[i]? = some x) (hg : gtB x bar = false) : RunAt xs bar 0 (i + 1) := by
  refine ⟨by omega, fun j hj hj' => by omega, fun _ => ?_⟩
  rw [show i + 1 - 0 - 1 = i by omega, List.getD_eq_getElem?_getD, hx]; exact hg
theorem RunAt.iff {xs : List Nat} {bar r i delay : Nat} (h : RunAt xs bar r (i + 1)) : alarmB xs bar delay i = decide (delay < r) := by
  obtain ⟨h1, h2, h3⟩ := h
  rw [Bool.eq_iff_iff]
  unfold alarmB
  simp only [Bool.and_eq_true, decide_eq_true_eq, List.all_eq_true, List.mem_range]
  constructor
  · rintro ⟨hd, ha⟩
    rcases Nat.lt_or_ge delay r with hlt | hge
    · exact hlt
    · have := ha (delay - r) (by omega)
      rw [show i - delay + (delay - r) = i + 1 - r - 1 by omega, h3 (by omega)] at this
      cases this
  · intro hlt
    exact ⟨by omega, fun k hk => h2 _ (by omega) (by omega)⟩

/-- The indices before i. -/
def alarmsTo (xs : List Nat) (bar delay i : Nat) : List Nat := (List.range i).filter (alarmB xs bar delay)
theorem alarmsTo_succ (xs : List Nat) (bar delay i : Nat) : alarmsTo xs bar delay (i + 1) = alarmsTo xs bar delay i ++ (if alarmB xs bar delay i = true then [i] else []) := by
  unfold alarmsTo
  rw [List.range_succ, List.filter_append]
  congr 1
  by_cases h : alarmB xs bar delay i = true <;> simp [h]
theorem alarmsTo_all (xs : List Nat) (bar delay : Nat) : alarmsTo xs bar delay xs.length = alarmsL xs bar delay := rfl
theorem alarmsTo_le (xs : List Nat) (bar delay i : Nat) : (alarmsTo xs bar delay i).length ≤ i := by
  have := List.length_filter_le (alarmB xs bar delay) (List.range i)
  simpa [alarmsTo] using this

/-- The first index, -1 if there is none. -/
def firstOf (l : List Nat) : Int := match l with | [] => -1 | i :: _ => i

theorem firstOf_at {xs : List Nat} {bar delay i : Nat} (hi : i < xs.length) (h0 : alarmsTo xs bar delay i = []) (h1 : alarmB xs bar delay i = true) : firstOf (alarmsL xs bar delay) = i := by
  have : alarmsL xs bar delay = alarmsTo xs bar delay (i + 1) ++ (List.range' (i + 1) (xs.length - (i + 1))).filter (alarmB xs bar delay) := by
    unfold alarmsL alarmsTo
    rw [← List.filter_append]
    congr 1
    rw [List.range_eq_range', List.range_eq_range', show xs.length = (i + 1) + (xs.length - (i + 1)) by omega, ← List.range'_append_1]
    simp
  rw [this, alarmsTo_succ, h0, if_pos h1]; rfl
end Go.Proofs.Ytolbibpmngmpdaa
