/-
  Contracts on numbers that are finite, one by one and all.
-/
import Derived.Test.YtlpfnpcnidaijaaDoorHelp
import Derived.Test.YtlpfnpcnidaijaaDoorOrd
namespace Go.Proofs.YtlpfnpcnidaijaaDoor
open Go.RowKit Fl Mem
set_option linter.unusedVariables false

/-- What 'slices.IndexFunc' gives. -/
def ixf {α : Type} (p : α → Bool) (xs : List α) : Int := match xs.findIdx? p with | some i => i | none => -1
theorem ixf_at {α : Type} {p : α → Bool} {xs : List α} {k : Nat} {x : α} (hx : xs[k]? = some x) (h0 : (xs.take k).all (fun y => !p y) = true) (hp : p x = true) : ixf p xs = k := by
  unfold ixf
  have : xs.findIdx? p = some k := by
    obtain ⟨hk, rfl⟩ := List.getElem?_eq_some_iff.1 hx
    rw [List.findIdx?_eq_some_iff_getElem]
    refine ⟨hk, hp, fun j hj => ?_⟩
    have := List.all_eq_true.1 h0 xs[j] (by rw [List.mem_take_iff_getElem]; exact ⟨j, by omega, rfl⟩)
    simpa using this
  rw [this]
theorem ixf_none {α : Type} {p : α → Bool} {xs : List α} (h0 : xs.all (fun y => !p y) = true) : ixf p xs = -1 := by
  unfold ixf
  have : xs.findIdx? p = none := by
    rw [List.findIdx?_eq_none_iff]
    intro x hx
    have := List.all_eq_true.1 h0 x hx
    simpa using this
  rw [this]
theorem ixf_ge {α : Type} (p : α → Bool) (xs : List α) : decide (0 ≤ ixf p xs) = xs.any p := by
  unfold ixf
  cases h : xs.findIdx? p with
  | none =>
    rw [List.findIdx?_eq_none_iff] at h
    have : xs.any p = false := by
      rw [List.any_eq_false]
      intro x hx
      simp [h x hx]
    rw [this]; rfl
  | some i =>
    have h2 : xs.any p = true := by
      rw [List.findIdx?_eq_some_iff_getElem] at h
      obtain ⟨hi, hp, _⟩ := h
      exact List.any_eq_true.2 ⟨_, List.getElem_mem hi, hp⟩
    rw [h2]
    simp
theorem ixf_lt {α : Type} (p : α → Bool) (xs : List α) : -1 ≤ ixf p xs ∧ ixf p xs < xs.length ∨ ixf p xs = -1 := by
  unfold ixf
  cases h : xs.findIdx? p with
  | none => right; rfl
  | some i =>
    left
    rw [List.findIdx?_eq_some_iff_getElem] at h
    obtain ⟨hi, _⟩ := h
    simp only
    omega

/-- Is a list a signal. -/
def isSig (xs : List Nat) : Bool := decide (1 ≤ xs.length) && decide (xs.length ≤ 96) && xs.all (fin .f32)

theorem isSig_len {xs : List Nat} (h : isSig xs = true) : 1 ≤ xs.length ∧ xs.length ≤ 96 := by
  unfold isSig at h
  simp at h
  exact h.1
/-- Is an integer in a range. -/
def inB (a lo hi : Int) : Bool := decide (lo ≤ a) && decide (a ≤ hi)
theorem inB_iff {a lo hi : Int} : inB a lo hi = true ↔ lo ≤ a ∧ a ≤ hi := by unfold inB; simp
theorem i_within (a lo hi : Int) (w : World) : Calls Tryd.prog 23 #[.int .i64 a, .int .i64 lo, .int .i64 hi] w fun e w' => e = .returned (.bool (inB a lo hi)) ∧ w = w' := by
  by_cases h : lo ≤ a
  · go_enter Tryd.func23, Tryd.ntmps23
    go_wp2
    go_ret
    exact ⟨ret_bool (by unfold inB; rw [decide_eq_true h]; rfl), rfl⟩
  · go_enter Tryd.func23, Tryd.ntmps23
    go_wp2
    go_ret
    exact ⟨ret_bool (by unfold inB; rw [decide_eq_false (by omega)]; rfl), rfl⟩
end Go.Proofs.YtlpfnpcnidaijaaDoor
