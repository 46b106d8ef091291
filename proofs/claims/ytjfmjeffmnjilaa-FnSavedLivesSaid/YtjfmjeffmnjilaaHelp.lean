/-
  Contracts of the helpers of the laws: copies, comparisons, marks.
-/
import Derived.Test.YtjfmjeffmnjilaaChecked
import Derived.Test.YtjfmjeffmnjilaaConv
import Derived.Test.YtjfmjeffmnjilaaMem
import Derived.WalkLawsBesides
import Derived.WalkSpells
import Derived.BigQuiet
import Derived.Deep.RegionWith
import Derived.Deep.QuietTactic
namespace Go.Proofs.Ytjfmjeffmnjilaa
open Go.RowKit Fl Mem
set_option linter.unusedVariables false

/-- The cells of a list of numbers. -/
abbrev fl (k : FloatKind) (xs : List Nat) : List Value := xs.map (Value.float k)
theorem ret_bool {a b : Bool} (h : a = b) : Ending.returned (.bool a) = .returned (.bool b) := by rw [h]
theorem ret_int {k : IntKind} {a b : Int} (h : a = b) : Ending.returned (.int k a) = .returned (.int k b) := by rw [h]

set_option maxHeartbeats 400000 in
/-- 'sameFloat' of two numbers that are the same. -/
theorem sameFloat_eq (a b : Nat) (w : World) (h : cn .f64 a = cn .f64 b) :
    Calls Try.prog 85 #[.float .f64 a, .float .f64 b] w fun e w' => e = .returned (.bool true) ∧ ∃ n, w' = w.drewN n := by
  cases ha : isNan .f64 a
  · obtain rfl := eq_of_cn h ha
    have h1 : (FloatKind.f64.format.order a a != some Ordering.eq) = false := by rw [order_self, ha]; rfl
    have h2 : (FloatKind.f64.format.order a a == some Ordering.eq) = true := by rw [order_self, ha]; rfl
    clear h
    cases h3 : (FloatKind.f64.format.order a 0 == some Ordering.eq) with
    | true =>
      go_enter Try.func85, Try.ntmps85
      go_wp2
      go_ret
      exact ⟨by simp, _, rfl⟩
    | false =>
      go_enter Try.func85, Try.ntmps85
      go_wp2
      go_ret
      exact ⟨rfl, 0, rfl⟩
  · have hb : isNan .f64 b = true := by rw [← isNan_of_cn h]; exact ha
    have h1 : (FloatKind.f64.format.order a a != some Ordering.eq) = true := by rw [order_self, ha]; rfl
    have h2 : (FloatKind.f64.format.order b b != some Ordering.eq) = true := by rw [order_self, hb]; rfl
    clear h
    go_enter Try.func85, Try.ntmps85
    go_wp2
    go_ret
    exact ⟨rfl, 0, rfl⟩

set_option maxHeartbeats 400000 in
theorem eqFloat32S_eq (A A' : Option Addr) (n n' c c' : Nat) (xs ys : List Nat) (B B' : Nat) (w : World) (h : Reads w B 1 A n (fl .f32 xs)) (h' : Reads w B' 1 A' n' (fl .f32 ys)) (hn : n ≤ maxLen)
    (he : xs.map (cn .f32) = ys.map (cn .f32)) :
    Calls Try.prog 52 #[.slice A n c, .slice A' n' c'] w fun e w' => e = .returned (.bool true) ∧ ∃ n, w' = w.drewN n := by
  have hl : n' = n := by
    have h1 := h.1
    have h2 := h'.1
    have h3 := congrArg List.length he
    simp [fl] at h1 h2 h3
    omega
  subst hl
  have He := hide he
  clear he
  unfold maxLen at hn
  go_enter Try.func52, Try.ntmps52
  go_wp2
  go_loopw [5] (fun i wr => ∃ k m : Nat, k ≤ n' ∧ i = .int .i64 k ∧ wr = w.drewN m) (fun i _ => n' - (intOf i).toNat)
  case atStart => exact ⟨0, 0, Nat.zero_le _, rfl, rfl⟩
  case round =>
    obtain ⟨k, m, hk, rfl, rfl⟩ := hrel
    by_cases hlt : k < n'
    · obtain ⟨ad, x, rfl, _, hx, hc⟩ := h.map_at hlt
      obtain ⟨ad', y, rfl, _, hy, hc'⟩ := h'.map_at hlt
      have Hxy : Hid (wide x = wide y) := by
        have h0 := congrArg (fun l => l[k]?) (unhide He)
        simp only [List.getElem?_map, hx, hy, Option.map_some, Option.some.injEq] at h0
        exact wide_of_cn h0
      have Hx := hide hx
      have Hy := hide hy
      clear hx hy
      go_wp2
      go_region_with (go_at_call 85; refine (sameFloat_eq _ _ _ ?_).mono ?_; (rw [cn_cvR, cn_cvR]; exact Hxy); rintro e w' ⟨rfl, m', rfl⟩)
      all_goals
        go_wp2
        go_roundw
        case rel => exact ⟨k + 1, _, by omega, by go_num, rfl⟩
        case measure => simp [intOf]; omega
    · go_wp2
      go_ret
      exact ⟨rfl, m, rfl⟩
end Go.Proofs.Ytjfmjeffmnjilaa
