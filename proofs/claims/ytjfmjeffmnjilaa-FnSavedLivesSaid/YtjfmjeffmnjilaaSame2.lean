/-
  Contracts of 'the same' for lists of numbers, for lives, laws, chains and plans.
-/
import Derived.Test.YtjfmjeffmnjilaaSame
import Derived.Test.YtjfmjeffmnjilaaLife
import Derived.RegionTactic
import Derived.BigRegion
import Derived.Deep.RegionWith
namespace Go.Proofs.Ytjfmjeffmnjilaa
open Go.RowKit Fl Mem
set_option linter.unusedVariables false
set_option maxRecDepth 100000

/-- Are two lists the same numbers. -/
def sameL (xs ys : List Nat) : Bool := decide (xs.map (cn .f32) = ys.map (cn .f32))
theorem sameL_len {xs ys : List Nat} (h : xs.length ≠ ys.length) : sameL xs ys = false := decide_eq_false (fun e => h (by have := congrArg List.length e; simpa using this))
theorem sameL_no {xs ys : List Nat} {k x y : Nat} (hx : xs[k]? = some x) (hy : ys[k]? = some y) (h : sameN x y = false) : sameL xs ys = false := by
  refine decide_eq_false (fun e => ?_)
  have h1 := congrArg (fun l => l[k]?) e
  simp only [List.getElem?_map, hx, hy, Option.map_some, Option.some.injEq] at h1
  unfold sameN at h
  rw [h1] at h
  simp at h
theorem sameL_take {xs ys : List Nat} {k x y : Nat} (hx : xs[k]? = some x) (hy : ys[k]? = some y) (h : sameN x y = true) (hp : (xs.take k).map (cn .f32) = (ys.take k).map (cn .f32)) : (xs.take (k + 1)).map (cn .f32) = (ys.take (k + 1)).map (cn .f32) := by
  rw [take_eq hx, take_eq hy, List.map_append, List.map_append, hp]
  unfold sameN at h
  rw [decide_eq_true_iff] at h
  simp [h]
theorem sameL_all {xs ys : List Nat} {n : Nat} (hx : xs.length = n) (hy : ys.length = n) (hp : (xs.take n).map (cn .f32) = (ys.take n).map (cn .f32)) : sameL xs ys = true := by
  rw [List.take_of_length_le (by omega), List.take_of_length_le (by omega)] at hp
  exact decide_eq_true hp

set_option maxHeartbeats 1000000 in
theorem s_l01SameAll {A A' : Option Addr} {n n' c c' B B' : Nat} {xs ys : List Nat} {w : World} (h : Reads w B 1 A n (fl .f32 xs)) (h' : Reads w B' 1 A' n' (fl .f32 ys)) (hn : n ≤ 1099511627776) (hn' : n' ≤ 1099511627776) (hx : ∀ a ∈ xs, Wf .f32 a) (hy : ∀ a ∈ ys, Wf .f32 a) :
    Calls Try.prog 37 #[.slice A n c, .slice A' n' c'] w fun e w' => e = .returned (.bool (sameL xs ys)) ∧ ∃ m, w' = w.drewN m := by
  have Hl := hide h.map_len
  have Hl' := hide h'.map_len
  by_cases hnn : n = n'
  · subst hnn
    go_enter Try.func37, Try.ntmps37
    go_wp2
    go_loopw [5] (fun i wr => ∃ k m : Nat, k ≤ n ∧ i = .int .i64 k ∧ wr = w.drewN m ∧ Hid ((xs.take k).map (cn .f32) = (ys.take k).map (cn .f32))) (fun i _ => n - (intOf i).toNat)
    case atStart => exact ⟨0, 0, Nat.zero_le _, rfl, rfl, hide rfl⟩
    case round =>
      obtain ⟨k, m, hk, rfl, rfl, hp⟩ := hrel
      by_cases hlt : k < n
      · obtain ⟨ad, x, rfl, _, hx1, hc⟩ := h.map_at hlt
        obtain ⟨ad', y, rfl, _, hy1, hc'⟩ := h'.map_at hlt
        have wx := hx x (List.mem_of_getElem? hx1)
        have wy := hy y (List.mem_of_getElem? hy1)
        have Hx := hide hx1
        have Hy := hide hy1
        have i1 : (0 : Int) ≤ k := by omega
        have i2 : (k : Int) < n := by omega
        clear hx1 hy1
        cases hs : sameN x y with
        | false =>
          have Hs := hide (sameL_no Hx.out Hy.out hs)
          go_wp2
          go_region_with (go_at_call 72; refine (s_l01Same wx wy).mono ?_; rintro e w' ⟨rfl, rfl⟩)
          all_goals
            go_wp2
            go_ret
            exact ⟨ret_bool Hs.out.symm, _, rfl⟩
        | true =>
          have Hs := hide (sameL_take Hx.out Hy.out hs hp.out)
          go_wp2
          go_region_with (go_at_call 72; refine (s_l01Same wx wy).mono ?_; rintro e w' ⟨rfl, rfl⟩)
          all_goals
            go_wp2
            go_roundw
            case rel => exact ⟨k + 1, _, by omega, by go_num, rfl, Hs⟩
            case measure => simp [intOf]; omega
      · go_wp2
        go_ret
        obtain rfl : k = n := by omega
        exact ⟨ret_bool (sameL_all Hl.out Hl'.out hp.out).symm, _, rfl⟩
  · have hne : ((n : Int) != (n' : Int)) = true := by simp; omega
    have Hs := hide (sameL_len (xs := xs) (ys := ys) (by rw [Hl.out, Hl'.out]; exact hnn))
    clear hnn
    go_enter Try.func37, Try.ntmps37
    go_wp2
    go_ret
    exact ⟨ret_bool Hs.out.symm, 0, rfl⟩
set_option maxHeartbeats 1000000 in
theorem equalFunc_same {A A' : Option Addr} {n n' c c' B B' : Nat} {xs ys : List Nat} {w : World} (h : Reads w B 1 A n (fl .f32 xs)) (h' : Reads w B' 1 A' n' (fl .f32 ys)) (hn : n ≤ 1099511627776) (hn' : n' ≤ 1099511627776) (hx : ∀ a ∈ xs, Wf .f32 a) (hy : ∀ a ∈ ys, Wf .f32 a) :
    Calls Try.prog 41 #[.slice A n c, .slice A' n' c', .func (.func 42) #[] #[]] w fun e w' => e = .returned (.bool (sameL xs ys)) ∧ ∃ m, w' = w.drewN m := by
  have Hl := hide h.map_len
  have Hl' := hide h'.map_len
  by_cases hnn : n = n'
  · subst hnn
    go_enter Try.func41, Try.ntmps41
    go_wp2
    go_loopw [17] (fun i wr => ∃ k m : Nat, k ≤ n ∧ i = .int .i64 k ∧ wr = w.drewN m ∧ Hid ((xs.take k).map (cn .f32) = (ys.take k).map (cn .f32))) (fun i _ => n - (intOf i).toNat)
    case atStart => exact ⟨0, 0, Nat.zero_le _, rfl, rfl, hide rfl⟩
    case round =>
      obtain ⟨k, m, hk, rfl, rfl, hp⟩ := hrel
      by_cases hlt : k < n
      · obtain ⟨ad, x, rfl, _, hx1, hc⟩ := h.map_at hlt
        obtain ⟨ad', y, rfl, _, hy1, hc'⟩ := h'.map_at hlt
        have wx := hx x (List.mem_of_getElem? hx1)
        have wy := hy y (List.mem_of_getElem? hy1)
        have Hx := hide hx1
        have Hy := hide hy1
        have i1 : (0 : Int) ≤ k := by omega
        have i2 : (k : Int) < n := by omega
        clear hx1 hy1
        cases hs : sameN x y with
        | false =>
          have Hs := hide (sameL_no Hx.out Hy.out hs)
          go_wp2_with (go_at_call 42; refine (i_SameNumber wx wy).mono ?_; rintro e w' ⟨rfl, rfl⟩)
          all_goals
            go_wp2
            go_ret
            exact ⟨ret_bool Hs.out.symm, _, rfl⟩
        | true =>
          have Hs := hide (sameL_take Hx.out Hy.out hs hp.out)
          go_wp2_with (go_at_call 42; refine (i_SameNumber wx wy).mono ?_; rintro e w' ⟨rfl, rfl⟩)
          all_goals
            go_wp2
            go_roundw
            case rel => exact ⟨k + 1, _, by omega, by go_num, rfl, Hs⟩
            case measure => simp [intOf]; omega
      · go_wp2
        go_ret
        obtain rfl : k = n := by omega
        exact ⟨ret_bool (sameL_all Hl.out Hl'.out hp.out).symm, _, rfl⟩
  · have hne : ((n : Int) != (n' : Int)) = true := by simp; omega
    have Hs := hide (sameL_len (xs := xs) (ys := ys) (by rw [Hl.out, Hl'.out]; exact hnn))
    clear hnn
    go_enter Try.func41, Try.ntmps41
    go_wp2
    go_ret
    exact ⟨ret_bool Hs.out.symm, 0, rfl⟩
end Go.Proofs.Ytjfmjeffmnjilaa
