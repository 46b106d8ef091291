/-
  Are whole numbers within bounds: the program's walk over a list.
-/
import Derived.Test.YtolbibpmngmpdaaHelq
import Derived.Test.YtolbibpmngmpdaaFin
namespace Go.Proofs.Ytolbibpmngmpdaa
open Go.RowKit Mem
set_option linter.unusedVariables false
set_option maxRecDepth 100000

set_option maxHeartbeats 400000 in
theorem areWithin_1 {n lo hi : Int} {b1 b2 : Nat} {w : World} (h1 : w.cell? ⟨b1, 0, none⟩ = some (.int .i64 lo)) (h2 : w.cell? ⟨b2, 0, none⟩ = some (.int .i64 hi)) :
    Calls Try.prog 146 #[.int .i64 n, .pointer (some ⟨b1, 0, none⟩), .pointer (some ⟨b2, 0, none⟩)] w fun e w' => e = .returned (.bool (!inB n lo hi)) ∧ w' = w := by
  go_enter Try.func146, Try.ntmps146
  go_wp2_with (go_at_call 59; refine (i_within _ _ _ _).mono ?_; rintro e w' ⟨rfl, rfl⟩)
  go_ret
  exact ⟨rfl, rfl⟩
set_option maxHeartbeats 400000 in
theorem indexFunc_within {A : Option Addr} {n c : Nat} {xs : List Int} {B : Nat} {lo hi : Int} {b1 b2 : Nat} {w : World} (h : Reads w B 1 A n (il xs)) (hn : n ≤ maxLen)
    (h1 : w.cell? ⟨b1, 0, none⟩ = some (.int .i64 lo)) (h2 : w.cell? ⟨b2, 0, none⟩ = some (.int .i64 hi)) :
    Calls Try.prog 159 #[.slice A n c, .func (.func 146) #[] #[.pointer (some ⟨b1, 0, none⟩), .pointer (some ⟨b2, 0, none⟩)]] w fun e w' => e = .returned (.int .i64 (ixf (fun x => !inB x lo hi) xs)) ∧ w' = w := by
  unfold maxLen at hn
  have Hlen := hide h.map_len
  go_enter Try.func159, Try.ntmps159
  go_wp2
  go_loopw [5, 8] (fun _ i wr => ∃ k : Nat, k ≤ n ∧ i = .int .i64 k ∧ wr = w ∧ Hid ((xs.take k).all (fun y => !!inB y lo hi) = true)) (fun _ i _ => n - (intOf i).toNat)
  case atStart => exact ⟨0, Nat.zero_le _, rfl, rfl, rfl⟩
  case round =>
    obtain ⟨k, hk, rfl, rfl, ha⟩ := hrel
    by_cases hlt : k < n
    · obtain ⟨ad, x, rfl, _, hx, hc⟩ := h.map_at hlt
      have Hx := hide hx
      clear hx
      cases hb : inB x lo hi with
      | false =>
        go_wp2_with (go_at_call 146; refine (areWithin_1 h1 h2).mono ?_; rintro e w' ⟨rfl, rfl⟩; rw [hb])
        go_ret
        exact ⟨ret_int (ixf_at Hx.out ha.out (by rw [hb]; rfl)).symm, rfl⟩
      | true =>
        have HA : Hid ((xs.take (k + 1)).all (fun y => !!inB y lo hi) = true) := hide (by rw [take_eq Hx.out, List.all_append, ha.out]; simp [hb])
        go_wp2_with (go_at_call 146; refine (areWithin_1 h1 h2).mono ?_; rintro e w' ⟨rfl, rfl⟩; rw [hb])
        go_roundw
        case rel => exact ⟨k + 1, by omega, by go_num, trivial, HA⟩
        case measure => simp [intOf]; omega
    · go_wp2
      go_ret
      refine ⟨ret_int (ixf_none ?_).symm, rfl⟩
      rw [← ha.out, List.take_of_length_le (by rw [Hlen.out]; omega)]
theorem containsFunc_within {A : Option Addr} {n c : Nat} {xs : List Int} {B : Nat} {lo hi : Int} {b1 b2 : Nat} {w : World} (h : Reads w B 1 A n (il xs)) (hn : n ≤ maxLen)
    (h1 : w.cell? ⟨b1, 0, none⟩ = some (.int .i64 lo)) (h2 : w.cell? ⟨b2, 0, none⟩ = some (.int .i64 hi)) :
    Calls Try.prog 145 #[.slice A n c, .func (.func 146) #[] #[.pointer (some ⟨b1, 0, none⟩), .pointer (some ⟨b2, 0, none⟩)]] w fun e w' => e = .returned (.bool (xs.any (fun x => !inB x lo hi))) ∧ w' = w := by
  go_enter Try.func145, Try.ntmps145
  go_wp2_with (go_at_call 159; refine (indexFunc_within h hn h1 h2).mono ?_; rintro e w' ⟨rfl, rfl⟩)
  go_ret
  refine ⟨ret_bool ?_, rfl⟩
  rw [← ixf_ge]
theorem i_areWithin {A : Option Addr} {n c : Nat} {xs : List Int} {B : Nat} {lo hi : Int} {w : World} (h : Reads w B 1 A n (il xs)) (hB : B ≤ w.heap.size) (hn : n ≤ maxLen) :
    Calls Try.prog 117 #[.slice A n c, .int .i64 lo, .int .i64 hi] w fun e w' => e = .returned (.bool (xs.all (fun x => inB x lo hi))) ∧ Below w.heap.size w w' := by
  have hr : Reads ((w.alloc (.cells #[.int .i64 lo] 2)).alloc (.cells #[.int .i64 hi] 2)) B 1 A n (il xs) := (h.alloc hB _).alloc (by simp; omega) _
  go_enter Try.func117, Try.ntmps117
  go_wp2_with fail
  refine (containsFunc_within (lo := lo) (hi := hi) hr hn (by simp) (by simp)).mono ?_
  rintro e w' ⟨rfl, rfl⟩
  go_wp2
  go_ret
  refine ⟨ret_bool ?_, ((Below.refl _ _).alloc (Nat.le_refl _) _).alloc (by simp) _⟩
  rw [List.all_eq_not_any_not]
end Go.Proofs.Ytolbibpmngmpdaa
