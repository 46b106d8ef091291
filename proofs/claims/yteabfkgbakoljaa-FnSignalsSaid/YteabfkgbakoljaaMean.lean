/-
  Contracts of sums and means, and of lists that are handed on if all numbers are finite.
-/
import Derived.Test.YteabfkgbakoljaaPhZ
import Derived.Test.YteabfkgbakoljaaHelq
import Derived.BigGuardPart
namespace Go.Proofs.Yteabfkgbakoljaa
open Go.RowKit Fl Mem
set_option linter.unusedVariables false
set_option maxRecDepth 100000

/-- The sum of numbers, begun with +0. -/
def fsum (xs : List Nat) : Nat := xs.foldl (fb .add .f32) 0
theorem cn_zero : cn .f32 0 = 0 := by decide +kernel
theorem fsum_snoc (xs : List Nat) (x : Nat) : fsum (xs ++ [x]) = fb .add .f32 (fsum xs) x := by unfold fsum; rw [List.foldl_append]; rfl
theorem foldl_cn (xs ys : List Nat) (h : xs.map (cn .f32) = ys.map (cn .f32)) : ∀ s, xs.foldl (fb .add .f32) s = ys.foldl (fb .add .f32) s := by
  induction xs generalizing ys with
  | nil => intro s; cases ys with
    | nil => rfl
    | cons _ _ => simp at h
  | cons x xs ih =>
    intro s
    cases ys with
    | nil => simp at h
    | cons y ys =>
      simp only [List.map_cons, List.cons.injEq] at h
      simp only [List.foldl_cons]
      rw [← fb_cnr, h.1, fb_cnr]
      exact ih ys h.2 _
theorem fsum_cn {xs ys : List Nat} (h : xs.map (cn .f32) = ys.map (cn .f32)) : fsum xs = fsum ys := foldl_cn xs ys h 0
/-- The mean. -/
def fmean (xs : List Nat) : Nat := fb .quo .f32 (fsum xs) (floatOfInt .f32 (xs.length : Int))
theorem fmean_cn {xs ys : List Nat} (h : xs.map (cn .f32) = ys.map (cn .f32)) : fmean xs = fmean ys := by
  unfold fmean
  rw [fsum_cn h]
  have := congrArg List.length h
  simp at this
  rw [this]
theorem allfin_cn {xs ys : List Nat} (h : xs.map (cn .f32) = ys.map (cn .f32)) : xs.all (fin .f32) = ys.all (fin .f32) := by
  have h1 : ∀ l : List Nat, (l.map (cn .f32)).all (fin .f32) = l.all (fin .f32) := by
    intro l
    rw [List.all_map]
    congr 1
    funext x
    exact fin_cn _ _
  rw [← h1 xs, h, h1]

set_option maxHeartbeats 400000 in
theorem i_addUp {A : Option Addr} {n c : Nat} {xs : List Nat} {w : World} {B : Nat} (h : Reads w B 1 A n (fl .f32 xs)) (hn : n ≤ maxLen) :
    Calls Try.prog 72 #[.slice A n c] w fun e w' => ∃ z, e = .returned (.float .f32 z) ∧ Hid (cn .f32 z = fsum xs) ∧ Wf .f32 z ∧ ∃ m, w' = w.drewN m := by
  unfold maxLen at hn
  have Hl := hide h.map_len
  go_enter Try.func72, Try.ntmps72
  go_wp2
  go_loopw [3, 8] (fun s i wr => ∃ k m z : Nat, k ≤ n ∧ i = .int .i64 k ∧ s = .float .f32 z ∧ wr = w.drewN m ∧ Hid (cn .f32 z = fsum (xs.take k)) ∧ Hid (Wf .f32 z)) (fun _ i _ => n - (intOf i).toNat)
  case atStart => exact ⟨0, 0, 0, Nat.zero_le _, rfl, rfl, rfl, hide cn_zero, hide (by unfold Wf; decide +kernel)⟩
  case round =>
    obtain ⟨k, m, z, hk, rfl, rfl, rfl, hz, hwf⟩ := hrel
    by_cases hlt : k < n
    · obtain ⟨ad, x, rfl, _, hx, hc⟩ := h.map_at hlt
      have Hx := hide hx
      clear hx
      go_wp2
      go_roundw
      case rel => exact ⟨k + 1, _, _, by omega, by go_num, rfl, rfl, hide (by rw [take_eq Hx.out, fsum_snoc, ← hz.out, cn_flR, fb_cnl]), hide (wf_flR _ _ _ _ _)⟩
      case measure => simp [intOf]; omega
    · go_wp2
      go_ret
      exact ⟨z, rfl, hide (by rw [hz.out, List.take_of_length_le (by rw [Hl.out]; omega)]), hwf.out, _, rfl⟩

theorem i_meanOfAll {A : Option Addr} {n c : Nat} {xs : List Nat} {w : World} {B : Nat} (h : Reads w B 1 A n (fl .f32 xs)) (hn : n ≤ maxLen) :
    Calls Try.prog 78 #[.slice A n c] w fun e w' => ∃ z, e = .returned (.float .f32 z) ∧ Hid (cn .f32 z = fmean xs) ∧ Wf .f32 z ∧ ∃ m, w' = w.drewN m := by
  have Hl := hide h.map_len
  have hm := hn
  unfold maxLen at hm
  go_enter Try.func78, Try.ntmps78
  go_wp2_with (go_at_call 72; refine (i_addUp h hn).mono ?_; rintro e w' ⟨z, rfl, hz, hwf, m', rfl⟩)
  go_ret
  exact ⟨_, rfl, hide (by rw [cn_flR, ← fb_cnl, hz.out, fmean, Hl.out]), wf_flR _ _ _ _ _, _, rfl⟩

theorem i_ifFinite {x : Nat} {w : World} :
    Calls Try.prog 57 #[.float .f32 x] w fun e w' => e = .returned (.tuple #[.float .f32 (if fin .f32 x = true then x else 0), .bool (fin .f32 x)]) ∧ ∃ m, w' = w.drewN m := by
  cases hf : fin .f32 x
  all_goals
    go_enter Try.func57, Try.ntmps57
    go_wp2_with (go_at_call 64; refine (i_IsFinite _ _).mono ?_; rintro e w' ⟨rfl, m', rfl⟩)
    go_ret2
    exact ⟨rfl, _, rfl⟩

theorem i_ifAll {A : Option Addr} {n c : Nat} {xs : List Nat} {w : World} {B : Nat} (h : Reads w B 1 A n (fl .f32 xs)) (hn : n ≤ maxLen) :
    Calls Try.prog 60 #[.slice A n c] w fun e w' => e = .returned (.tuple #[if xs.all (fin .f32) = true then .slice A n c else .slice none 0 0, .bool (xs.all (fin .f32))]) ∧ ∃ m, w' = w.drewN m := by
  cases hf : xs.all (fin .f32)
  all_goals
    go_enter Try.func60, Try.ntmps60
    go_wp2_with (go_at_call 69; refine (i_areFinite _ _ _ xs _ _ h hn).mono ?_; rintro e w' ⟨rfl, m', rfl⟩)
    go_ret2
    exact ⟨rfl, _, rfl⟩
theorem i_ifAll_yes {A : Option Addr} {n c : Nat} {xs : List Nat} {w : World} {B : Nat} (h : Reads w B 1 A n (fl .f32 xs)) (hn : n ≤ maxLen) (hf : xs.all (fin .f32) = true) :
    Calls Try.prog 60 #[.slice A n c] w fun e w' => e = .returned (.tuple #[.slice A n c, .bool true]) ∧ ∃ m, w' = w.drewN m := by
  refine (i_ifAll h hn).mono ?_
  rintro e w' ⟨rfl, h'⟩
  rw [hf]
  exact ⟨rfl, h'⟩
theorem i_ifAll_no {A : Option Addr} {n c : Nat} {xs : List Nat} {w : World} {B : Nat} (h : Reads w B 1 A n (fl .f32 xs)) (hn : n ≤ maxLen) (hf : xs.all (fin .f32) = false) :
    Calls Try.prog 60 #[.slice A n c] w fun e w' => e = .returned (.tuple #[.slice none 0 0, .bool false]) ∧ ∃ m, w' = w.drewN m := by
  refine (i_ifAll h hn).mono ?_
  rintro e w' ⟨rfl, h'⟩
  rw [hf]
  exact ⟨rfl, h'⟩
end Go.Proofs.Yteabfkgbakoljaa
