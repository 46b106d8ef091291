/-
  The chances of a sequence test: both sides, in the form that the law takes.
-/
import Derived.Test.YthfdgffgihjglaaChS
namespace Go.Proofs.Ythfdgffgihjglaa
open Go.RowKit Mem Fl
set_option linter.unusedVariables false
set_option maxRecDepth 100000

set_option maxHeartbeats 2000000 in
theorem s_SequenceChances_no {sh lo hi a b : Nat} {m : Int} {w : World} (wl : Wf .f32 lo) (wh : Wf .f32 hi) (wa : Wf .f32 a) (wb : Wf .f32 b) (h : chOk sh lo hi a b m = false) :
    Calls Try.prog 15 #[.float .f32 sh, .float .f32 lo, .float .f32 hi, .float .f32 a, .float .f32 b, .int .i64 m] w fun e w' => ChRd w.heap.size sh lo hi a b m e w' ∧ Below w.heap.size w w' := by
  have HN : Hid (chO sh lo hi a b m = false) := hide (by unfold chO; rw [h]; rfl)
  have HA : ∀ W, _ := fun W => s_l06Test (w := W) wl wh wa wb
  replace HA := hide HA
  unfold chOk at h
  clear wl wh wa wb
  cases h2 : shB sh with
  | false =>
    clear h
    go_enter Try.func15, Try.ntmps15
    go_wp2_with (go_at_call 56; refine s_l02Share.mono ?_; rintro e w' ⟨rfl, rfl⟩; rw [h2])
    go_ret2
    exact ⟨ChRd.no HN.out, Below.refl _ _⟩
  | true =>
    cases h1 : seqOk lo hi a b with
    | false =>
      clear h
      go_enter Try.func15, Try.ntmps15
      go_wp2_with (first
        | (go_at_call 56; refine s_l02Share.mono ?_; rintro e w' ⟨rfl, rfl⟩; rw [h2])
        | (go_at_call 51; refine (HA.out _).mono ?_; rintro e w' ⟨rfl, m1, rfl⟩; rw [h1]))
      go_ret2
      exact ⟨ChRd.no HN.out, below_drewN (Below.refl _ _) _⟩
    | true =>
      have h3 : inB m 0 64 = false := by rw [h1, h2] at h; simpa using h
      clear h
      go_enter Try.func15, Try.ntmps15
      go_wp2_with (first
        | (go_at_call 56; refine s_l02Share.mono ?_; rintro e w' ⟨rfl, rfl⟩; rw [h2])
        | (go_at_call 51; refine (HA.out _).mono ?_; rintro e w' ⟨rfl, m1, rfl⟩; rw [h1])
        | (go_at_call 57; refine (s_l00In _ _ _ _).mono ?_; rintro e w' ⟨rfl, rfl⟩; rw [h3]))
      go_ret2
      exact ⟨ChRd.no HN.out, below_drewN (Below.refl _ _) _⟩
theorem s_Ch {sh lo hi a b : Nat} {m : Int} {w : World} (wl : Wf .f32 lo) (wh : Wf .f32 hi) (wa : Wf .f32 a) (wb : Wf .f32 b) :
    Calls Try.prog 15 #[.float .f32 sh, .float .f32 lo, .float .f32 hi, .float .f32 a, .float .f32 b, .int .i64 m] w fun e w' => ∃ v zs, e = .returned (.tuple #[v, .bool (chO sh lo hi a b m)]) ∧ w'.ownsRow w.heap.size 23 1 v zs.length (fl .f32 zs) ∧ Hid (zs.map (cn .f32) = chR sh lo hi a b m) ∧ Below w.heap.size w w' := by
  have h : Calls Try.prog 15 #[.float .f32 sh, .float .f32 lo, .float .f32 hi, .float .f32 a, .float .f32 b, .int .i64 m] w fun e w' => ChRd w.heap.size sh lo hi a b m e w' ∧ Below w.heap.size w w' := by
    cases h : chOk sh lo hi a b m with
    | false => exact s_SequenceChances_no wl wh wa wb h
    | true =>
      obtain ⟨h1, h2, h3⟩ := chOk_parts h
      have hin := inB_iff.1 h3
      obtain ⟨n, rfl⟩ := Int.eq_ofNat_of_zero_le (show 0 ≤ m by omega)
      exact s_SequenceChances_true (by omega) wl wh wa wb h1 h2 h3
  exact h.mono fun e w' ⟨⟨v, zs, h1, h2, h3⟩, hb⟩ => ⟨v, zs, h1, h2, h3, hb⟩
theorem i_Ch {sh lo hi a b : Nat} {m : Int} {w : World} (wl : Wf .f32 lo) (wh : Wf .f32 hi) (wa : Wf .f32 a) (wb : Wf .f32 b) :
    Calls Try.prog 16 #[.float .f32 sh, .float .f32 lo, .float .f32 hi, .float .f32 a, .float .f32 b, .int .i64 m] w fun e w' => ∃ v zs, e = .returned (.tuple #[v, .bool (chO sh lo hi a b m)]) ∧ w'.ownsRow w.heap.size 23 1 v zs.length (fl .f32 zs) ∧ Hid (zs.map (cn .f32) = chR sh lo hi a b m) ∧ Below w.heap.size w w' :=
  (i_SequenceChances wl wh wa wb).mono fun e w' ⟨⟨v, zs, h1, h2, h3⟩, hb⟩ => ⟨v, zs, h1, h2, h3, hb⟩
theorem chR_len (sh lo hi a b : Nat) (m : Int) : (chR sh lo hi a b m).length ≤ 1000 := by
  unfold chR
  split
  · unfold chV; rw [(chSt_len _ _ _ _ _ _).2]; omega
  · simp
end Go.Proofs.Ythfdgffgihjglaa
