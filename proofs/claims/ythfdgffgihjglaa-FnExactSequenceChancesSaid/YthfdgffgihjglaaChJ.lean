/-
  The chances of a sequence test: the program's walk, all ways.
-/
import Derived.Test.YthfdgffgihjglaaChI
namespace Go.Proofs.Ythfdgffgihjglaa
open Go.RowKit Mem Fl
set_option linter.unusedVariables false
set_option maxRecDepth 100000

set_option maxHeartbeats 2000000 in
theorem i_SequenceChances_no {sh lo hi a b : Nat} {m : Int} {w : World} (wl : Wf .f32 lo) (wh : Wf .f32 hi) (wa : Wf .f32 a) (wb : Wf .f32 b) (h : chOk sh lo hi a b m = false) :
    Calls Try.prog 16 #[.float .f32 sh, .float .f32 lo, .float .f32 hi, .float .f32 a, .float .f32 b, .int .i64 m] w fun e w' => ChRd w.heap.size sh lo hi a b m e w' ∧ Below w.heap.size w w' := by
  have HN : Hid (chO sh lo hi a b m = false) := hide (by unfold chO; rw [h]; rfl)
  have HA : ∀ W, _ := fun W => i_asSequence (w := W) wl wh wa wb
  replace HA := hide HA
  unfold chOk at h
  clear wl wh wa wb
  go_enter Try.func16, Try.ntmps16
  go_wp2_with fail
  refine (HA.out _).mono ?_
  rintro e w1 ⟨⟨x1, x2, x3, x4, rfl, _⟩, hb⟩
  have bel := hb.alloc hb.size (.cells (sqA x1 x2 x3 x4) 85)
  clear hb HA
  cases h1 : seqOk lo hi a b with
  | false =>
    go_wp2
    go_ret2
    exact ⟨ChRd.no HN.out, bel⟩
  | true =>
    cases h2 : shB sh with
    | false =>
      go_wp2_with (go_at_call 60; refine i_isShare.mono ?_; rintro e w' ⟨rfl, rfl⟩; rw [h2])
      go_ret2
      exact ⟨ChRd.no HN.out, bel⟩
    | true =>
      have h3 : inB m 0 64 = false := by rw [h1, h2] at h; simpa using h
      clear h
      go_wp2_with (first
        | (go_at_call 60; refine i_isShare.mono ?_; rintro e w' ⟨rfl, rfl⟩; rw [h2])
        | (go_at_call 61; refine (i_within _ _ _ _).mono ?_; rintro e w' ⟨rfl, rfl⟩; rw [h3]))
      go_ret2
      exact ⟨ChRd.no HN.out, bel⟩
theorem chOk_parts {sh lo hi a b : Nat} {m : Int} (h : chOk sh lo hi a b m = true) : seqOk lo hi a b = true ∧ shB sh = true ∧ inB m 0 64 = true := by
  unfold chOk at h
  rw [Bool.and_eq_true, Bool.and_eq_true] at h
  exact h
theorem i_SequenceChances {sh lo hi a b : Nat} {m : Int} {w : World} (wl : Wf .f32 lo) (wh : Wf .f32 hi) (wa : Wf .f32 a) (wb : Wf .f32 b) :
    Calls Try.prog 16 #[.float .f32 sh, .float .f32 lo, .float .f32 hi, .float .f32 a, .float .f32 b, .int .i64 m] w fun e w' => ChRd w.heap.size sh lo hi a b m e w' ∧ Below w.heap.size w w' := by
  cases h : chOk sh lo hi a b m with
  | false => exact i_SequenceChances_no wl wh wa wb h
  | true =>
    obtain ⟨h1, h2, h3⟩ := chOk_parts h
    have hin := inB_iff.1 h3
    obtain ⟨n, rfl⟩ := Int.eq_ofNat_of_zero_le (show 0 ≤ m by omega)
    exact i_SequenceChances_true (by omega) wl wh wa wb h1 h2 h3
end Go.Proofs.Ythfdgffgihjglaa
