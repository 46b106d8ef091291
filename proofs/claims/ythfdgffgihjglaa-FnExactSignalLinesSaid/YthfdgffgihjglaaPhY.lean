/-
  The point of the unit circle at some turns: the reference's walk; both sides at great turns.
-/
import Derived.Test.YthfdgffgihjglaaPhX
namespace Go.Proofs.Ythfdgffgihjglaa
open Go.RowKit Mem Fl
set_option linter.unusedVariables false
set_option maxRecDepth 100000

def sv (s : Bool) (r : Nat) : Int := if s = true then -((vv .f64 r : Nat) : Int) else ((vv .f64 r : Nat) : Int)
theorem order_words {s t : Bool} {r q : Nat} (hr : r < 9218868437227405312) (hq : q < 9218868437227405312) : FloatKind.f64.format.order (FloatKind.f64.format.word s r) (FloatKind.f64.format.word t q) = some (compare (sv s r) (sv t q)) := by
  have hi := d64_inf
  have rx := read_word (k := .f64) (s := s) (r := r) (by omega)
  have ry := read_word (k := .f64) (s := t) (r := q) (by omega)
  rw [order_num rx ry (b := FloatKind.f64.format.leastPlace) (place_ge _ _) (place_ge _ _)]
  have hs : ∀ (s : Bool) (x : Nat), sval s (magOf FloatKind.f64.format x) (placeOf FloatKind.f64.format x) FloatKind.f64.format.leastPlace = sv s x := by
    intro s x; unfold sval sv Ieee.signed vv; rw [Nat.shiftLeft_eq]
  rw [hs, hs]
theorem word_two : (4841369599423283200 : Nat) = FloatKind.f64.format.word false 4841369599423283200 ∧ (14064741636278059008 : Nat) = FloatKind.f64.format.word true 4841369599423283200 := by decide +kernel
theorem small_ord {s : Bool} {r : Nat} (h : r < 4841369599423283200) : (FloatKind.f64.format.order (FloatKind.f64.format.word s r) 4841369599423283200 == some .gt || FloatKind.f64.format.order (FloatKind.f64.format.word s r) 4841369599423283200 == some .eq) = false ∧ (FloatKind.f64.format.order (FloatKind.f64.format.word s r) 14064741636278059008 == some .lt || FloatKind.f64.format.order (FloatKind.f64.format.word s r) 14064741636278059008 == some .eq) = false := by
  have hv := vv_lt (k := .f64) h
  have h1 := order_words (s := s) (t := false) (r := r) (q := 4841369599423283200) (by omega) (by omega)
  have h2 := order_words (s := s) (t := true) (r := r) (q := 4841369599423283200) (by omega) (by omega)
  rw [← word_two.1] at h1
  rw [← word_two.2] at h2
  rw [h1, h2, compare_int, compare_int]
  have e1 : sv s r < sv false 4841369599423283200 := by unfold sv; cases s <;> simp <;> omega
  have e2 : sv true 4841369599423283200 < sv s r := by unfold sv; cases s <;> simp <;> omega
  rw [if_pos e1, if_neg (by omega), if_neg (by omega)]
  exact ⟨rfl, rfl⟩
set_option maxHeartbeats 1000000 in
theorem i_PhasorOf_big {s : Bool} {r y : Nat} {w : World} (hy : y = FloatKind.f64.format.word s r) (h : 4841369599423283200 ≤ r) (hr : r < 9218868437227405312) :
    Calls Try.prog 80 #[.float .f64 y] w fun e w' => e = .returned (.complex .f32 1065353216 0) ∧ ∃ m, w' = w.drewN m := by
  obtain ⟨hm1, hm2⟩ := word_mod (s := s) (r := r) hr
  have hg := ge_pos (k := .f64) (c := r) (q := 4841369599423283200) (by rw [d64_inf]; omega) (by rw [d64_inf]; omega)
  rw [decide_eq_true h] at hg
  have hfin : fin .f64 y = true := by rw [hy]; exact (fin_iff .f64 _).2 ⟨_, _, _, read_word (k := .f64) (by rw [d64_inf]; exact hr)⟩
  rw [← hy] at hm1 hm2
  have HA : ∀ W, Calls Try.prog 122 #[.float .f64 y] W fun e w' => e = .returned (.float .f64 r) ∧ W = w' := fun W => by
    have := abs_calls (w := W) hm2
    rwa [hm1] at this
  replace HA := hide HA
  clear hm1 hm2 hy h hr
  go_enter Try.func80, Try.ntmps80
  go_wp2_with (first
    | (go_at_call 121; refine (i_isFinite64 _ _).mono ?_; rintro e w' ⟨rfl, m1, rfl⟩; rw [hfin])
    | (go_at_call 122; refine (HA.out _).mono ?_; rintro e w' ⟨rfl, rfl⟩))
  go_ret
  exact ⟨rfl, _, rfl⟩
theorem big_ord {s : Bool} {r : Nat} (h : 4841369599423283200 ≤ r) (hr : r < 9218868437227405312) : (s = false → (FloatKind.f64.format.order (FloatKind.f64.format.word s r) 4841369599423283200 == some .gt || FloatKind.f64.format.order (FloatKind.f64.format.word s r) 4841369599423283200 == some .eq) = true) ∧ (s = true → (FloatKind.f64.format.order (FloatKind.f64.format.word s r) 4841369599423283200 == some .gt || FloatKind.f64.format.order (FloatKind.f64.format.word s r) 4841369599423283200 == some .eq) = false ∧ (FloatKind.f64.format.order (FloatKind.f64.format.word s r) 14064741636278059008 == some .lt || FloatKind.f64.format.order (FloatKind.f64.format.word s r) 14064741636278059008 == some .eq) = true) := by
  have hv := vv_le (k := .f64) h
  have h1 := order_words (s := s) (t := false) (r := r) (q := 4841369599423283200) hr (by omega)
  have h2 := order_words (s := s) (t := true) (r := r) (q := 4841369599423283200) hr (by omega)
  rw [← word_two.1] at h1
  rw [← word_two.2] at h2
  rw [h1, h2, compare_int, compare_int]
  obtain ⟨d, hd, _⟩ := two52_vv
  have hp := Nat.two_pow_pos d
  rw [← hd] at hp
  constructor
  · rintro rfl
    have e1 : sv false 4841369599423283200 ≤ sv false r := by unfold sv; simp; omega
    rw [if_neg (by omega)]
    split <;> rfl
  · rintro rfl
    have e1 : sv true r < sv false 4841369599423283200 := by unfold sv; simp; omega
    have e2 : sv true r ≤ sv true 4841369599423283200 := by unfold sv; simp; omega
    rw [if_pos e1]
    refine ⟨rfl, ?_⟩
    by_cases h3 : sv true r < sv true 4841369599423283200
    · rw [if_pos h3]; rfl
    · rw [if_neg h3, if_pos (by omega)]; rfl
theorem fin_ne {y : Nat} (h : fin .f64 y = true) : (FloatKind.f64.format.order (fb .sub .f64 y y) 0 != some .eq) = false := by
  unfold fin at h
  rw [bne, h]; rfl
set_option maxHeartbeats 1000000 in
theorem s_l01Phasor_big {s : Bool} {r y : Nat} {w : World} (hy : y = FloatKind.f64.format.word s r) (h : 4841369599423283200 ≤ r) (hr : r < 9218868437227405312) :
    Calls Try.prog 77 #[.float .f64 y] w fun e w' => e = .returned (.complex .f32 1065353216 0) ∧ ∃ m, w' = w.drewN m := by
  have hfin : fin .f64 y = true := by rw [hy]; exact (fin_iff .f64 _).2 ⟨_, _, _, read_word (k := .f64) (by rw [d64_inf]; exact hr)⟩
  have hne := fin_ne hfin
  obtain ⟨b1, b2⟩ := big_ord (s := s) h hr
  rw [← hy] at b1 b2
  clear hy h hr hfin
  cases s with
  | false =>
    have g1 := b1 rfl
    clear b1 b2
    go_enter Try.func77, Try.ntmps77
    go_wp2
    go_ret
    exact ⟨rfl, _, rfl⟩
  | true =>
    obtain ⟨g1, g2⟩ := b2 rfl
    clear b1 b2
    go_enter Try.func77, Try.ntmps77
    go_wp2
    go_ret
    exact ⟨rfl, _, rfl⟩
end Go.Proofs.Ythfdgffgihjglaa
