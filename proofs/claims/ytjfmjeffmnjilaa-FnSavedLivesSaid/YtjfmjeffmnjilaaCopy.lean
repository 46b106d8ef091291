/-
  Contracts of the copies that the laws make of lives, laws, chains, plans and desks.
-/
import Derived.Test.YtjfmjeffmnjilaaDesk
namespace Go.Proofs.Ytjfmjeffmnjilaa
open Go.RowKit Fl Mem
set_option linter.unusedVariables false
set_option maxRecDepth 100000

theorem own_far' {w : World} {base g : Nat} {e : TypeId} {size n : Nat} {v : Value} {xs : List Value} (h : w.ownsRow base e size v n xs) (hg : g < base) : v.ownBlock = none ∨ v.ownBlock ≠ some g := by
  cases hv : v.ownBlock with
  | none => exact .inl rfl
  | some k =>
    refine .inr (fun he => ?_)
    injection he with he
    have := (h.lt k hv).1
    omega
/-- A store below an owned row leaves it as it is. -/
theorem own_put {w : World} {base : Nat} {e : TypeId} {size n : Nat} {v : Value} {xs : List Value} (h : w.ownsRow base e size v n xs) {p : Addr} (hp : p.block < base) (u : Value) : (w.setCell p u).ownsRow base e size v n xs :=
  h.kept (only_setCell (g := p.block) (World.grownBy.refl _ _) (.inl rfl) u) (own_far' h hp)

/-- The cells of n lives that are empty. -/
def noLives (n : Nat) : List Value := ll (List.replicate n (0, false))
theorem noLives_made (n : Nat) : madeCells (Value.agg #[.float .f32 0, .bool false]).cells (n * 2) = (noLives n).toArray := by
  unfold madeCells noLives
  apply Array.ext_getElem?
  intro i
  rcases Nat.lt_or_ge i (n * 2) with h | h
  · have hx : (List.replicate n ((0, false) : Nat × Bool))[i / 2]? = some (0, false) := by rw [List.getElem?_replicate]; rw [if_pos (by omega)]
    obtain ⟨h1, h2⟩ := ll_at hx
    have hr : ((ll (List.replicate n (0, false))).toArray)[i]? = (ll (List.replicate n (0, false)))[i]? := by simp
    rw [hr]
    rcases Nat.mod_two_eq_zero_or_one i with hm | hm
    · rw [show i / 2 * 2 = i by omega] at h1
      rw [h1, Array.getElem?_map, Array.getElem?_range, if_pos h]
      simp [hm, Value.cells]
    · rw [show i / 2 * 2 + 1 = i by omega] at h2
      rw [h2, Array.getElem?_map, Array.getElem?_range, if_pos h]
      simp [hm, Value.cells]
  · rw [Array.getElem?_eq_none (by simp; omega), Array.getElem?_eq_none (by simp [ll_len]; omega)]
theorem below_al' {w : World} {B : Nat} (h : B ≤ w.heap.size) (o : Obj) : Below B w (w.alloc o) := (Below.refl _ _).alloc h o
/-- What is left of a number; -1 if it is too little. -/
def szR (left : Int) (n : Nat) : Int := if (n : Int) ≤ left then left - n else -1
theorem szR_yes {left : Int} {n : Nat} (h : (n : Int) ≤ left) : szR left n = left - n := if_pos h
theorem szR_no {left : Int} {n : Nat} (h : ¬ (n : Int) ≤ left) : szR left n = -1 := if_neg h
theorem l_szFloat32S {A : Option Addr} {n c : Nat} {left : Int} {w : World} (h0 : 0 ≤ left) (h1 : left ≤ 1048576) (hn : n ≤ 9223372036854775807) : Calls Try.prog 44 #[.slice A n c, .int .i64 left] w fun e w' => e = .returned (.int .i64 (szR left n)) ∧ w = w' := by
  by_cases h : (n : Int) ≤ left
  · have i1 : ¬ left - (n : Int) < 0 := by omega
    have Hs := hide (szR_yes h)
    go_enter Try.func44, Try.ntmps44
    go_wp2
    go_ret
    exact ⟨ret_int Hs.out.symm, rfl⟩
  · have i1 : left - (n : Int) < 0 := by omega
    have Hs := hide (szR_no h)
    go_enter Try.func44, Try.ntmps44
    go_wp2
    go_ret
    exact ⟨ret_int Hs.out.symm, rfl⟩
theorem l_szInt64S {A : Option Addr} {n c : Nat} {left : Int} {w : World} (h0 : 0 ≤ left) (h1 : left ≤ 1048576) (hn : n ≤ 9223372036854775807) : Calls Try.prog 75 #[.slice A n c, .int .i64 left] w fun e w' => e = .returned (.int .i64 (szR left n)) ∧ w = w' := by
  by_cases h : (n : Int) ≤ left
  · have i1 : ¬ left - (n : Int) < 0 := by omega
    have Hs := hide (szR_yes h)
    go_enter Try.func75, Try.ntmps75
    go_wp2
    go_ret
    exact ⟨ret_int Hs.out.symm, rfl⟩
  · have i1 : left - (n : Int) < 0 := by omega
    have Hs := hide (szR_no h)
    go_enter Try.func75, Try.ntmps75
    go_wp2
    go_ret
    exact ⟨ret_int Hs.out.symm, rfl⟩
end Go.Proofs.Ytjfmjeffmnjilaa
