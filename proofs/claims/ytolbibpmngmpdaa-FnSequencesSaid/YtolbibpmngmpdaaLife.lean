/-
  Contracts of the helpers of the laws on lives, laws, chains, plans and desks.
-/
import Derived.Test.YtolbibpmngmpdaaKit
import Derived.RegionTactic
import Derived.BigRegion
import Derived.Deep.RegionWith
namespace Go.Proofs.Ytolbibpmngmpdaa
open Go.RowKit Fl Mem
set_option linter.unusedVariables false
set_option maxRecDepth 100000

/-- The cells of lives. -/
def ll : List (Nat × Bool) → List Value
  | [] => []
  | p :: r => .float .f32 p.1 :: .bool p.2 :: ll r
theorem ll_len (xs : List (Nat × Bool)) : (ll xs).length = xs.length * 2 := by
  induction xs with
  | nil => rfl
  | cons p r ih => simp only [ll, List.length_cons, ih]; omega
theorem ll_at {xs : List (Nat × Bool)} {k : Nat} {p : Nat × Bool} (h : xs[k]? = some p) : (ll xs)[k * 2]? = some (.float .f32 p.1) ∧ (ll xs)[k * 2 + 1]? = some (.bool p.2) := by
  induction xs generalizing k with
  | nil => simp at h
  | cons q r ih =>
    cases k with
    | zero => simp at h; subst h; exact ⟨rfl, rfl⟩
    | succ k =>
      simp only [List.getElem?_cons_succ] at h
      have := ih h
      simp only [ll]
      rw [show (k + 1) * 2 = k * 2 + 1 + 1 by omega, List.getElem?_cons_succ, List.getElem?_cons_succ, List.getElem?_cons_succ, List.getElem?_cons_succ]
      exact this
theorem reads_ll {w : World} {B n k : Nat} {A : Option Addr} {xs : List (Nat × Bool)} (h : Reads w B 2 A n (ll xs)) (hk : k < n) :
    ∃ ad p, A = some ad ∧ ad.block < B ∧ xs[k]? = some p ∧ w.cell? (ad.add (k * 2)) = some (.float .f32 p.1) ∧ w.cell? ((ad.add (k * 2)).add 1) = some (.bool p.2) := by
  obtain ⟨ad, e, hb, hc⟩ := h.2 (by omega)
  have hl := h.1
  rw [ll_len] at hl
  have hx : xs[k]? = some xs[k] := List.getElem?_eq_getElem (by omega)
  obtain ⟨h1, h2⟩ := ll_at hx
  exact ⟨ad, xs[k], e, hb, hx, hc _ _ h1, by rw [add_of_add]; exact hc _ _ h2⟩

/-- A desk as a value. -/
abbrev deskV (LA : Option Addr) (ln lc : Nat) (kd : Int) (sh sc : Nat) (st : Int) (RA : Option Addr) (rn rc : Nat) (sz ac : Int) : Value :=
  .agg #[.slice LA ln lc, .int .i64 kd, .float .f32 sh, .float .f32 sc, .int .i64 st, .slice RA rn rc, .int .i64 sz, .int .i64 ac]
/-- Two blocks that were laid last hold what they held. -/
theorem box_cells {w w3 : World} {c1 c2 : Array Value} {t1 t2 : TypeId} (hb : Below ((w.alloc (.cells c1 t1)).alloc (.cells c2 t2)).heap.size ((w.alloc (.cells c1 t1)).alloc (.cells c2 t2)) w3) :
    (∀ i, w3.cell? ⟨w.heap.size, i, none⟩ = c1[i]?) ∧ (∀ i, w3.cell? ⟨w.heap.size + 1, i, none⟩ = c2[i]?) := by
  constructor
  · intro i
    rw [hb.cell (by simp; omega)]
    exact Blk.cell ((Blk.new w t1 c1).alloc _) i
  · intro i
    rw [hb.cell (by simp)]
    have := Blk.cell (Blk.new (w.alloc (.cells c1 t1)) t2 c2) i
    rw [show (w.alloc (.cells c1 t1)).heap.size = w.heap.size + 1 by simp] at this
    exact this
theorem below_step {w a b : World} {B : Nat} (h : Below w.heap.size w a) (hB : B ≤ w.heap.size) (h2 : Below a.heap.size a b) : Below w.heap.size w b := h.trans (h2.mono h.size)

/-- One cell of an owned row of elements of two cells is written. -/
theorem own_set2 {w : World} {base : Nat} {e : TypeId} {g n c : Nat} {xs : List Value} (h : w.ownsRow base e 2 (.slice (some ⟨g, 0, none⟩) n c) n xs) {i : Nat} (hi : i < n * 2) (u : Value) :
    (w.setCell ⟨g, i, none⟩ u).ownsRow base e 2 (.slice (some ⟨g, 0, none⟩) n c) n (xs.set i u) := by
  obtain ⟨h1, h2⟩ := h
  refine ⟨by simpa using h1, ?_⟩
  rcases h2 with ⟨h2, _⟩ | ⟨g', cap, cur, hv, hb, hg, hnc, hcm, hcs, htake⟩
  · cases h2
  · injection hv with hv1 _ hv2
    injection hv1 with hv1
    injection hv1 with hv1
    subst hv1
    subst hv2
    refine .inr ⟨g, c, cur.setIfInBounds i u, rfl, hb, ?_, hnc, hcm, by simpa using hcs, ?_⟩
    · have := Blk.set_ (w := w) (g := g) (t := e) (cs := cur) hg i u
      exact this
    · rw [← htake, Array.toList_setIfInBounds]
      rw [List.take_set]
theorem own_cell2 {w : World} {base : Nat} {e : TypeId} {g n c : Nat} {xs : List Value} (h : w.ownsRow base e 2 (.slice (some ⟨g, 0, none⟩) n c) n xs) {i : Nat} {u : Value} (hu : xs[i]? = some u) :
    w.cell? ⟨g, i, none⟩ = some u ∧ w.frozen? ⟨g, i, none⟩ = false := by
  refine ⟨by have := h.cells (g := g) rfl i u hu; simpa [Addr.add_lit] using this, ?_⟩
  rcases h.2 with ⟨h2, _⟩ | ⟨g', cap, cur, hv, hb, hg, _⟩
  · cases h2
  · injection hv with hv1 _ _
    injection hv1 with hv1
    injection hv1 with hv1
    subst hv1
    exact Blk.frozen (w := w) (t := e) (cs := cur) hg i
/-- The marks of a list of lives. -/
def marksL (k : Nat) : Nat → List Value
  | 0 => []
  | n + 1 => mkF (k : Int) :: mkB ((k : Int) + 1) :: marksL (k + 2) n
theorem marksL_len (k n : Nat) : (marksL k n).length = n * 2 := by
  induction n generalizing k with
  | zero => rfl
  | succ n ih => simp only [marksL, List.length_cons, ih]; omega
theorem marksL_at {k n i : Nat} (h : i < n) : (marksL k n)[i * 2]? = some (mkF ((k + 2 * i : Nat) : Int)) ∧ (marksL k n)[i * 2 + 1]? = some (mkB ((k + 2 * i + 1 : Nat) : Int)) := by
  induction n generalizing k i with
  | zero => omega
  | succ n ih =>
    cases i with
    | zero => exact ⟨by simp [marksL], by simp [marksL]⟩
    | succ i =>
      have := ih (k := k + 2) (i := i) (by omega)
      simp only [marksL]
      rw [show (i + 1) * 2 = i * 2 + 1 + 1 by omega, List.getElem?_cons_succ, List.getElem?_cons_succ, List.getElem?_cons_succ, List.getElem?_cons_succ]
      rw [show k + 2 + 2 * i = k + 2 * (i + 1) by omega] at this
      exact this
/-- The cells of a row of which the first i are told otherwise. -/
def mix (ms cs : List Value) (i : Nat) : List Value := ms.take i ++ cs.drop i
theorem mix_len {ms cs : List Value} {i : Nat} (hl : ms.length = cs.length) (hi : i ≤ cs.length) : (mix ms cs i).length = cs.length := by simp [mix]; omega
theorem mix_set {ms cs : List Value} {i : Nat} {u : Value} (hl : ms.length = cs.length) (hu : ms[i]? = some u) : (mix ms cs i).set i u = mix ms cs (i + 1) := by
  have hi : i < cs.length := by rw [← hl]; exact (List.getElem?_eq_some_iff.1 hu).1
  unfold mix
  apply List.ext_getElem?
  intro j
  rw [List.getElem?_set]
  by_cases hj : i = j
  · subst hj
    rw [if_pos rfl, if_pos (by simp; omega), List.getElem?_append_left (by simp; omega), List.getElem?_take, if_pos (by omega), hu]
  · rw [if_neg hj]
    rcases Nat.lt_or_ge j i with h1 | h1
    · rw [List.getElem?_append_left (by simp; omega), List.getElem?_append_left (by simp; omega), List.getElem?_take, List.getElem?_take, if_pos h1, if_pos (by omega)]
    · rw [List.getElem?_append_right (by simp; omega), List.getElem?_append_right (by simp; omega)]
      simp only [List.getElem?_drop, List.length_take]
      congr 1
      omega
theorem mix_all {ms cs : List Value} (hl : ms.length = cs.length) : mix ms cs cs.length = ms := by unfold mix; rw [List.take_of_length_le (by omega), List.drop_length, List.append_nil]
theorem mix_none (ms cs : List Value) : mix ms cs 0 = cs := by simp [mix]

end Go.Proofs.Ytolbibpmngmpdaa
