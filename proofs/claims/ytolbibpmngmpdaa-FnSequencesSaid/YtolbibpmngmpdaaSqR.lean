/-
  A list of small numbers that bytes choose.
-/
import Derived.Test.YtolbibpmngmpdaaAgP
import Derived.Test.YtolbibpmngmpdaaMem
import Derived.Test.YtolbibpmngmpdaaWithin
import Derived.Test.YtolbibpmngmpdaaChtL
namespace Go.Proofs.Ytolbibpmngmpdaa
open Go.RowKit Mem Fl
set_option linter.unusedVariables false
set_option linter.unusedSimpArgs false
set_option maxRecDepth 100000

theorem sum_succ {xs : List Int} {k : Nat} {x : Int} (h : xs[k]? = some x) : (xs.take (k + 1)).sum = (xs.take k).sum + x := by
  rw [take_eq h]; simp
def rowI (xs : List Int) (n i : Nat) : Nat → Int
  | 0 => 0
  | k + 1 => rowI xs n i k + xs.getD (i * n + k) 0
def colI (xs : List Int) (n i : Nat) : Nat → Int
  | 0 => 0
  | k + 1 => colI xs n i k + xs.getD (k * n + i) 0
def agL (xs : List Int) (n : Nat) : Nat → List (Int × Int)
  | 0 => []
  | i + 1 => (rowI xs n i n, colI xs n i n) :: agL xs n i
def diI (xs : List Int) (n : Nat) : Nat → Int
  | 0 => 0
  | i + 1 => diI xs n i + xs.getD (i * n + i) 0
def stI (xs : List Int) : Nat → Int
  | 0 => 0
  | k + 1 => stI xs k + xs.getD k 0
theorem stI_take (xs : List Int) : ∀ k, k ≤ xs.length → stI xs k = (xs.take k).sum
  | 0, _ => by simp [stI]
  | k + 1, h => by
    have hx : xs[k]? = some (xs.getD k 0) := by rw [List.getD_eq_getElem?_getD, List.getElem?_eq_getElem (by omega)]; rfl
    rw [stI, stI_take xs k (by omega), sum_succ hx]
theorem stI_all {xs : List Int} {n : Nat} (h : xs.length = n) : xs.sum = stI xs n := by
  rw [stI_take xs n (by omega), List.take_of_length_le (by omega)]
/-- Small tables whose middle is not empty. -/
structure Tab (xs : List Int) (n : Nat) : Prop where
  len : xs.length = n * n
  mid : ∀ i, i < n → 1 ≤ xs.getD (i * n + i) 0 ∧ xs.getD (i * n + i) 0 ≤ 6
  off : ∀ i j, i < n → j < n → i ≠ j → 0 ≤ xs.getD (i * n + j) 0 ∧ xs.getD (i * n + j) 0 ≤ 5
theorem Tab.at_ {xs : List Int} {n : Nat} (h : Tab xs n) {i j : Nat} (hi : i < n) (hj : j < n) : 0 ≤ xs.getD (i * n + j) 0 ∧ xs.getD (i * n + j) 0 ≤ 6 := by
  by_cases e : i = j
  · subst e; have := h.mid i hi; omega
  · have := h.off i j hi hj e; omega
/-- What agreement asks for. -/
structure AgOk (xs : List Int) (n : Nat) : Prop where
  pos : 0 < xs.sum
  most : xs.sum ≤ 84
  mem : ∀ q ∈ agL xs n n, 0 ≤ q.1 ∧ 0 ≤ q.2 ∧ q.1 ≤ xs.sum ∧ q.2 ≤ xs.sum
  m0 : 0 ≤ diI xs n n
  m1 : diI xs n n ≤ xs.sum
  one : 2 * rcS (agL xs n n) ≤ xs.sum * xs.sum + xs.sum * diI xs n n
  two : 22 * rcS (agL xs n n) ≤ 21 * (xs.sum * xs.sum)
theorem rc_two {r c t : Int} (h : 22 * c ≤ 21 * t) (hr : 0 ≤ r) : 22 * (r * c) ≤ 21 * (r * t) := by
  have := Int.mul_nonneg hr (show 0 ≤ 21 * t - 22 * c by omega)
  grind
theorem ag_2 {xs : List Int} (h : Tab xs 2) : AgOk xs 2 := by
  have hs := stI_all h.len
  have a0 := h.mid 0 (by omega)
  have a1 := h.mid 1 (by omega)
  have b0 := h.off 0 1 (by omega) (by omega) (by omega)
  have b1 := h.off 1 0 (by omega) (by omega) (by omega)
  simp only [stI, Nat.zero_mul, Nat.one_mul, Nat.zero_add, Nat.add_zero, Nat.reduceMul, Nat.reduceAdd] at *
  obtain ⟨t, ht⟩ : ∃ t, xs.sum = t := ⟨_, rfl⟩
  rw [ht] at hs
  have el : agL xs 2 2 = [(rowI xs 2 1 2, colI xs 2 1 2), (rowI xs 2 0 2, colI xs 2 0 2)] := rfl
  have r0 : rowI xs 2 0 2 = xs.getD 0 0 + xs.getD 1 0 := by simp [rowI]
  have c0 : colI xs 2 0 2 = xs.getD 0 0 + xs.getD 2 0 := by simp [colI]
  have r1 : rowI xs 2 1 2 = xs.getD 2 0 + xs.getD 3 0 := by simp [rowI]
  have c1 : colI xs 2 1 2 = xs.getD 1 0 + xs.getD 3 0 := by simp [colI]
  have d : diI xs 2 2 = xs.getD 0 0 + xs.getD 3 0 := by simp [diI]
  rw [r0, r1, c0, c1] at el
  clear r0 r1 c0 c1
  generalize xs.getD 0 0 = x0 at *
  generalize xs.getD 1 0 = x1 at *
  generalize xs.getD 2 0 = x2 at *
  generalize xs.getD 3 0 = x3 at *
  obtain ⟨e1, e2, v0, p0, q0, s0, r0, z0, v1, p1, q1, s1, r1, z1, y0, w1, w2⟩ : ((x0 + x1) + (x2 + x3) = t) ∧ ((x0 + x2) + (x1 + x3) = t) ∧ ((x0 + x1) + (x0 + x2) ≤ t + x0) ∧ (0 ≤ x0 + x1) ∧ (0 ≤ x0 + x2) ∧ (x0 + x2 ≤ 11) ∧ (x0 + x2 + 1 ≤ t) ∧ (0 ≤ x0) ∧ ((x2 + x3) + (x1 + x3) ≤ t + x3) ∧ (0 ≤ x2 + x3) ∧ (0 ≤ x1 + x3) ∧ (x1 + x3 ≤ 11) ∧ (x1 + x3 + 1 ≤ t) ∧ (0 ≤ x3) ∧ (x0 + x3 ≤ t) ∧ (0 < t) ∧ (t ≤ 84) := by
    clear el d ht
    refine ⟨?_, ?_, ?_, ?_, ?_, ?_, ?_, ?_, ?_, ?_, ?_, ?_, ?_, ?_, ?_, ?_, ?_⟩ <;> omega
  generalize hR0 : x0 + x1 = R0 at *
  generalize hC0 : x0 + x2 = C0 at *
  generalize hR1 : x2 + x3 = R1 at *
  generalize hC1 : x1 + x3 = C1 at *
  clear hs a0 a1 b0 b1 hR0 hC0 hR1 hC1 h
  obtain ⟨D, hD⟩ : ∃ D, diI xs 2 2 = D := ⟨_, rfl⟩
  rw [hD] at d
  have d0 : 0 ≤ D := by omega
  have d1 : D ≤ t := by omega
  have t0 := rc_term (r := R0) (c := C0) (p := x0) (t := t) (by omega) (by omega) (by omega) (by omega) (by omega)
  have u0 := rc_two (r := R0) (c := C0) (t := t) (by omega) (by omega)
  have t1 := rc_term (r := R1) (c := C1) (p := x3) (t := t) (by omega) (by omega) (by omega) (by omega) (by omega)
  have u1 := rc_two (r := R1) (c := C1) (t := t) (by omega) (by omega)
  have e3 : t * t = R0 * t + R1 * t := by rw [← Int.add_mul, e1]
  have e4 : t * t = C0 * t + C1 * t := by rw [← Int.add_mul, e2]
  have e5 : t * D = t * x0 + t * x3 := by rw [d, Int.mul_add]
  have f0 : (R0 + C0) * t = R0 * t + C0 * t := Int.add_mul ..
  have g0 : 2 * t * x0 = 2 * (t * x0) := Int.mul_assoc ..
  have f1 : (R1 + C1) * t = R1 * t + C1 * t := Int.add_mul ..
  have g1 : 2 * t * x3 = 2 * (t * x3) := Int.mul_assoc ..
  refine ⟨by rw [ht]; exact w1, by rw [ht]; exact w2, ?_, by rw [hD]; exact d0, by rw [ht, hD]; exact d1, ?_, ?_⟩
  · rw [el, ht]
    intro q hq
    simp only [List.mem_cons, List.not_mem_nil, or_false] at hq
    rcases hq with rfl | rfl <;> (refine ⟨?_, ?_, ?_, ?_⟩ <;> dsimp only <;> omega)
  · rw [el, ht, hD]
    simp only [rcS]
    omega
  · rw [el, ht]
    simp only [rcS]
    omega
theorem ag_3 {xs : List Int} (h : Tab xs 3) : AgOk xs 3 := by
  have hs := stI_all h.len
  have a0 := h.mid 0 (by omega)
  have a1 := h.mid 1 (by omega)
  have a2 := h.mid 2 (by omega)
  have b0 := h.off 0 1 (by omega) (by omega) (by omega)
  have b1 := h.off 0 2 (by omega) (by omega) (by omega)
  have b2 := h.off 1 0 (by omega) (by omega) (by omega)
  have b3 := h.off 1 2 (by omega) (by omega) (by omega)
  have b4 := h.off 2 0 (by omega) (by omega) (by omega)
  have b5 := h.off 2 1 (by omega) (by omega) (by omega)
  simp only [stI, Nat.zero_mul, Nat.one_mul, Nat.zero_add, Nat.add_zero, Nat.reduceMul, Nat.reduceAdd] at *
  obtain ⟨t, ht⟩ : ∃ t, xs.sum = t := ⟨_, rfl⟩
  rw [ht] at hs
  have el : agL xs 3 3 = [(rowI xs 3 2 3, colI xs 3 2 3), (rowI xs 3 1 3, colI xs 3 1 3), (rowI xs 3 0 3, colI xs 3 0 3)] := rfl
  have r0 : rowI xs 3 0 3 = xs.getD 0 0 + xs.getD 1 0 + xs.getD 2 0 := by simp [rowI]
  have c0 : colI xs 3 0 3 = xs.getD 0 0 + xs.getD 3 0 + xs.getD 6 0 := by simp [colI]
  have r1 : rowI xs 3 1 3 = xs.getD 3 0 + xs.getD 4 0 + xs.getD 5 0 := by simp [rowI]
  have c1 : colI xs 3 1 3 = xs.getD 1 0 + xs.getD 4 0 + xs.getD 7 0 := by simp [colI]
  have r2 : rowI xs 3 2 3 = xs.getD 6 0 + xs.getD 7 0 + xs.getD 8 0 := by simp [rowI]
  have c2 : colI xs 3 2 3 = xs.getD 2 0 + xs.getD 5 0 + xs.getD 8 0 := by simp [colI]
  have d : diI xs 3 3 = xs.getD 0 0 + xs.getD 4 0 + xs.getD 8 0 := by simp [diI]
  rw [r0, r1, r2, c0, c1, c2] at el
  clear r0 r1 r2 c0 c1 c2
  generalize xs.getD 0 0 = x0 at *
  generalize xs.getD 1 0 = x1 at *
  generalize xs.getD 2 0 = x2 at *
  generalize xs.getD 3 0 = x3 at *
  generalize xs.getD 4 0 = x4 at *
  generalize xs.getD 5 0 = x5 at *
  generalize xs.getD 6 0 = x6 at *
  generalize xs.getD 7 0 = x7 at *
  generalize xs.getD 8 0 = x8 at *
  obtain ⟨e1, e2, v0, p0, q0, s0, r0, z0, v1, p1, q1, s1, r1, z1, v2, p2, q2, s2, r2, z2, y0, w1, w2⟩ : ((x0 + x1 + x2) + (x3 + x4 + x5) + (x6 + x7 + x8) = t) ∧ ((x0 + x3 + x6) + (x1 + x4 + x7) + (x2 + x5 + x8) = t) ∧ ((x0 + x1 + x2) + (x0 + x3 + x6) ≤ t + x0) ∧ (0 ≤ x0 + x1 + x2) ∧ (0 ≤ x0 + x3 + x6) ∧ (x0 + x3 + x6 ≤ 16) ∧ (x0 + x3 + x6 + 2 ≤ t) ∧ (0 ≤ x0) ∧ ((x3 + x4 + x5) + (x1 + x4 + x7) ≤ t + x4) ∧ (0 ≤ x3 + x4 + x5) ∧ (0 ≤ x1 + x4 + x7) ∧ (x1 + x4 + x7 ≤ 16) ∧ (x1 + x4 + x7 + 2 ≤ t) ∧ (0 ≤ x4) ∧ ((x6 + x7 + x8) + (x2 + x5 + x8) ≤ t + x8) ∧ (0 ≤ x6 + x7 + x8) ∧ (0 ≤ x2 + x5 + x8) ∧ (x2 + x5 + x8 ≤ 16) ∧ (x2 + x5 + x8 + 2 ≤ t) ∧ (0 ≤ x8) ∧ (x0 + x4 + x8 ≤ t) ∧ (0 < t) ∧ (t ≤ 84) := by
    clear el d ht
    refine ⟨?_, ?_, ?_, ?_, ?_, ?_, ?_, ?_, ?_, ?_, ?_, ?_, ?_, ?_, ?_, ?_, ?_, ?_, ?_, ?_, ?_, ?_, ?_⟩ <;> omega
  generalize hR0 : x0 + x1 + x2 = R0 at *
  generalize hC0 : x0 + x3 + x6 = C0 at *
  generalize hR1 : x3 + x4 + x5 = R1 at *
  generalize hC1 : x1 + x4 + x7 = C1 at *
  generalize hR2 : x6 + x7 + x8 = R2 at *
  generalize hC2 : x2 + x5 + x8 = C2 at *
  clear hs a0 a1 a2 b0 b1 b2 b3 b4 b5 hR0 hC0 hR1 hC1 hR2 hC2 h
  obtain ⟨D, hD⟩ : ∃ D, diI xs 3 3 = D := ⟨_, rfl⟩
  rw [hD] at d
  have d0 : 0 ≤ D := by omega
  have d1 : D ≤ t := by omega
  have t0 := rc_term (r := R0) (c := C0) (p := x0) (t := t) (by omega) (by omega) (by omega) (by omega) (by omega)
  have u0 := rc_two (r := R0) (c := C0) (t := t) (by omega) (by omega)
  have t1 := rc_term (r := R1) (c := C1) (p := x4) (t := t) (by omega) (by omega) (by omega) (by omega) (by omega)
  have u1 := rc_two (r := R1) (c := C1) (t := t) (by omega) (by omega)
  have t2 := rc_term (r := R2) (c := C2) (p := x8) (t := t) (by omega) (by omega) (by omega) (by omega) (by omega)
  have u2 := rc_two (r := R2) (c := C2) (t := t) (by omega) (by omega)
  have e3 : t * t = R0 * t + R1 * t + R2 * t := by rw [← Int.add_mul, ← Int.add_mul, e1]
  have e4 : t * t = C0 * t + C1 * t + C2 * t := by rw [← Int.add_mul, ← Int.add_mul, e2]
  have e5 : t * D = t * x0 + t * x4 + t * x8 := by rw [d, Int.mul_add, Int.mul_add]
  have f0 : (R0 + C0) * t = R0 * t + C0 * t := Int.add_mul ..
  have g0 : 2 * t * x0 = 2 * (t * x0) := Int.mul_assoc ..
  have f1 : (R1 + C1) * t = R1 * t + C1 * t := Int.add_mul ..
  have g1 : 2 * t * x4 = 2 * (t * x4) := Int.mul_assoc ..
  have f2 : (R2 + C2) * t = R2 * t + C2 * t := Int.add_mul ..
  have g2 : 2 * t * x8 = 2 * (t * x8) := Int.mul_assoc ..
  refine ⟨by rw [ht]; exact w1, by rw [ht]; exact w2, ?_, by rw [hD]; exact d0, by rw [ht, hD]; exact d1, ?_, ?_⟩
  · rw [el, ht]
    intro q hq
    simp only [List.mem_cons, List.not_mem_nil, or_false] at hq
    rcases hq with rfl | rfl | rfl <;> (refine ⟨?_, ?_, ?_, ?_⟩ <;> dsimp only <;> omega)
  · rw [el, ht, hD]
    simp only [rcS]
    omega
  · rw [el, ht]
    simp only [rcS]
    omega
theorem ag_4 {xs : List Int} (h : Tab xs 4) : AgOk xs 4 := by
  have hs := stI_all h.len
  have a0 := h.mid 0 (by omega)
  have a1 := h.mid 1 (by omega)
  have a2 := h.mid 2 (by omega)
  have a3 := h.mid 3 (by omega)
  have b0 := h.off 0 1 (by omega) (by omega) (by omega)
  have b1 := h.off 0 2 (by omega) (by omega) (by omega)
  have b2 := h.off 0 3 (by omega) (by omega) (by omega)
  have b3 := h.off 1 0 (by omega) (by omega) (by omega)
  have b4 := h.off 1 2 (by omega) (by omega) (by omega)
  have b5 := h.off 1 3 (by omega) (by omega) (by omega)
  have b6 := h.off 2 0 (by omega) (by omega) (by omega)
  have b7 := h.off 2 1 (by omega) (by omega) (by omega)
  have b8 := h.off 2 3 (by omega) (by omega) (by omega)
  have b9 := h.off 3 0 (by omega) (by omega) (by omega)
  have b10 := h.off 3 1 (by omega) (by omega) (by omega)
  have b11 := h.off 3 2 (by omega) (by omega) (by omega)
  simp only [stI, Nat.zero_mul, Nat.one_mul, Nat.zero_add, Nat.add_zero, Nat.reduceMul, Nat.reduceAdd] at *
  obtain ⟨t, ht⟩ : ∃ t, xs.sum = t := ⟨_, rfl⟩
  rw [ht] at hs
  have el : agL xs 4 4 = [(rowI xs 4 3 4, colI xs 4 3 4), (rowI xs 4 2 4, colI xs 4 2 4), (rowI xs 4 1 4, colI xs 4 1 4), (rowI xs 4 0 4, colI xs 4 0 4)] := rfl
  have r0 : rowI xs 4 0 4 = xs.getD 0 0 + xs.getD 1 0 + xs.getD 2 0 + xs.getD 3 0 := by simp [rowI]
  have c0 : colI xs 4 0 4 = xs.getD 0 0 + xs.getD 4 0 + xs.getD 8 0 + xs.getD 12 0 := by simp [colI]
  have r1 : rowI xs 4 1 4 = xs.getD 4 0 + xs.getD 5 0 + xs.getD 6 0 + xs.getD 7 0 := by simp [rowI]
  have c1 : colI xs 4 1 4 = xs.getD 1 0 + xs.getD 5 0 + xs.getD 9 0 + xs.getD 13 0 := by simp [colI]
  have r2 : rowI xs 4 2 4 = xs.getD 8 0 + xs.getD 9 0 + xs.getD 10 0 + xs.getD 11 0 := by simp [rowI]
  have c2 : colI xs 4 2 4 = xs.getD 2 0 + xs.getD 6 0 + xs.getD 10 0 + xs.getD 14 0 := by simp [colI]
  have r3 : rowI xs 4 3 4 = xs.getD 12 0 + xs.getD 13 0 + xs.getD 14 0 + xs.getD 15 0 := by simp [rowI]
  have c3 : colI xs 4 3 4 = xs.getD 3 0 + xs.getD 7 0 + xs.getD 11 0 + xs.getD 15 0 := by simp [colI]
  have d : diI xs 4 4 = xs.getD 0 0 + xs.getD 5 0 + xs.getD 10 0 + xs.getD 15 0 := by simp [diI]
  rw [r0, r1, r2, r3, c0, c1, c2, c3] at el
  clear r0 r1 r2 r3 c0 c1 c2 c3
  generalize xs.getD 0 0 = x0 at *
  generalize xs.getD 1 0 = x1 at *
  generalize xs.getD 2 0 = x2 at *
  generalize xs.getD 3 0 = x3 at *
  generalize xs.getD 4 0 = x4 at *
  generalize xs.getD 5 0 = x5 at *
  generalize xs.getD 6 0 = x6 at *
  generalize xs.getD 7 0 = x7 at *
  generalize xs.getD 8 0 = x8 at *
  generalize xs.getD 9 0 = x9 at *
  generalize xs.getD 10 0 = x10 at *
  generalize xs.getD 11 0 = x11 at *
  generalize xs.getD 12 0 = x12 at *
  generalize xs.getD 13 0 = x13 at *
  generalize xs.getD 14 0 = x14 at *
  generalize xs.getD 15 0 = x15 at *
  obtain ⟨e1, e2, v0, p0, q0, s0, r0, z0, v1, p1, q1, s1, r1, z1, v2, p2, q2, s2, r2, z2, v3, p3, q3, s3, r3, z3, y0, w1, w2⟩ : ((x0 + x1 + x2 + x3) + (x4 + x5 + x6 + x7) + (x8 + x9 + x10 + x11) + (x12 + x13 + x14 + x15) = t) ∧ ((x0 + x4 + x8 + x12) + (x1 + x5 + x9 + x13) + (x2 + x6 + x10 + x14) + (x3 + x7 + x11 + x15) = t) ∧ ((x0 + x1 + x2 + x3) + (x0 + x4 + x8 + x12) ≤ t + x0) ∧ (0 ≤ x0 + x1 + x2 + x3) ∧ (0 ≤ x0 + x4 + x8 + x12) ∧ (x0 + x4 + x8 + x12 ≤ 21) ∧ (x0 + x4 + x8 + x12 + 3 ≤ t) ∧ (0 ≤ x0) ∧ ((x4 + x5 + x6 + x7) + (x1 + x5 + x9 + x13) ≤ t + x5) ∧ (0 ≤ x4 + x5 + x6 + x7) ∧ (0 ≤ x1 + x5 + x9 + x13) ∧ (x1 + x5 + x9 + x13 ≤ 21) ∧ (x1 + x5 + x9 + x13 + 3 ≤ t) ∧ (0 ≤ x5) ∧ ((x8 + x9 + x10 + x11) + (x2 + x6 + x10 + x14) ≤ t + x10) ∧ (0 ≤ x8 + x9 + x10 + x11) ∧ (0 ≤ x2 + x6 + x10 + x14) ∧ (x2 + x6 + x10 + x14 ≤ 21) ∧ (x2 + x6 + x10 + x14 + 3 ≤ t) ∧ (0 ≤ x10) ∧ ((x12 + x13 + x14 + x15) + (x3 + x7 + x11 + x15) ≤ t + x15) ∧ (0 ≤ x12 + x13 + x14 + x15) ∧ (0 ≤ x3 + x7 + x11 + x15) ∧ (x3 + x7 + x11 + x15 ≤ 21) ∧ (x3 + x7 + x11 + x15 + 3 ≤ t) ∧ (0 ≤ x15) ∧ (x0 + x5 + x10 + x15 ≤ t) ∧ (0 < t) ∧ (t ≤ 84) := by
    clear el d ht
    refine ⟨?_, ?_, ?_, ?_, ?_, ?_, ?_, ?_, ?_, ?_, ?_, ?_, ?_, ?_, ?_, ?_, ?_, ?_, ?_, ?_, ?_, ?_, ?_, ?_, ?_, ?_, ?_, ?_, ?_⟩ <;> omega
  generalize hR0 : x0 + x1 + x2 + x3 = R0 at *
  generalize hC0 : x0 + x4 + x8 + x12 = C0 at *
  generalize hR1 : x4 + x5 + x6 + x7 = R1 at *
  generalize hC1 : x1 + x5 + x9 + x13 = C1 at *
  generalize hR2 : x8 + x9 + x10 + x11 = R2 at *
  generalize hC2 : x2 + x6 + x10 + x14 = C2 at *
  generalize hR3 : x12 + x13 + x14 + x15 = R3 at *
  generalize hC3 : x3 + x7 + x11 + x15 = C3 at *
  clear hs a0 a1 a2 a3 b0 b1 b2 b3 b4 b5 b6 b7 b8 b9 b10 b11 hR0 hC0 hR1 hC1 hR2 hC2 hR3 hC3 h
  obtain ⟨D, hD⟩ : ∃ D, diI xs 4 4 = D := ⟨_, rfl⟩
  rw [hD] at d
  have d0 : 0 ≤ D := by omega
  have d1 : D ≤ t := by omega
  have t0 := rc_term (r := R0) (c := C0) (p := x0) (t := t) (by omega) (by omega) (by omega) (by omega) (by omega)
  have u0 := rc_two (r := R0) (c := C0) (t := t) (by omega) (by omega)
  have t1 := rc_term (r := R1) (c := C1) (p := x5) (t := t) (by omega) (by omega) (by omega) (by omega) (by omega)
  have u1 := rc_two (r := R1) (c := C1) (t := t) (by omega) (by omega)
  have t2 := rc_term (r := R2) (c := C2) (p := x10) (t := t) (by omega) (by omega) (by omega) (by omega) (by omega)
  have u2 := rc_two (r := R2) (c := C2) (t := t) (by omega) (by omega)
  have t3 := rc_term (r := R3) (c := C3) (p := x15) (t := t) (by omega) (by omega) (by omega) (by omega) (by omega)
  have u3 := rc_two (r := R3) (c := C3) (t := t) (by omega) (by omega)
  have e3 : t * t = R0 * t + R1 * t + R2 * t + R3 * t := by rw [← Int.add_mul, ← Int.add_mul, ← Int.add_mul, e1]
  have e4 : t * t = C0 * t + C1 * t + C2 * t + C3 * t := by rw [← Int.add_mul, ← Int.add_mul, ← Int.add_mul, e2]
  have e5 : t * D = t * x0 + t * x5 + t * x10 + t * x15 := by rw [d, Int.mul_add, Int.mul_add, Int.mul_add]
  have f0 : (R0 + C0) * t = R0 * t + C0 * t := Int.add_mul ..
  have g0 : 2 * t * x0 = 2 * (t * x0) := Int.mul_assoc ..
  have f1 : (R1 + C1) * t = R1 * t + C1 * t := Int.add_mul ..
  have g1 : 2 * t * x5 = 2 * (t * x5) := Int.mul_assoc ..
  have f2 : (R2 + C2) * t = R2 * t + C2 * t := Int.add_mul ..
  have g2 : 2 * t * x10 = 2 * (t * x10) := Int.mul_assoc ..
  have f3 : (R3 + C3) * t = R3 * t + C3 * t := Int.add_mul ..
  have g3 : 2 * t * x15 = 2 * (t * x15) := Int.mul_assoc ..
  refine ⟨by rw [ht]; exact w1, by rw [ht]; exact w2, ?_, by rw [hD]; exact d0, by rw [ht, hD]; exact d1, ?_, ?_⟩
  · rw [el, ht]
    intro q hq
    simp only [List.mem_cons, List.not_mem_nil, or_false] at hq
    rcases hq with rfl | rfl | rfl | rfl <;> (refine ⟨?_, ?_, ?_, ?_⟩ <;> dsimp only <;> omega)
  · rw [el, ht, hD]
    simp only [rcS]
    omega
  · rw [el, ht]
    simp only [rcS]
    omega
theorem ag_all {xs : List Int} {n : Nat} (h : Tab xs n) (h2 : 2 ≤ n) (h4 : n ≤ 4) : AgOk xs n := by
  have : n = 2 ∨ n = 3 ∨ n = 4 := by omega
  rcases this with rfl | rfl | rfl
  · exact ag_2 h
  · exact ag_3 h
  · exact ag_4 h
end Go.Proofs.Ytolbibpmngmpdaa
namespace Go.Proofs.Ytolbibpmngmpdaa
open Go.RowKit Mem Fl
set_option linter.unusedVariables false
set_option maxRecDepth 100000

theorem il_at {w : World} {B n k : Nat} {A : Option Addr} {xs : List Int} (h : Reads w B 1 A n (il xs)) (hk : k < n) : ∃ ad, A = some ad ∧ ad.block < B ∧ w.cell? (ad.add k) = some (.int .i64 (xs.getD k 0)) := by
  obtain ⟨ad, x, hA, hb, hx, hc⟩ := h.map_at hk
  refine ⟨ad, hA, hb, ?_⟩
  rw [hc, List.getD_eq_getElem?_getD, hx]; rfl
set_option maxHeartbeats 1000000 in
theorem i_sumOf {A : Option Addr} {n c B : Nat} {xs : List Int} {w : World} (h : Reads w B 1 A n (il xs)) (hn : n ≤ 1000) (hx : ∀ x ∈ xs, 0 ≤ x ∧ x ≤ 1000) :
    Calls Try.prog 76 #[.slice A n c] w fun e w' => e = .returned (.int .i64 xs.sum) ∧ w = w' := by
  have Hl := hide h.map_len
  go_enter Try.func76, Try.ntmps76
  go_wp2
  go_loopw [3, 8] (fun s i wr => ∃ k : Nat, ∃ m : Int, k ≤ n ∧ i = .int .i64 k ∧ s = .int .i64 m ∧ Hid (m = (xs.take k).sum) ∧ 0 ≤ m ∧ m ≤ k * 1000 ∧ wr = w) (fun _ i _ => n - (intOf i).toNat)
  case atStart => exact ⟨0, 0, Nat.zero_le _, rfl, rfl, hide (by simp), Int.le_refl _, by omega, rfl⟩
  case round =>
    obtain ⟨k, m, hk, rfl, rfl, hm, m0, m1, rfl⟩ := hrel
    by_cases hlt : k < n
    · obtain ⟨ad, x, rfl, _, hxk, hc⟩ := h.map_at hlt
      obtain ⟨x0, x1⟩ := hx x (List.mem_of_getElem? hxk)
      have HS : Hid ((xs.take (k + 1)).sum = m + x) := hide (by rw [sum_succ hxk, ← hm.out])
      clear hxk
      go_wp2
      go_roundw
      case rel => exact ⟨k + 1, m + x, by omega, by go_num, by go_num, hide (by rw [HS.out]), by omega, by push_cast; omega, trivial⟩
      case measure => (simp [intOf]; try omega)
    · obtain rfl : k = n := by omega
      have HE : Hid (xs.sum = m) := hide (by rw [hm.out, List.take_of_length_le (by rw [Hl.out]; exact Nat.le_refl _)])
      go_wp2
      go_ret
      exact ⟨by rw [HE.out]; rfl, rfl⟩
theorem i_areMany {A : Option Addr} {n c B : Nat} {xs : List Int} {a b lo hi : Int} {w : World} (h : Reads w B 1 A n (il xs)) (hB : B ≤ w.heap.size) (hn : n ≤ 1000) (hq : inB n a b = true) (hx : xs.all (fun x => inB x lo hi) = true) :
    Calls Try.prog 75 #[.slice A n c, .int .i64 a, .int .i64 b, .int .i64 lo, .int .i64 hi] w fun e w' => e = .returned (.bool true) ∧ Below w.heap.size w w' := by
  go_enter Try.func75, Try.ntmps75
  go_wp2_with (first | (go_at_call 59; refine (i_within _ _ _ _).mono ?_; rintro e w' ⟨rfl, rfl⟩; rw [hq]) | (go_at_call 117; refine (i_areWithin h hB (by unfold maxLen; omega)).mono ?_; rintro e w' ⟨rfl, hb⟩; rw [hx]))
  go_ret
  exact ⟨rfl, hb⟩
theorem mul_idx {i k n N : Nat} (hi : i < n) (hk : k < n) (hN : n * n = N) : ∃ q : Nat, (i : Int) * (n : Int) = (q : Int) ∧ q = i * n ∧ q + k < N := by
  refine ⟨i * n, by rw [Int.natCast_mul], rfl, ?_⟩
  have := Nat.mul_le_mul_right n (show i + 1 ≤ n by omega)
  rw [Nat.add_mul] at this
  omega
theorem ag_told {b r c t : Int} {z : Nat} {l : List (Int × Int)} (w1 w2 : World) (hz : cn .f32 z = agB t l) : cn .f32 (flR .add .f32 z (flR .quo .f32 (floatOfInt .f32 (r * c)) (floatOfInt .f32 (t * t)) w1) w2) = agB t ((r, c) :: l) := by
  rw [cn_flR, ← fb_cn, cn_flR, hz]; rfl
theorem ag_quo (a z : Nat) (W2 W3 W4 : World) : cn .f32 (flR .quo .f32 (flR .sub .f32 a z W2) (flR .sub .f32 1065353216 z W3) W4) = fb .quo .f32 (fb .sub .f32 (cn .f32 a) (cn .f32 z)) (fb .sub .f32 1065353216 (cn .f32 z)) := by
  rw [cn_flR, ← fb_cn, cn_flR, cn_flR, fb_cn .sub, fb_cnr .sub]
set_option maxHeartbeats 4000000 in
theorem i_AgreeOf {A : Option Addr} {N n c B : Nat} {xs : List Int} {b : Bool} {w : World} (h : Reads w B 1 A N (il xs)) (hB : B ≤ w.heap.size) (hN : n * n = N) (h1 : 1 ≤ n) (h4 : n ≤ 4) (hx : ∀ k, k < N → 0 ≤ xs.getD k 0 ∧ xs.getD k 0 ≤ 6) (hs : 0 < xs.sum) (hs2 : xs.sum ≤ 96)
    (hb : (FloatKind.f32.format.order (fb .sub .f32 1065353216 (agB xs.sum (agL xs n n))) 0 == some .eq) = b) (hf : b = false → fin .f32 (agV (diI xs n n) xs.sum (agL xs n n)) = true) :
    Calls Try.prog 23 #[.slice A N c, .int .i64 n] w fun e w' => e = .returned (.tuple #[.float .f32 (if b = true then 0 else agV (diI xs n n) xs.sum (agL xs n n)), .bool (!b)]) ∧ Below w.heap.size w w' := by
  have hl := h.map_len
  have hN2 : N ≤ 16 := by
    have := Nat.mul_le_mul h4 h4
    omega
  have hnn : (n : Int) * (n : Int) = (N : Int) := by rw [← hN, Int.natCast_mul]
  have hx2 : ∀ x ∈ xs, 0 ≤ x ∧ x ≤ 6 := fun x hm => by
    obtain ⟨k, hk, rfl⟩ := List.getElem_of_mem hm
    have := hx k (by omega)
    rwa [List.getD_eq_getElem?_getD, List.getElem?_eq_getElem hk] at this
  have hall : xs.all (fun x => inB x 0 1000) = true := List.all_eq_true.2 (fun x hm => by
    have := hx2 x hm
    unfold inB; simp; omega)
  have hin : inB (n : Int) 1 8 = true := by unfold inB; simp; omega
  have hiN : inB (N : Int) (N : Int) (N : Int) = true := by unfold inB; simp
  obtain ⟨t, ht⟩ : ∃ t, xs.sum = t := ⟨_, rfl⟩
  rw [ht] at hs hs2 hb hf ⊢
  have t1 : (t == 0) = false := by rw [beq_eq_false_iff_ne]; omega
  have hn1 : N ≤ 1000 := by omega
  have HB := hide hb
  have HN := hide hN
  have Hl := hide hl
  have HX := hide hx
  clear hx hN hl hb
  go_enter Try.func23, Try.ntmps23
  go_wp2_with fail
  refine (i_within _ _ _ _).mono ?_
  rintro e w' ⟨rfl, rfl⟩
  rw [hin]
  go_wp2_with fail
  refine (i_areMany h hB hn1 hiN hall).mono ?_
  rintro e w1 ⟨rfl, bel⟩
  have h' := (h.more hB).below bel
  go_wp2_with fail
  refine (i_sumOf h' hn1 (fun x hm => by have := hx2 x hm; omega)).mono ?_
  rintro e w' ⟨rfl, rfl⟩
  rw [ht]
  go_wp2_with fail
  refine (i_sumOf h' hn1 (fun x hm => by have := hx2 x hm; omega)).mono ?_
  rintro e w' ⟨rfl, rfl⟩
  rw [ht]
  have Ht := hide ht
  clear ht hx2 hall hiN hin h t1
  obtain ⟨U, hU⟩ : ∃ U, t * t = U := ⟨_, rfl⟩
  have U0 : 0 ≤ U := by rw [← hU]; exact Int.mul_nonneg (by omega) (by omega)
  have U1 : U ≤ 96 * 96 := by rw [← hU]; exact Int.mul_le_mul hs2 hs2 (by omega) (by omega)
  go_wp2
  go_loopw [6, 7, 36] (fun mv bv iv wr => ∃ i m : Nat, ∃ d : Int, ∃ z : Nat, i ≤ n ∧ iv = .int .i64 (i : Int) ∧ mv = .int .i64 d ∧ 0 ≤ d ∧ d ≤ 6 * (i : Int) ∧ Hid (d = diI xs n i) ∧ bv = .float .f32 z ∧ Hid (cn .f32 z = agB t (agL xs n i)) ∧ wr = w1.drewN m) (fun _ _ iv _ => n - (intOf iv).toNat)
  case atStart => exact ⟨0, 0, 0, 0, Nat.zero_le _, rfl, rfl, by omega, by omega, hide rfl, rfl, hide (by show cn .f32 0 = 0; decide +kernel), rfl⟩
  case round =>
    obtain ⟨i, m, d, z, hi, rfl, rfl, d0, d1, hd, rfl, hz, rfl⟩ := hrel
    by_cases hlt : i < n
    · have iI : (i : Int) < (n : Int) := by omega
      go_wp2
      go_loopw [10, 11, 40] (fun rv cv kv wr => ∃ k : Nat, ∃ r s : Int, k ≤ n ∧ kv = .int .i64 (k : Int) ∧ rv = .int .i64 r ∧ cv = .int .i64 s ∧ 0 ≤ r ∧ r ≤ 6 * (k : Int) ∧ 0 ≤ s ∧ s ≤ 6 * (k : Int) ∧ Hid (r = rowI xs n i k) ∧ Hid (s = colI xs n i k) ∧ wr = w1.drewN m) (fun _ _ kv _ => n - (intOf kv).toNat)
      case atStart => exact ⟨0, 0, 0, Nat.zero_le _, rfl, rfl, rfl, by omega, by omega, by omega, by omega, hide rfl, hide rfl, rfl⟩
      case round =>
        obtain ⟨k, r, s, hk, rfl, rfl, rfl, r0, r1, s0, s1, hr, hs3, rfl⟩ := hrel
        by_cases hkt : k < n
        · have kI : (k : Int) < (n : Int) := by omega
          obtain ⟨q, q1, q2, q3⟩ := mul_idx hlt hkt HN.out
          obtain ⟨p, p1, p2, p3⟩ := mul_idx hkt hlt HN.out
          obtain ⟨x0, x1⟩ := HX.out (q + k) q3
          obtain ⟨y0, y1⟩ := HX.out (p + i) p3
          obtain ⟨ad, rfl, _, cx⟩ := il_at h' q3
          obtain ⟨ad2, e2, _, cy⟩ := il_at h' p3
          injection e2 with e2
          subst e2
          obtain ⟨X, hX⟩ : ∃ X, xs.getD (q + k) 0 = X := ⟨_, rfl⟩
          obtain ⟨Y, hY⟩ : ∃ Y, xs.getD (p + i) 0 = Y := ⟨_, rfl⟩
          rw [hX] at x0 x1 cx
          rw [hY] at y0 y1 cy
          have HR : Hid (r + X = rowI xs n i (k + 1)) := hide (by rw [rowI, ← hr.out, ← q2, hX])
          have HS : Hid (s + Y = colI xs n i (k + 1)) := hide (by rw [colI, ← hs3.out, ← p2, hY])
          clear hX hY q2 p2
          go_wp2
          go_roundw
          case rel => exact ⟨k + 1, r + X, s + Y, by omega, by go_num, by go_num, by go_num, by omega, by push_cast; omega, by omega, by push_cast; omega, HR, HS, trivial⟩
          case measure => simp [intOf]; omega
        · obtain rfl : k = n := by omega
          obtain ⟨q, q1, q2, q3⟩ := mul_idx hlt hlt HN.out
          obtain ⟨x0, x1⟩ := HX.out (q + i) q3
          obtain ⟨ad, rfl, _, cx⟩ := il_at h' q3
          obtain ⟨X, hX⟩ : ∃ X, xs.getD (q + i) 0 = X := ⟨_, rfl⟩
          rw [hX] at x0 x1 cx
          have HD : Hid (d + X = diI xs k (i + 1)) := hide (by rw [diI, ← hd.out, ← q2, hX])
          obtain ⟨V, hV⟩ : ∃ V, r * s = V := ⟨_, rfl⟩
          have V0 : 0 ≤ V := by rw [← hV]; exact Int.mul_nonneg r0 s0
          have V1 : V ≤ 24 * 24 := by rw [← hV]; exact Int.mul_le_mul (by omega) (by omega) s0 (by omega)
          have HZ : Hid (∀ W1 W2 : World, cn .f32 (flR .add .f32 z (flR .quo .f32 (floatOfInt .f32 V) (floatOfInt .f32 U) W1) W2) = agB t (agL xs k (i + 1))) := hide (fun W1 W2 => by
            rw [← hV, ← hU, agL, ← hr.out, ← hs3.out]; exact ag_told (b := 0) W1 W2 hz.out)
          clear hX q2
          go_wp2
          go_roundw
          case rel => exact ⟨i + 1, _, d + X, _, by omega, by go_num, by go_num, by omega, by push_cast; omega, HD, rfl, hide (HZ.out _ _), rfl⟩
          case measure => simp [intOf]; omega
    · obtain rfl : i = n := by omega
      have h1 := HB.out
      rw [← hz.out, fb_cnr] at h1
      have HD := hide hd.out
      cases b with
      | true =>
        go_wp2
        go_ret2
        exact ⟨rfl, below_drewN bel _⟩
      | false =>
        have HF := hide (hf rfl)
        have HV : Hid (∀ W1 W2 W3 W4 : World, cn .f32 (flR .quo .f32 (flR .sub .f32 (flR .quo .f32 (floatOfInt .f32 d) (floatOfInt .f32 t) W1) z W2) (flR .sub .f32 1065353216 z W3) W4) = agV (diI xs i i) t (agL xs i i)) := hide (fun W1 W2 W3 W4 => by
          rw [ag_quo, cn_flR, hz.out, hd.out]; rfl)
        clear hf
        go_wp2_with (go_at_call 57; refine i_ifFinite.mono ?_; rintro e w' ⟨rfl, m', rfl⟩; rw [fin_word (HV.out _ _ _ _) HF.out, HF.out])
        go_ret2
        exact ⟨rfl, below_drewN bel _⟩
end Go.Proofs.Ytolbibpmngmpdaa
namespace Go.Proofs.Ytolbibpmngmpdaa
open Go.RowKit Fl Mem
set_option linter.unusedVariables false
set_option maxRecDepth 100000

theorem snoc_il {w : World} {b : Nat} {t : TypeId} {v : Value} {k : Nat} {z : Int} {zs : List Int} (h : w.ownsRow b t 1 v k (il zs ++ [.int .i64 z])) : w.ownsRow b t 1 v k (il (zs ++ [z])) := by
  rw [il, List.map_append]; exact h
set_option maxHeartbeats 2000000 in
theorem s_R8Below {A : Option Addr} {n c N : Nat} {M : Int} {xs : List Int} {w : World} (h : Reads w w.heap.size 1 A n (xs.map (Value.int .u8))) (hx : ∀ a ∈ xs, (Lit.int .u8 a).wf = true)
    (hn : n ≤ 1048576) (hN : N ≤ 1000) (hM : 2 ≤ M) (hM2 : M ≤ 200) :
    Calls Try.prog 22 #[.slice A n c, .int .i64 (N : Int), .int .i64 M] w fun e w' => ∃ v zs, e = .returned v ∧ w'.ownsRow w.heap.size 2 1 v N (il zs) ∧ Hid (∀ z ∈ zs, 0 ≤ z ∧ z < M) ∧ Below w.heap.size w w' := by
  go_enter Try.func22, Try.ntmps22
  go_wp2_with (go_at_call 61; refine s_l00From.mono ?_; rintro e w' ⟨rfl, rfl⟩)
  have bel0 := ((Below.refl w.heap.size w).alloc (Nat.le_refl _) (.cells #[.slice A n c, .int .i64 0, .int .u64 0] 109)).alloc (by simp) (.cells #[] 2)
  go_loopw [1, 8] (fun i v wr => ∃ (k : Nat) (zs : List Int) (s' : Int), k ≤ N ∧ i = .int .i64 ((N : Int) - (k : Int)) ∧ Hid (∀ z ∈ zs, 0 ≤ z ∧ z < M) ∧ Hid (SrcAt wr w.heap.size A n c k s') ∧ Hid (wr.ownsRow (w.heap.size + 1) 2 1 v k (il zs)) ∧ w.heap.size + 2 ≤ wr.heap.size ∧ Below w.heap.size w wr) (fun i _ _ => (intOf i).toNat)
  case atStart => exact ⟨0, [], 0, Nat.zero_le _, by simp, hide (fun z hz => by cases hz), hide ((Blk.new w _ _).alloc _), hide (own_emp (by simp) (Nat.le_refl _)), by simp, bel0⟩
  case round =>
    clear bel0
    obtain ⟨k, zs, s', hk, rfl, hzs, Hbk, Hown, hz2, bel⟩ := hrel
    by_cases hlt : k < N
    · have hpos : (0 : Int) < (N : Int) - (k : Int) := by omega
      have hwb : w.heap.size + 1 ≤ wr.heap.size := by omega
      go_wp2_with fail
      refine (s_pick (g := w.heap.size) (B := w.heap.size) Hbk.out (h.below bel) (Nat.le_refl _) hx hn (by omega) (by omega) (by omega)).mono ?_
      rintro e w1 ⟨v, s1, rfl, v1, v2, hb1, hg1⟩
      have Hown1 := hide (Hown.out.kept hg1 (own_far Hown.out (Nat.lt_succ_self _)))
      have hsz1 : w.heap.size + 1 ≤ w1.heap.size := Nat.le_trans hwb hg1.size
      have hsz2 : w.heap.size + 2 ≤ w1.heap.size := Nat.le_trans hz2 hg1.size
      have bel1 := bel.grown hg1 (by omega) (fun g' hg' => by injection hg' with hg'; omega)
      have Hb1 := hide hb1
      clear hb1 hg1 Hown Hbk bel
      go_wp2_with (at_builtin; refine wpList_append1 rfl (.tmp 16) (.tmp 20) 40 rfl (w.heap.size + 1) 2 (.int .i64 0) _ 8 info_i64 Try.underlying40 rfl rfl _ _ _ rfl Hown1.out rfl rfl (by omega) (by omega) hsz1 ?_)
      intro v' w' hown' hb'
      have HT := hide (snoc_il hown')
      have Hb2 : Hid (SrcAt w' w.heap.size A n c (k + 1) s1) := hide (Blk.below Hb1.out hb' (Nat.lt_succ_self _))
      have bel2 := bel1.trans (hb'.mono (Nat.le_succ _))
      have hz3 : w.heap.size + 2 ≤ w'.heap.size := Nat.le_trans hsz2 hb'.size
      have HZ : Hid (∀ z ∈ zs ++ [v], 0 ≤ z ∧ z < M) := hide (fun z hz => by
          rcases List.mem_append.1 hz with h1 | h1
          · exact hzs.out z h1
          · rw [List.mem_singleton.1 h1]; exact ⟨v1, v2⟩)
      clear hown' hb' bel1
      go_wp2
      go_roundw
      case rel => exact ⟨k + 1, zs ++ [v], s1, by omega, by go_num, HZ, Hb2, HT, hz3, bel2⟩
      case measure => simp [intOf]; omega
    · obtain rfl : k = N := by omega
      go_wp2
      go_ret
      exact ⟨_, zs, rfl, own_up Hown.out (Nat.le_succ _), hzs, bel⟩
end Go.Proofs.Ytolbibpmngmpdaa
