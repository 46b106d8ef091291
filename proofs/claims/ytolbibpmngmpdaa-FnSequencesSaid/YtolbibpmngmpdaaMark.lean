/-
  Contracts of the helpers of the laws, continued: marks that are written and held, comparisons of whole numbers and of truths.
-/
import Derived.Test.YtolbibpmngmpdaaHelq
import Derived.Test.YtolbibpmngmpdaaConv
namespace Go.Proofs.Ytolbibpmngmpdaa
open Go.RowKit Fl Mem
set_option linter.unusedVariables false
set_option maxRecDepth 100000

theorem isNan_word {k : FloatKind} {s : Bool} {r : Nat} (h : r ≤ k.format.infRung) : isNan k (k.format.word s r) = false := by
  unfold isNan Ieee.Format.read Ieee.Format.word
  have hlt := Ieee.Format.infRung_lt k.format
  have hw : 0 < k.format.signWeight := by omega
  have hm : (if s = true then k.format.signWeight + r else r) % k.format.signWeight = r := by
    split
    · rw [Nat.add_mod_left, Nat.mod_eq_of_lt (by omega)]
    · exact Nat.mod_eq_of_lt (by omega)
  simp only [hm]
  split
  · rfl
  · split
    · rfl
    · rw [if_pos (by omega)]; rfl
theorem isNan_nearest (k : FloatKind) (s : Bool) (m : Nat) (e : Int) : isNan k (k.format.nearest s m e) = false := by
  unfold Ieee.Format.nearest
  split
  · exact isNan_word (Nat.zero_le _)
  · exact isNan_word (Nat.min_le_right _ _)
theorem isNan_ofInt (k : FloatKind) (n : Int) : isNan k (floatOfInt k n) = false := isNan_nearest _ _ _ _

/-- The marks of n places, from k on. -/
def marksOf {α : Type} (F : Int → α) (k n : Nat) : List α := (List.range n).map fun i => F ((k + i : Nat) : Int)
theorem marksOf_len {α : Type} (F : Int → α) (k n : Nat) : (marksOf F k n).length = n := by simp [marksOf]
theorem marksOf_at {α : Type} {F : Int → α} {k n i : Nat} (h : i < n) : (marksOf F k n)[i]? = some (F ((k + i : Nat) : Int)) := by
  simp [marksOf, h]

/-- The cells of a row of which the first i are marks. -/
def half (F : Int → Value) (k i : Nat) (cs : List Value) : List Value := marksOf F k i ++ cs.drop i
theorem half_len {F : Int → Value} {k i : Nat} {cs : List Value} (h : i ≤ cs.length) : (half F k i cs).length = cs.length := by
  simp [half, marksOf_len]; omega
theorem half_set {F : Int → Value} {k i : Nat} {cs : List Value} (h : i < cs.length) : (half F k i cs).set i (F ((k + i : Nat) : Int)) = half F k (i + 1) cs := by
  unfold half
  apply List.ext_getElem?
  intro j
  rw [List.getElem?_set]
  simp only [List.length_append, marksOf_len, List.length_drop]
  by_cases hj : i = j
  · subst hj
    rw [if_pos rfl, if_pos (by omega), List.getElem?_append_left (by rw [marksOf_len]; omega), marksOf_at (by omega)]
  · rw [if_neg hj]
    rcases Nat.lt_or_ge j i with h1 | h1
    · rw [List.getElem?_append_left (by rw [marksOf_len]; omega), List.getElem?_append_left (by rw [marksOf_len]; omega), marksOf_at h1, marksOf_at (by omega)]
    · rw [List.getElem?_append_right (by rw [marksOf_len]; omega), List.getElem?_append_right (by rw [marksOf_len]; omega)]
      simp only [marksOf_len, List.getElem?_drop]
      congr 1
      omega
theorem half_all {F : Int → Value} {k : Nat} {cs : List Value} : half F k cs.length cs = marksOf F k cs.length := by
  unfold half; simp

/-- One cell of an owned row is written. -/
theorem own_set {w : World} {base : Nat} {e : TypeId} {g n c : Nat} {xs : List Value} (h : w.ownsRow base e 1 (.slice (some ⟨g, 0, none⟩) n c) n xs) {i : Nat} (hi : i < n) (u : Value) :
    (w.setCell ⟨g, i, none⟩ u).ownsRow base e 1 (.slice (some ⟨g, 0, none⟩) n c) n (xs.set i u) := by
  obtain ⟨h1, h2⟩ := h
  refine ⟨by simpa using h1, ?_⟩
  rcases h2 with ⟨h2, _⟩ | ⟨g', cap, cur, hv, hb, hg, hnc, hcm, hcs, htake⟩
  · cases h2
  · injection hv with hv1 _ hv2
    injection hv1 with hv1
    injection hv1 with hv1
    subst hv1
    subst hv2
    refine .inr ⟨g, c, cur.setIfInBounds i u, rfl, hb, ?_, hnc, hcm, by simpa using hcs, ?_⟩
    · have := Blk.set_ (w := w) (g := g) (t := e) (cs := cur) hg i u
      exact this
    · rw [← htake, Array.toList_setIfInBounds]
      simp only [Nat.mul_one]
      rw [List.take_set]
theorem own_cell {w : World} {base : Nat} {e : TypeId} {g n c : Nat} {xs : List Value} (h : w.ownsRow base e 1 (.slice (some ⟨g, 0, none⟩) n c) n xs) {i : Nat} {u : Value} (hu : xs[i]? = some u) :
    w.cell? ⟨g, i, none⟩ = some u ∧ w.frozen? ⟨g, i, none⟩ = false := by
  refine ⟨by have := h.cells (g := g) rfl i u hu; simpa [Addr.add_lit] using this, ?_⟩
  rcases h.2 with ⟨h2, _⟩ | ⟨g', cap, cur, hv, hb, hg, _⟩
  · cases h2
  · injection hv with hv1 _ _
    injection hv1 with hv1
    injection hv1 with hv1
    subst hv1
    exact Blk.frozen (w := w) (t := e) (cs := cur) hg i
theorem own_addr {w : World} {base : Nat} {e : TypeId} {size n : Nat} {v : Value} {xs : List Value} (h : w.ownsRow base e size v n xs) (hn : 0 < n) : ∃ g c, v = .slice (some ⟨g, 0, none⟩) n c := by
  rcases h.2 with ⟨_, h0⟩ | ⟨g, cap, cur, rfl, _⟩
  · omega
  · exact ⟨g, cap, rfl⟩
theorem own_len {w : World} {base : Nat} {e : TypeId} {n : Nat} {v : Value} {xs : List Value} (h : w.ownsRow base e 1 v n xs) : xs.length = n := by have := h.1; omega

/-- Two owned rows of which the second one's base lies beyond the first one's block. -/
theorem own_apart {w w2 : World} {b1 b2 : Nat} {e1 e2 : TypeId} {s1 s2 n1 n2 : Nat} {v1 v2 : Value} {xs1 xs2 : List Value} (h1 : w.ownsRow b1 e1 s1 v1 n1 xs1) (h2 : w2.ownsRow b2 e2 s2 v2 n2 xs2)
    (hs : w.heap.size ≤ b2) : v1.ownBlock = none ∨ v1.ownBlock ≠ v2.ownBlock := by
  cases hv : v1.ownBlock with
  | none => exact .inl rfl
  | some k =>
    refine .inr (fun he => ?_)
    have := (h1.lt k hv).2
    have := (h2.lt k he.symm).1
    omega


/-- A mark as a number, a whole number, a truth. -/
def mkF (k : Int) : Value := .float .f32 (floatOfInt .f32 k)
def mkI (k : Int) : Value := .int .i64 k
def mkB (k : Int) : Value := .bool (k % 3 == 0)

end Go.Proofs.Ytolbibpmngmpdaa
