/-
  Contracts of the helpers of the laws, continued: marks that are written and held, comparisons of whole numbers and of truths.
-/
import Derived.Test.YtolbibpmngmpdaaHelq
import Derived.Test.YtolbibpmngmpdaaConv
import Derived.RegionTactic
import Derived.BigRegion
import Derived.Deep.RegionWith
namespace Go.Proofs.Ytolbibpmngmpdaa
open Go.RowKit Fl Mem
set_option linter.unusedVariables false
set_option maxRecDepth 100000

theorem isNan_word {k : FloatKind} {s : Bool} {r : Nat} (h : r ≤ k.format.infRung) : isNan k (k.format.word s r) = false := by
  unfold isNan Ieee.Format.read Ieee.Format.word
  have hlt := Ieee.Format.infRung_lt k.format
  have hw : 0 < k.format.signWeight := by omega
  have hm : (if s = true then k.format.signWeight + r else r) % k.format.signWeight = r := by
    split
    · rw [Nat.add_mod_left, Nat.mod_eq_of_lt (by omega)]
    · exact Nat.mod_eq_of_lt (by omega)
  simp only [hm]
  split
  · rfl
  · split
    · rfl
    · rw [if_pos (by omega)]; rfl
theorem isNan_nearest (k : FloatKind) (s : Bool) (m : Nat) (e : Int) : isNan k (k.format.nearest s m e) = false := by
  unfold Ieee.Format.nearest
  split
  · exact isNan_word (Nat.zero_le _)
  · exact isNan_word (Nat.min_le_right _ _)
theorem isNan_ofInt (k : FloatKind) (n : Int) : isNan k (floatOfInt k n) = false := isNan_nearest _ _ _ _

/-- The marks of n places, from k on. -/
def marksOf {α : Type} (F : Int → α) (k n : Nat) : List α := (List.range n).map fun i => F ((k + i : Nat) : Int)
theorem marksOf_len {α : Type} (F : Int → α) (k n : Nat) : (marksOf F k n).length = n := by simp [marksOf]
theorem marksOf_at {α : Type} {F : Int → α} {k n i : Nat} (h : i < n) : (marksOf F k n)[i]? = some (F ((k + i : Nat) : Int)) := by
  simp [marksOf, h]

/-- The cells of a row of which the first i are marks. -/
def half (F : Int → Value) (k i : Nat) (cs : List Value) : List Value := marksOf F k i ++ cs.drop i
theorem half_len {F : Int → Value} {k i : Nat} {cs : List Value} (h : i ≤ cs.length) : (half F k i cs).length = cs.length := by
  simp [half, marksOf_len]; omega
theorem half_set {F : Int → Value} {k i : Nat} {cs : List Value} (h : i < cs.length) : (half F k i cs).set i (F ((k + i : Nat) : Int)) = half F k (i + 1) cs := by
  unfold half
  apply List.ext_getElem?
  intro j
  rw [List.getElem?_set]
  simp only [List.length_append, marksOf_len, List.length_drop]
  by_cases hj : i = j
  · subst hj
    rw [if_pos rfl, if_pos (by omega), List.getElem?_append_left (by rw [marksOf_len]; omega), marksOf_at (by omega)]
  · rw [if_neg hj]
    rcases Nat.lt_or_ge j i with h1 | h1
    · rw [List.getElem?_append_left (by rw [marksOf_len]; omega), List.getElem?_append_left (by rw [marksOf_len]; omega), marksOf_at h1, marksOf_at (by omega)]
    · rw [List.getElem?_append_right (by rw [marksOf_len]; omega), List.getElem?_append_right (by rw [marksOf_len]; omega)]
      simp only [marksOf_len, List.getElem?_drop]
      congr 1
      omega
theorem half_all {F : Int → Value} {k : Nat} {cs : List Value} : half F k cs.length cs = marksOf F k cs.length := by
  unfold half; simp

/-- One cell of an owned row is written. -/
theorem own_set {w : World} {base : Nat} {e : TypeId} {g n c : Nat} {xs : List Value} (h : w.ownsRow base e 1 (.slice (some ⟨g, 0, none⟩) n c) n xs) {i : Nat} (hi : i < n) (u : Value) :
    (w.setCell ⟨g, i, none⟩ u).ownsRow base e 1 (.slice (some ⟨g, 0, none⟩) n c) n (xs.set i u) := by
  obtain ⟨h1, h2⟩ := h
  refine ⟨by simpa using h1, ?_⟩
  rcases h2 with ⟨h2, _⟩ | ⟨g', cap, cur, hv, hb, hg, hnc, hcm, hcs, htake⟩
  · cases h2
  · injection hv with hv1 _ hv2
    injection hv1 with hv1
    injection hv1 with hv1
    subst hv1
    subst hv2
    refine .inr ⟨g, c, cur.setIfInBounds i u, rfl, hb, ?_, hnc, hcm, by simpa using hcs, ?_⟩
    · have := Blk.set_ (w := w) (g := g) (t := e) (cs := cur) hg i u
      exact this
    · rw [← htake, Array.toList_setIfInBounds]
      simp only [Nat.mul_one]
      rw [List.take_set]
theorem own_cell {w : World} {base : Nat} {e : TypeId} {g n c : Nat} {xs : List Value} (h : w.ownsRow base e 1 (.slice (some ⟨g, 0, none⟩) n c) n xs) {i : Nat} {u : Value} (hu : xs[i]? = some u) :
    w.cell? ⟨g, i, none⟩ = some u ∧ w.frozen? ⟨g, i, none⟩ = false := by
  refine ⟨by have := h.cells (g := g) rfl i u hu; simpa [Addr.add_lit] using this, ?_⟩
  rcases h.2 with ⟨h2, _⟩ | ⟨g', cap, cur, hv, hb, hg, _⟩
  · cases h2
  · injection hv with hv1 _ _
    injection hv1 with hv1
    injection hv1 with hv1
    subst hv1
    exact Blk.frozen (w := w) (t := e) (cs := cur) hg i
theorem own_addr {w : World} {base : Nat} {e : TypeId} {size n : Nat} {v : Value} {xs : List Value} (h : w.ownsRow base e size v n xs) (hn : 0 < n) : ∃ g c, v = .slice (some ⟨g, 0, none⟩) n c := by
  rcases h.2 with ⟨_, h0⟩ | ⟨g, cap, cur, rfl, _⟩
  · omega
  · exact ⟨g, cap, rfl⟩
theorem own_len {w : World} {base : Nat} {e : TypeId} {n : Nat} {v : Value} {xs : List Value} (h : w.ownsRow base e 1 v n xs) : xs.length = n := by have := h.1; omega

/-- Two owned rows of which the second one's base lies beyond the first one's block. -/
theorem own_apart {w w2 : World} {b1 b2 : Nat} {e1 e2 : TypeId} {s1 s2 n1 n2 : Nat} {v1 v2 : Value} {xs1 xs2 : List Value} (h1 : w.ownsRow b1 e1 s1 v1 n1 xs1) (h2 : w2.ownsRow b2 e2 s2 v2 n2 xs2)
    (hs : w.heap.size ≤ b2) : v1.ownBlock = none ∨ v1.ownBlock ≠ v2.ownBlock := by
  cases hv : v1.ownBlock with
  | none => exact .inl rfl
  | some k =>
    refine .inr (fun he => ?_)
    have := (h1.lt k hv).2
    have := (h2.lt k he.symm).1
    omega


/-- A mark as a number, a whole number, a truth. -/
def mkF (k : Int) : Value := .float .f32 (floatOfInt .f32 k)
def mkI (k : Int) : Value := .int .i64 k
def mkB (k : Int) : Value := .bool (k % 3 == 0)

end Go.Proofs.Ytolbibpmngmpdaa

/-
  What the walks of the laws take at their calls, in forms that fit: values are found off the goal, facts are given.
-/
namespace Go.Proofs.Ytolbibpmngmpdaa
open Go.RowKit Fl Mem
set_option linter.unusedVariables false
set_option maxRecDepth 100000

theorem below_of {w w' : World} {m : Nat} (h : w' = w.drewN m) : Below w.heap.size w w' := by rw [h]; exact below_drewN (Below.refl _ _) m
theorem reads_grow {w w' : World} {size n : Nat} {A : Option Addr} {xs : List Value} (h : Reads w w.heap.size size A n xs) (hb : Below w.heap.size w w') : Reads w' w'.heap.size size A n xs := (h.below hb).more hb.size
theorem own_apart' {w w2 : World} {b1 b2 : Nat} {e1 e2 : TypeId} {s1 s2 n1 n2 : Nat} {v1 v2 : Value} {xs1 xs2 : List Value} (h1 : w.ownsRow b1 e1 s1 v1 n1 xs1) (h2 : w2.ownsRow b2 e2 s2 v2 n2 xs2)
    (hs : w.heap.size ≤ b2) : v2.ownBlock = none ∨ v2.ownBlock ≠ v1.ownBlock := by
  rcases own_apart h1 h2 hs with h | h
  · cases hv : v2.ownBlock with
    | none => exact .inl rfl
    | some k => exact .inr (by rw [h]; simp)
  · exact .inr (fun e => h e.symm)

theorem len_of {zs R : List Nat} (h : Hid (zs.map (cn .f32) = R)) (hR : R.length ≤ 1000) : zs.length ≤ 1000 := by
  have h1 := congrArg List.length h.out
  simp at h1
  omega

end Go.Proofs.Ytolbibpmngmpdaa

/-
  Contracts of the helpers of the laws on lives, laws, chains, plans and desks.
-/
namespace Go.Proofs.Ytolbibpmngmpdaa
open Go.RowKit Fl Mem
set_option linter.unusedVariables false
set_option maxRecDepth 100000

/-- The cells of lives. -/
def ll : List (Nat × Bool) → List Value
  | [] => []
  | p :: r => .float .f32 p.1 :: .bool p.2 :: ll r
theorem ll_len (xs : List (Nat × Bool)) : (ll xs).length = xs.length * 2 := by
  induction xs with
  | nil => rfl
  | cons p r ih => simp only [ll, List.length_cons, ih]; omega
theorem ll_at {xs : List (Nat × Bool)} {k : Nat} {p : Nat × Bool} (h : xs[k]? = some p) : (ll xs)[k * 2]? = some (.float .f32 p.1) ∧ (ll xs)[k * 2 + 1]? = some (.bool p.2) := by
  induction xs generalizing k with
  | nil => simp at h
  | cons q r ih =>
    cases k with
    | zero => simp at h; subst h; exact ⟨rfl, rfl⟩
    | succ k =>
      simp only [List.getElem?_cons_succ] at h
      have := ih h
      simp only [ll]
      rw [show (k + 1) * 2 = k * 2 + 1 + 1 by omega, List.getElem?_cons_succ, List.getElem?_cons_succ, List.getElem?_cons_succ, List.getElem?_cons_succ]
      exact this
theorem reads_ll {w : World} {B n k : Nat} {A : Option Addr} {xs : List (Nat × Bool)} (h : Reads w B 2 A n (ll xs)) (hk : k < n) :
    ∃ ad p, A = some ad ∧ ad.block < B ∧ xs[k]? = some p ∧ w.cell? (ad.add (k * 2)) = some (.float .f32 p.1) ∧ w.cell? ((ad.add (k * 2)).add 1) = some (.bool p.2) := by
  obtain ⟨ad, e, hb, hc⟩ := h.2 (by omega)
  have hl := h.1
  rw [ll_len] at hl
  have hx : xs[k]? = some xs[k] := List.getElem?_eq_getElem (by omega)
  obtain ⟨h1, h2⟩ := ll_at hx
  exact ⟨ad, xs[k], e, hb, hx, hc _ _ h1, by rw [add_of_add]; exact hc _ _ h2⟩

/-- A desk as a value. -/
abbrev deskV (LA : Option Addr) (ln lc : Nat) (kd : Int) (sh sc : Nat) (st : Int) (RA : Option Addr) (rn rc : Nat) (sz ac : Int) : Value :=
  .agg #[.slice LA ln lc, .int .i64 kd, .float .f32 sh, .float .f32 sc, .int .i64 st, .slice RA rn rc, .int .i64 sz, .int .i64 ac]
/-- Two blocks that were laid last hold what they held. -/
theorem box_cells {w w3 : World} {c1 c2 : Array Value} {t1 t2 : TypeId} (hb : Below ((w.alloc (.cells c1 t1)).alloc (.cells c2 t2)).heap.size ((w.alloc (.cells c1 t1)).alloc (.cells c2 t2)) w3) :
    (∀ i, w3.cell? ⟨w.heap.size, i, none⟩ = c1[i]?) ∧ (∀ i, w3.cell? ⟨w.heap.size + 1, i, none⟩ = c2[i]?) := by
  constructor
  · intro i
    rw [hb.cell (by simp; omega)]
    exact Blk.cell ((Blk.new w t1 c1).alloc _) i
  · intro i
    rw [hb.cell (by simp)]
    have := Blk.cell (Blk.new (w.alloc (.cells c1 t1)) t2 c2) i
    rw [show (w.alloc (.cells c1 t1)).heap.size = w.heap.size + 1 by simp] at this
    exact this
theorem below_step {w a b : World} {B : Nat} (h : Below w.heap.size w a) (hB : B ≤ w.heap.size) (h2 : Below a.heap.size a b) : Below w.heap.size w b := h.trans (h2.mono h.size)

/-- One cell of an owned row of elements of two cells is written. -/
theorem own_set2 {w : World} {base : Nat} {e : TypeId} {g n c : Nat} {xs : List Value} (h : w.ownsRow base e 2 (.slice (some ⟨g, 0, none⟩) n c) n xs) {i : Nat} (hi : i < n * 2) (u : Value) :
    (w.setCell ⟨g, i, none⟩ u).ownsRow base e 2 (.slice (some ⟨g, 0, none⟩) n c) n (xs.set i u) := by
  obtain ⟨h1, h2⟩ := h
  refine ⟨by simpa using h1, ?_⟩
  rcases h2 with ⟨h2, _⟩ | ⟨g', cap, cur, hv, hb, hg, hnc, hcm, hcs, htake⟩
  · cases h2
  · injection hv with hv1 _ hv2
    injection hv1 with hv1
    injection hv1 with hv1
    subst hv1
    subst hv2
    refine .inr ⟨g, c, cur.setIfInBounds i u, rfl, hb, ?_, hnc, hcm, by simpa using hcs, ?_⟩
    · have := Blk.set_ (w := w) (g := g) (t := e) (cs := cur) hg i u
      exact this
    · rw [← htake, Array.toList_setIfInBounds]
      rw [List.take_set]
theorem own_cell2 {w : World} {base : Nat} {e : TypeId} {g n c : Nat} {xs : List Value} (h : w.ownsRow base e 2 (.slice (some ⟨g, 0, none⟩) n c) n xs) {i : Nat} {u : Value} (hu : xs[i]? = some u) :
    w.cell? ⟨g, i, none⟩ = some u ∧ w.frozen? ⟨g, i, none⟩ = false := by
  refine ⟨by have := h.cells (g := g) rfl i u hu; simpa [Addr.add_lit] using this, ?_⟩
  rcases h.2 with ⟨h2, _⟩ | ⟨g', cap, cur, hv, hb, hg, _⟩
  · cases h2
  · injection hv with hv1 _ _
    injection hv1 with hv1
    injection hv1 with hv1
    subst hv1
    exact Blk.frozen (w := w) (t := e) (cs := cur) hg i
/-- The marks of a list of lives. -/
def marksL (k : Nat) : Nat → List Value
  | 0 => []
  | n + 1 => mkF (k : Int) :: mkB ((k : Int) + 1) :: marksL (k + 2) n
theorem marksL_len (k n : Nat) : (marksL k n).length = n * 2 := by
  induction n generalizing k with
  | zero => rfl
  | succ n ih => simp only [marksL, List.length_cons, ih]; omega
theorem marksL_at {k n i : Nat} (h : i < n) : (marksL k n)[i * 2]? = some (mkF ((k + 2 * i : Nat) : Int)) ∧ (marksL k n)[i * 2 + 1]? = some (mkB ((k + 2 * i + 1 : Nat) : Int)) := by
  induction n generalizing k i with
  | zero => omega
  | succ n ih =>
    cases i with
    | zero => exact ⟨by simp [marksL], by simp [marksL]⟩
    | succ i =>
      have := ih (k := k + 2) (i := i) (by omega)
      simp only [marksL]
      rw [show (i + 1) * 2 = i * 2 + 1 + 1 by omega, List.getElem?_cons_succ, List.getElem?_cons_succ, List.getElem?_cons_succ, List.getElem?_cons_succ]
      rw [show k + 2 + 2 * i = k + 2 * (i + 1) by omega] at this
      exact this
/-- The cells of a row of which the first i are told otherwise. -/
def mix (ms cs : List Value) (i : Nat) : List Value := ms.take i ++ cs.drop i
theorem mix_len {ms cs : List Value} {i : Nat} (hl : ms.length = cs.length) (hi : i ≤ cs.length) : (mix ms cs i).length = cs.length := by simp [mix]; omega
theorem mix_set {ms cs : List Value} {i : Nat} {u : Value} (hl : ms.length = cs.length) (hu : ms[i]? = some u) : (mix ms cs i).set i u = mix ms cs (i + 1) := by
  have hi : i < cs.length := by rw [← hl]; exact (List.getElem?_eq_some_iff.1 hu).1
  unfold mix
  apply List.ext_getElem?
  intro j
  rw [List.getElem?_set]
  by_cases hj : i = j
  · subst hj
    rw [if_pos rfl, if_pos (by simp; omega), List.getElem?_append_left (by simp; omega), List.getElem?_take, if_pos (by omega), hu]
  · rw [if_neg hj]
    rcases Nat.lt_or_ge j i with h1 | h1
    · rw [List.getElem?_append_left (by simp; omega), List.getElem?_append_left (by simp; omega), List.getElem?_take, List.getElem?_take, if_pos h1, if_pos (by omega)]
    · rw [List.getElem?_append_right (by simp; omega), List.getElem?_append_right (by simp; omega)]
      simp only [List.getElem?_drop, List.length_take]
      congr 1
      omega
theorem mix_all {ms cs : List Value} (hl : ms.length = cs.length) : mix ms cs cs.length = ms := by unfold mix; rw [List.take_of_length_le (by omega), List.drop_length, List.append_nil]
theorem mix_none (ms cs : List Value) : mix ms cs 0 = cs := by simp [mix]

end Go.Proofs.Ytolbibpmngmpdaa

/-
  Contracts of the helpers of the laws on desks: marks; NewDesk, the program's and the reference's.
-/
namespace Go.Proofs.Ytolbibpmngmpdaa
open Go.RowKit Fl Mem
set_option linter.unusedVariables false
set_option maxRecDepth 100000

theorem own_of_blk2 {w : World} {base g n : Nat} {t : TypeId} {xs : List Value} (h : Blk w g t xs.toArray) (hb : base ≤ g) (hl : xs.length = n * 2) (hn : n ≤ maxLen) : w.ownsRow base t 2 (.slice (some ⟨g, 0, none⟩) n n) n xs :=
  ⟨by omega, .inr ⟨g, n, xs.toArray, rfl, hb, h, Nat.le_refl _, hn, by simp [hl], by rw [List.take_of_length_le (by simp; omega)]⟩⟩

theorem blk_new' (w : World) (g : Nat) (t : TypeId) (cs : Array Value) (hg : g = w.heap.size) : Blk (w.alloc (.cells cs t)) g t cs := by subst hg; exact Blk.new w t cs
def desk0L : List (Nat × Bool) := [(1065353216, true), (1073741824, false), (1082130432, true)]
def desk0R : List Nat := [0, 1065353216, 1077936128, 0]
abbrev desk0 (g1 g2 : Nat) : Value := deskV (some ⟨g1, 0, none⟩) 3 3 0 1065353216 1082130432 2 (some ⟨g2, 0, none⟩) 4 4 2 0

theorem grown_al {w w2 : World} {o : Obj} {row : Option Nat} (hg : (w.alloc o).grownBy w2 row) : w.grownBy w2 row :=
  ⟨hg.os, hg.tape, hg.output, Nat.le_trans (by simp) hg.size, fun i hi hne => (hg.block i (by simp; omega) hne).trans (Below.heap_alloc w o i hi)⟩

theorem blk_below {w w' : World} {g : Nat} {t : TypeId} {cs : Array Value} (h : Blk w g t cs) (hb : Below w.heap.size w w') : Blk w' g t cs := Blk.below h hb h.lt
end Go.Proofs.Ytolbibpmngmpdaa
