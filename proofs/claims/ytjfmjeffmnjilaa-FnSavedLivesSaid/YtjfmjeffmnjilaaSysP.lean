/-
  Systems of parts: which lists of sets are least, told in one way for both sides.
-/
import Derived.Test.YtjfmjeffmnjilaaSvP
import Derived.Lib.SlicesCompact
import Derived.Laws.BitsLemmas
namespace Go.Proofs.Ytjfmjeffmnjilaa
open Go.RowKit Fl Mem
set_option linter.unusedVariables false
set_option maxRecDepth 100000

/-- A set has all parts of another one. -/
def hasB (set part : Int) : Bool := bits .andNot .i64 part set == 0
theorem bv_sub (A B : BitVec 64) : (A &&& B = A) ↔ (A &&& ~~~B = 0#64) := by
  constructor
  · intro h
    rw [← h]
    apply BitVec.eq_of_getElem_eq
    intro i hi
    simp only [BitVec.getElem_and, BitVec.getElem_not, BitVec.getElem_zero]
    cases A[i] <;> cases B[i] <;> rfl
  · intro h
    apply BitVec.eq_of_getElem_eq
    intro i hi
    have h1 : (A &&& ~~~B)[i] = (0#64)[i] := by rw [h]
    simp only [BitVec.getElem_and, BitVec.getElem_not, BitVec.getElem_zero] at h1 ⊢
    revert h1
    cases A[i] <;> cases B[i] <;> simp
theorem hasB_and {a b : Int} (ha : 0 ≤ a) (ha' : a < 9223372036854775808) : (bits .and .i64 a b == a) = hasB b a := by
  unfold hasB bits
  simp only [IntKind.wrap_i64]
  have hA : ((BitVec.ofInt 64 a).toNat : Int) = a := by
    rw [BitVec.toNat_ofInt]
    omega
  have hb : IntKind.i64.bits = 64 := rfl
  generalize hAA : BitVec.ofInt IntKind.i64.bits a = A
  generalize BitVec.ofInt IntKind.i64.bits b = B
  have hA2 : (A.toNat : Int) = a := by rw [← hAA]; exact hA
  have h1 : (A &&& B).toNat ≤ A.toNat := by rw [BitVec.toNat_and]; exact Nat.and_le_left
  have h2 : (A &&& ~~~B).toNat ≤ A.toNat := by rw [BitVec.toNat_and]; exact Nat.and_le_left
  have h3 := bv_sub A B
  rw [Bool.eq_iff_iff, beq_iff_eq, beq_iff_eq]
  constructor
  · intro h
    have h4 : (A &&& B).toNat = A.toNat := by omega
    have h6 : (A &&& ~~~B).toNat = 0 := congrArg BitVec.toNat (h3.1 (BitVec.eq_of_toNat_eq h4))
    omega
  · intro h
    have h4 : (A &&& ~~~B).toNat = 0 := by omega
    have h5 : A &&& ~~~B = 0#64 := BitVec.eq_of_toNat_eq h4
    have h6 : (A &&& B).toNat = A.toNat := congrArg BitVec.toNat (h3.2 h5)
    omega

/-- A list without what is twice, one after another, is rising, if it was in order. -/
theorem compact_lt (d : Array Int) (hs : ∀ i j, i < j → j < d.size → d[i]! ≤ d[j]!) : ∀ m, m ≤ d.size → (Go.Lib.compactUpTo d m).Pairwise (· < ·) ∧ ∀ x ∈ Go.Lib.compactUpTo d m, 1 ≤ m ∧ x ≤ d[m - 1]! := by
  intro m
  induction m with
  | zero => intro _; exact ⟨List.Pairwise.nil, fun x hx => by cases hx⟩
  | succ m ih =>
    intro hm
    obtain ⟨h1, h2⟩ := ih (by omega)
    rw [Go.Lib.compactUpTo_succ]
    cases hk : Go.Lib.keeps d m with
    | false =>
      rw [if_neg (by simp), List.append_nil]
      refine ⟨h1, fun x hx => ⟨by omega, ?_⟩⟩
      obtain ⟨h3, h4⟩ := h2 x hx
      have := hs (m - 1) m (by omega) (by omega)
      rw [Nat.add_sub_cancel]
      omega
    | true =>
      rw [if_pos rfl]
      unfold Go.Lib.keeps at hk
      rw [decide_eq_true_iff] at hk
      refine ⟨List.pairwise_append.2 ⟨h1, List.pairwise_singleton _ _, fun x hx y hy => ?_⟩, fun x hx => ⟨by omega, ?_⟩⟩
      · obtain rfl := List.mem_singleton.1 hy
        obtain ⟨h3, h4⟩ := h2 x hx
        have h5 := hs (m - 1) m (by omega) (by omega)
        rcases hk with rfl | hk
        · omega
        · omega
      · rw [Nat.add_sub_cancel]
        rcases List.mem_append.1 hx with hx | hx
        · obtain ⟨h3, h4⟩ := h2 x hx
          have h5 := hs (m - 1) m (by omega) (by omega)
          omega
        · obtain rfl := List.mem_singleton.1 hx
          exact Int.le_refl _
theorem compact_id (d : Array Int) (hs : ∀ i j, i < j → j < d.size → d[i]! < d[j]!) : Go.Lib.compactUpTo d d.size = d.toList := by
  rw [Go.Lib.compactUpTo_all d _ (fun j hj => by
    unfold Go.Lib.keeps
    rw [decide_eq_true_iff]
    rcases Nat.eq_zero_or_pos j with h | h
    · exact .inl h
    · have := hs (j - 1) j (by omega) hj
      exact .inr (by omega))]
  apply List.ext_getElem
  · simp
  · intro i h1 h2
    have h3 : i < d.size := by simpa using h1
    simp [getElem!_pos d i h3]

/-- The list in order. -/
def sortL (l : List Int) : List Int := l.mergeSort fun x y => decide (x ≤ y)
/-- In order, each but once. -/
def compL (l : List Int) : List Int := Go.Lib.compactUpTo (sortL l).toArray (sortL l).toArray.size
/-- Those of a list that have all parts of none other. -/
def leastL (l : List Int) : List Int := (compL l).filter fun x => !(compL l).any fun y => (y != x) && hasB x y
theorem sortL_le (l : List Int) : (sortL l).Pairwise (· ≤ ·) := by
  have := List.pairwise_mergeSort (le := fun x y : Int => decide (x ≤ y)) (fun a b c h1 h2 => by simp at *; omega) (fun a b => by simp; omega) l
  exact this.imp (fun h => by simpa using h)
theorem pw_get {R : Int → Int → Prop} {l : List Int} : l.Pairwise R ↔ ∀ i j, i < j → j < l.toArray.size → R l.toArray[i]! l.toArray[j]! := by
  rw [List.pairwise_iff_getElem]
  constructor
  · intro h i j hij hj
    have hj' : j < l.length := by simpa using hj
    have := h i j (by omega) hj' hij
    rw [getElem!_pos l.toArray i (by simp; omega), getElem!_pos l.toArray j hj]
    simpa using this
  · intro h i j hi hj hij
    have := h i j hij (by simpa using hj)
    rw [getElem!_pos l.toArray i (by simp; omega), getElem!_pos l.toArray j (by simpa using hj)] at this
    simpa using this
theorem compL_lt (l : List Int) : (compL l).Pairwise (· < ·) := (compact_lt _ (fun i j h1 h2 => pw_get.1 (sortL_le l) i j h1 h2) _ (Nat.le_refl _)).1
/-- Two sets of a list, the lesser one first, neither of which has all parts of the other one. -/
def Apart (a b : Int) : Prop := a < b ∧ hasB b a = false ∧ hasB a b = false
instance (a b : Int) : Decidable (Apart a b) := by unfold Apart; infer_instance
theorem least_iff (l : List Int) : l = leastL l ↔ l.Pairwise Apart := by
  constructor
  · intro e
    have h0 : (leastL l).Pairwise (· < ·) := (compL_lt l).filter _
    have h1 : ∀ a ∈ leastL l, ∀ b ∈ leastL l, b ≠ a → hasB a b = false := by
      intro a ha b hb hne
      unfold leastL at ha hb
      rw [List.mem_filter] at ha hb
      have h2 := ha.2
      rw [Bool.not_eq_true', List.any_eq_false] at h2
      have h3 := h2 b hb.1
      rw [Bool.and_eq_true, bne_iff_ne] at h3
      cases h4 : hasB a b with
      | false => rfl
      | true => exact absurd ⟨hne, h4⟩ h3
    rw [e]
    exact List.Pairwise.imp_of_mem (fun ha hb h => ⟨h, h1 _ hb _ ha (by omega), h1 _ ha _ hb (by omega)⟩) h0
  · intro h
    have hlt : l.Pairwise (· < ·) := h.imp (fun h => h.1)
    have hs : sortL l = l := List.mergeSort_of_pairwise (hlt.imp (fun h => by simp; omega))
    have hc : compL l = l := by
      unfold compL
      rw [hs, compact_id _ (fun i j h1 h2 => pw_get.1 hlt i j h1 h2)]
    unfold leastL
    rw [hc]
    symm
    rw [List.filter_eq_self]
    intro a ha
    rw [Bool.not_eq_true', List.any_eq_false]
    intro b hb h2
    rw [Bool.and_eq_true, bne_iff_ne] at h2
    obtain ⟨i, hi, rfl⟩ := List.getElem_of_mem ha
    obtain ⟨j, hj, rfl⟩ := List.getElem_of_mem hb
    rw [List.pairwise_iff_getElem] at h
    rcases Nat.lt_trichotomy i j with hij | hij | hij
    · rw [(h i j hi hj hij).2.2] at h2; cases h2.2
    · subst hij; exact h2.1 rfl
    · rw [(h j i hj hi hij).2.1] at h2; cases h2.2

/-- What the reference looks at for one set of a list. -/
def stepB (parts : Int) (l : List Int) (j : Nat) : Bool := decide (1 ≤ l[j]! ∧ l[j]! ≤ (2 : Int) ^ parts.toNat - 1) && (decide (j = 0 ∨ l[j - 1]! < l[j]!) && decide (∀ k, k < j → hasB l[j]! l[k]! = false ∧ hasB l[k]! l[j]! = false))
/-- Is a system valid? -/
def sysB (parts : Int) (l : List Int) : Bool := decide (1 ≤ parts ∧ parts ≤ 10) && (decide (1 ≤ l.length ∧ l.length ≤ 64) && decide (∀ j, j < l.length → stepB parts l j = true))
/-- The program looks at it in this way. -/
def sysB' (parts : Int) (l : List Int) : Bool := decide (1 ≤ parts ∧ parts ≤ 10) && (decide (1 ≤ l.length ∧ l.length ≤ 64) && (l.all (fun x => decide (1 ≤ x ∧ x ≤ (2 : Int) ^ parts.toNat - 1)) && decide (l = leastL l)))
theorem get_bang {l : List Int} {i : Nat} (h : i < l.length) : l[i]! = l[i] := getElem!_pos l i h
theorem sysB_eq (parts : Int) (l : List Int) : sysB' parts l = sysB parts l := by
  unfold sysB sysB'
  congr 2
  rw [Bool.eq_iff_iff, Bool.and_eq_true, decide_eq_true_iff, decide_eq_true_iff, least_iff, List.all_eq_true, List.pairwise_iff_getElem]
  constructor
  · rintro ⟨h1, h2⟩ j hj
    unfold stepB
    rw [Bool.and_eq_true, Bool.and_eq_true, decide_eq_true_iff, decide_eq_true_iff, decide_eq_true_iff]
    refine ⟨?_, ?_, fun k hk => ?_⟩
    · rw [get_bang hj]; simpa using h1 _ (List.getElem_mem hj)
    · rcases Nat.eq_zero_or_pos j with h | h
      · exact .inl h
      · rw [get_bang hj, get_bang (show j - 1 < l.length by omega)]
        exact .inr (h2 (j - 1) j (by omega) hj (by omega)).1
    · rw [get_bang hj, get_bang (show k < l.length by omega)]
      exact (h2 k j (by omega) hj hk).2
  · intro h
    have h0 : ∀ j (hj : j < l.length), (1 ≤ l[j] ∧ l[j] ≤ (2 : Int) ^ parts.toNat - 1) ∧ (j = 0 ∨ l[j - 1]! < l[j]) ∧ ∀ k (hk : k < j), hasB l[j] l[k] = false ∧ hasB l[k] l[j] = false := by
      intro j hj
      have := h j hj
      unfold stepB at this
      rw [Bool.and_eq_true, Bool.and_eq_true, decide_eq_true_iff, decide_eq_true_iff, decide_eq_true_iff, get_bang hj] at this
      exact ⟨this.1, this.2.1, fun k hk => by have := this.2.2 k hk; rwa [get_bang (show k < l.length by omega)] at this⟩
    have hlt : ∀ d i (hj : i + d + 1 < l.length), l[i] < l[i + d + 1] := by
      intro d
      induction d with
      | zero =>
        intro i hj
        have := (h0 (i + 1) hj).2.1
        rw [Nat.add_sub_cancel, get_bang (show i < l.length by omega)] at this
        have h5 : l[i + 0 + 1] = l[i + 1] := rfl
        omega
      | succ d ih =>
        intro i hj
        have h3 := ih i (by omega)
        have h4 := (h0 (i + (d + 1) + 1) hj).2.1
        rw [Nat.add_sub_cancel, get_bang (show i + (d + 1) < l.length by omega)] at h4
        have h5 : l[i + d + 1] = l[i + (d + 1)] := rfl
        omega
    refine ⟨fun x hx => ?_, fun i j hi hj hij => ?_⟩
    · obtain ⟨i, hi, rfl⟩ := List.getElem_of_mem hx
      simpa using (h0 i hi).1
    · refine ⟨?_, (h0 j hj).2.2 i hij⟩
      obtain ⟨d, rfl⟩ : ∃ d, j = i + d + 1 := ⟨j - i - 1, by omega⟩
      exact hlt d i hj
end Go.Proofs.Ytjfmjeffmnjilaa
