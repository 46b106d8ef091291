/-
  Lists of numbers are read out of texts: both sides.
-/
import Derived.Test.YtnpccnhamohnkaaGreatDoorNumL
import Derived.Test.YtnpccnhamohnkaaGreatDoorSplit
import Derived.Test.YtnpccnhamohnkaaGreatDoorReadP
namespace Go.Proofs.YtnpccnhamohnkaaGreatDoor
open Go.RowKit Mem Fl Go.Shelf
set_option linter.unusedVariables false
set_option maxRecDepth 100000

theorem none_list (s : ByteArray) : (s.toList == [110, 111, 110, 101]) = decide (s = noneB) := by
  rw [← str_eq]
  congr 1
  rw [Lib.toList_data]; rfl
def piecesOf (s : ByteArray) : List ByteArray := if s = noneB then [] else splitS s 44
/-- The texts lie in a row. -/
def PR (w : World) (A : Option Addr) (ps : List ByteArray) : Prop := ∀ (j : Nat) p, ps[j]? = some p → ∃ g, A = some ⟨g, 0, none⟩ ∧ g < w.heap.size ∧ w.cell? ⟨g, j, none⟩ = some (.string p)
theorem PR.below {w w' : World} {A : Option Addr} {ps : List ByteArray} (h : PR w A ps) (hb : Below w.heap.size w w') : PR w' A ps := fun j p hp => by
  obtain ⟨g, h1, h2, h3⟩ := h j p hp
  exact ⟨g, h1, Nat.lt_of_lt_of_le h2 hb.size, (hb.cell (p := ⟨g, j, none⟩) h2).trans h3⟩
theorem i_pieces {s : ByteArray} {b : Int} {w : World} (hs : s.size ≤ 1048576) (hm : w.cell? ⟨renSplit.g 1, 0, none⟩ = some (.int .i64 b)) :
    Calls Tryz.prog 111 #[.string s] w fun e w' => ∃ A c, e = .returned (.slice A (piecesOf s).length c) ∧ PR w' A (piecesOf s) ∧ (∀ g, A = some ⟨g, 0, none⟩ → w.heap.size ≤ g) ∧ Below w.heap.size w w' := by
  by_cases hq : s = noneB
  · have hp : piecesOf s = [] := if_pos hq
    have HP := hide hp
    have hs1 : (s.toList == [110, 111, 110, 101]) = true := by rw [none_list]; exact decide_eq_true hq
    clear hp hq
    go_enter Tryz.func111, Tryz.ntmps111
    go_wp2
    go_ret
    exact ⟨none, 0, by rw [HP.out]; rfl, by rw [HP.out]; intro j p hp; simp at hp, (fun g e => by cases e), Below.refl _ _⟩
  · have hp : piecesOf s = splitS s 44 := if_neg hq
    have HP := hide hp
    have hs1 : (s.toList == [110, 111, 110, 101]) = false := by rw [none_list]; exact decide_eq_false hq
    have HS := hide (split_calls (s := s) (m := 44) w (by omega) hm)
    have hblk := Blk.new w 9 ((splitS s 44).map Value.string).toArray
    have HB : Hid (PR (w.alloc (.cells ((splitS s 44).map Value.string).toArray 9)) (some ⟨w.heap.size, 0, none⟩) (piecesOf s)) := hide (by
      intro j p hj
      rw [hp] at hj
      exact ⟨w.heap.size, rfl, by simp, by rw [hblk.cell]; simp [hj]⟩)
    clear hp hq hblk
    go_enter Tryz.func111, Tryz.ntmps111
    go_wp2_with fail
    refine HS.out.mono ?_
    rintro e w1 ⟨rfl, rfl⟩
    go_wp2
    go_ret
    exact ⟨_, _, by rw [HP.out]; rfl, HB.out, (fun g e => by injection e with e; injection e with e; omega), (Below.refl _ _).alloc (Nat.le_refl _) _⟩
/-- What a list that was read looks like. -/
def NR (base : Nat) (o : Option (List Nat)) (e : Ending) (w' : World) : Prop := ∃ v, e = .returned (.tuple #[v, .bool o.isSome]) ∧ match o with
  | some xs => w'.ownsRow base 37 1 v xs.length (fl .f32 xs) ∧ ∀ x ∈ xs, x < 4294967296
  | none => v = .slice none 0 0
theorem NR.no {base : Nat} {o : Option (List Nat)} {w' : World} (h : o = none) : NR base o (.returned (.tuple #[.slice none 0 0, .bool false])) w' := by
  subst h; exact ⟨_, rfl, rfl⟩
theorem NR.yes {base : Nat} {o : Option (List Nat)} {v : Value} {xs : List Nat} {n : Nat} {w' : World} (h : o = some xs) (hn : n = xs.length) (ho : w'.ownsRow base 37 1 v n (fl .f32 xs)) (hx : ∀ x ∈ xs, x < 4294967296) : NR base o (.returned (.tuple #[v, .bool true])) w' := by
  subst h; subst hn; exact ⟨_, rfl, ho, hx⟩
/-- What the program holds of its first pieces. -/
def Rd (ps : List ByteArray) (xs : List Nat) : Prop := ∀ (i : Nat) x p, xs[i]? = some x → ps[i]? = some p → p.size = 8 ∧ x < 4294967296 ∧ ∀ n, hexV p = some n → x = n
theorem Rd.snoc {ps : List ByteArray} {xs : List Nat} {p : ByteArray} {x : Nat} (h : Rd ps xs) (hp : ps[xs.length]? = some p) (h8 : p.size = 8) (hx : x < 4294967296) (hv : ∀ n, hexV p = some n → x = n) : Rd ps (xs ++ [x]) := by
  intro i y q hy hq
  rcases Nat.lt_or_ge i xs.length with hi | hi
  · rw [List.getElem?_append_left hi] at hy; exact h i y q hy hq
  · have : i = xs.length := by
      rcases Nat.lt_or_ge i (xs.length + 1) with h | h
      · omega
      · rw [List.getElem?_eq_none (by simp; omega)] at hy; cases hy
    subst this
    rw [hp] at hq
    injection hq with hq
    subst hq
    simp at hy
    subst hy
    exact ⟨h8, hx, hv⟩
theorem Rd.lt {ps : List ByteArray} {xs : List Nat} (h : Rd ps xs) (hl : xs.length ≤ ps.length) : ∀ x ∈ xs, x < 4294967296 := fun x hx => by
  obtain ⟨i, hi⟩ := List.mem_iff_getElem?.1 hx
  have hil : i < xs.length := by
    rcases Nat.lt_or_ge i xs.length with h | h
    · exact h
    · rw [List.getElem?_eq_none h] at hi; cases hi
  exact (h i x _ hi (List.getElem?_eq_getElem (by omega))).2.1
theorem numsV_size {s p : ByteArray} {k : Nat} (hp : (piecesOf s)[k]? = some p) (h8 : p.size ≠ 8) : numsV s = none := by
  unfold numsV piecesOf at *
  split
  · rename_i h; rw [if_pos h] at hp; cases hp
  · rename_i h; rw [if_neg h] at hp
    split
    · exact allN_bad (List.mem_of_getElem? hp) (readN_size h8)
    · rfl
theorem numsV_long {s p : ByteArray} {k : Nat} (hp : (piecesOf s)[k]? = some p) (hk : 256 ≤ k) : numsV s = none := by
  unfold numsV piecesOf at *
  split
  · rename_i h; rw [if_pos h] at hp; cases hp
  · rename_i h; rw [if_neg h] at hp
    rw [if_neg]
    intro hl
    rw [List.getElem?_eq_none (by omega)] at hp
    cases hp
theorem numsV_end {s : ByteArray} {xs : List Nat} (hl : xs.length = (piecesOf s).length) (h6 : xs.length ≤ 256) (h : Rd (piecesOf s) xs) :
    (joinedB (tx xs) = s ∧ numsV s = some xs) ∨ (joinedB (tx xs) ≠ s ∧ numsV s = none) := by
  by_cases hq : s = noneB
  · have e1 : piecesOf s = [] := if_pos hq
    have e2 : numsV s = some [] := if_pos hq
    rw [e1] at hl
    obtain rfl : xs = [] := List.length_eq_zero_iff.1 hl
    exact .inl ⟨by rw [hq]; rfl, e2⟩
  · have e1 : piecesOf s = splitS s 44 := if_neg hq
    rw [e1] at hl h
    have e2 : numsV s = allN (splitS s 44) := by unfold numsV; rw [if_neg hq, if_pos (by omega)]
    have := nums_law hl h
    rw [e2]
    cases ha : allN (splitS s 44) with
    | some ys => rw [ha] at this; obtain ⟨rfl, h2⟩ := this; exact .inl ⟨h2, rfl⟩
    | none => rw [ha] at this; exact .inr ⟨this, rfl⟩
theorem wf_lt {x : Nat} (h : x < 4294967296) : Wf .f32 x := by
  unfold Wf
  have hw : 2 ^ FloatKind.f32.format.width = 4294967296 := by decide +kernel
  rw [hw]; exact h
theorem numsV_len {s : ByteArray} {xs : List Nat} (h : numsV s = some xs) : xs.length ≤ 256 := by
  unfold numsV at h
  split at h
  · injection h with h; subst h; simp
  · split at h
    · have := (allN_at h).1; omega
    · cases h
end Go.Proofs.YtnpccnhamohnkaaGreatDoor
