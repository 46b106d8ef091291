/-
  Contracts of the helpers of the laws, continued: copies and marks.
-/
import Derived.Test.YteabfkgbakoljaaHelp
namespace Go.Proofs.Yteabfkgbakoljaa
open Go.RowKit Fl Mem
set_option linter.unusedVariables false

theorem info_f32 : (Try.prog.info? 27).map (fun i => (i.zero, i.size, i.bytes)) = some (some (.float .f32 0), 1, 4) := by kernel_rfl

/-- The cells of a row of n of which the first k are known. -/
def part {α : Type} (F : α → Value) (z : Value) (xs : List α) (n k : Nat) : Array Value := ((xs.take k).map F ++ List.replicate (n - k) z).toArray
theorem part_zero {α : Type} (F : α → Value) (z : Value) (xs : List α) (n : Nat) : part F z xs n 0 = Array.replicate n z := by simp [part]
theorem part_at {α : Type} {F : α → Value} {z : Value} {xs : List α} {n k : Nat} (hl : xs.length = n) (hk : k < n) : (part F z xs n k)[k]? = some z := by
  unfold part
  rw [List.getElem?_toArray, List.getElem?_append_right (by simp; omega)]
  simp [List.getElem?_replicate]; omega
theorem part_set {α : Type} {F : α → Value} {z : Value} {xs : List α} {n k : Nat} {x : α} (hl : xs.length = n) (hk : k < n) (hx : xs[k]? = some x) : (part F z xs n k).setIfInBounds k (F x) = part F z xs n (k + 1) := by
  unfold part
  apply Array.ext_getElem?
  intro i
  rw [Array.getElem?_setIfInBounds]
  simp only [List.getElem?_toArray, List.size_toArray, List.length_append, List.length_map, List.length_take, List.length_replicate]
  by_cases hi : k = i
  · subst hi
    rw [if_pos rfl, if_pos (by omega), List.getElem?_append_left (by simp; omega), List.getElem?_map, List.getElem?_take, if_pos (by omega), hx]; rfl
  · rw [if_neg hi]
    rcases Nat.lt_or_ge i k with h | h
    · rw [List.getElem?_append_left (by simp; omega), List.getElem?_append_left (by simp; omega)]
      simp only [List.getElem?_map, List.getElem?_take]
      rw [if_pos h, if_pos (by omega)]
    · rw [List.getElem?_append_right (by simp; omega), List.getElem?_append_right (by simp; omega)]
      simp only [List.length_map, List.length_take, List.getElem?_replicate]
      by_cases h2 : i < n
      · rw [if_pos (by omega), if_pos (by omega)]
      · rw [if_neg (by omega), if_neg (by omega)]
theorem part_all {α : Type} {F : α → Value} {z : Value} {xs : List α} {n : Nat} (hl : xs.length = n) : part F z xs n n = (xs.map F).toArray := by
  unfold part
  rw [List.take_of_length_le (by omega)]; simp

theorem own_of_blk {w : World} {base g n : Nat} {t : TypeId} {xs : List Value} (h : Blk w g t xs.toArray) (hb : base ≤ g) (hl : xs.length = n) (hn : n ≤ maxLen) : w.ownsRow base t 1 (.slice (some ⟨g, 0, none⟩) n n) n xs :=
  ⟨by omega, .inr ⟨g, n, xs.toArray, rfl, hb, h, Nat.le_refl _, hn, by simp [hl], by simp [List.take_of_length_le, hl]⟩⟩

theorem info_i64 : (Try.prog.info? 2).map (fun i => (i.zero, i.size, i.bytes)) = some (some (.int .i64 0), 1, 8) := by kernel_rfl

abbrev il (xs : List Int) : List Value := xs.map (Value.int .i64)
abbrev nl (xs : List Nat) : List Value := xs.map (fun n : Nat => Value.int .i64 (n : Int))

theorem own_shape {w : World} {base : Nat} {e : TypeId} {size n : Nat} {v : Value} {xs : List Value} (h : w.ownsRow base e size v n xs) : ∃ A c, v = .slice A n c := by
  rcases h.2 with ⟨rfl, rfl⟩ | ⟨g, cap, cur, rfl, _⟩
  · exact ⟨_, _, rfl⟩
  · exact ⟨_, _, rfl⟩
theorem own_head {w : World} {base : Nat} {e : TypeId} {n : Nat} {v u : Value} {xs : List Value} (h : w.ownsRow base e 1 v n (u :: xs)) : ∃ g c, v = .slice (some ⟨g, 0, none⟩) n c ∧ w.cell? ⟨g, 0, none⟩ = some u := by
  rcases h.2 with ⟨rfl, rfl⟩ | ⟨g, cap, cur, rfl, _⟩
  · have := h.1; simp at this
  · exact ⟨g, cap, rfl, by have := h.cells (g := g) rfl 0 u rfl; simpa [Addr.add] using this⟩

theorem own_emp {w : World} {base g : Nat} {e : TypeId} {size : Nat} (hg : g = w.heap.size) (hb : base ≤ g) : (w.alloc (.cells #[] e)).ownsRow base e size (.slice (some ⟨g, 0, none⟩) 0 0) 0 [] := by
  subst hg
  exact World.ownsRow_made _ _ _ hb (by simp [maxLen]) (by simp)

/-- A block that has just been made reads as what was put in. -/
theorem reads_new {α : Type} (F : α → Value) (w : World) (e : TypeId) (xs : List α) : Reads (w.alloc (.cells (xs.map F).toArray e)) (w.alloc (.cells (xs.map F).toArray e)).heap.size 1 (some ⟨w.heap.size, 0, none⟩) xs.length (xs.map F) := by
  refine ⟨by simp, fun _ => ⟨_, rfl, by simp, fun j u hu => ?_⟩⟩
  have h := Blk.cell (Blk.new w e (xs.map F).toArray) j
  rw [Addr.add_lit, Nat.zero_add, h]
  simpa using hu

theorem own_up {w : World} {base base' : Nat} {e : TypeId} {size n : Nat} {v : Value} {xs : List Value} (h : w.ownsRow base e size v n xs) (hb : base' ≤ base) : w.ownsRow base' e size v n xs := by
  refine ⟨h.1, ?_⟩
  rcases h.2 with h2 | ⟨g, cap, cur, h2, h3, h4⟩
  · exact .inl h2
  · exact .inr ⟨g, cap, cur, h2, by omega, h4⟩

end Go.Proofs.Yteabfkgbakoljaa
