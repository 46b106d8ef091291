/-
  Contracts of the helpers of the laws, continued: copies and marks.
-/
import Derived.Test.YtjfmjeffmnjilaaHelp
namespace Go.Proofs.Ytjfmjeffmnjilaa
open Go.RowKit Fl Mem
set_option linter.unusedVariables false

theorem info_f32 : (Try.prog.info? 63).map (fun i => (i.zero, i.size, i.bytes)) = some (some (.float .f32 0), 1, 4) := by kernel_rfl

/-- The cells of a row of n of which the first k are known. -/
def part {α : Type} (F : α → Value) (z : Value) (xs : List α) (n k : Nat) : Array Value := ((xs.take k).map F ++ List.replicate (n - k) z).toArray
theorem part_zero {α : Type} (F : α → Value) (z : Value) (xs : List α) (n : Nat) : part F z xs n 0 = Array.replicate n z := by simp [part]
theorem part_at {α : Type} {F : α → Value} {z : Value} {xs : List α} {n k : Nat} (hl : xs.length = n) (hk : k < n) : (part F z xs n k)[k]? = some z := by
  unfold part
  rw [List.getElem?_toArray, List.getElem?_append_right (by simp; omega)]
  simp [List.getElem?_replicate]; omega
theorem part_set {α : Type} {F : α → Value} {z : Value} {xs : List α} {n k : Nat} {x : α} (hl : xs.length = n) (hk : k < n) (hx : xs[k]? = some x) : (part F z xs n k).setIfInBounds k (F x) = part F z xs n (k + 1) := by
  unfold part
  apply Array.ext_getElem?
  intro i
  rw [Array.getElem?_setIfInBounds]
  simp only [List.getElem?_toArray, List.size_toArray, List.length_append, List.length_map, List.length_take, List.length_replicate]
  by_cases hi : k = i
  · subst hi
    rw [if_pos rfl, if_pos (by omega), List.getElem?_append_left (by simp; omega), List.getElem?_map, List.getElem?_take, if_pos (by omega), hx]; rfl
  · rw [if_neg hi]
    rcases Nat.lt_or_ge i k with h | h
    · rw [List.getElem?_append_left (by simp; omega), List.getElem?_append_left (by simp; omega)]
      simp only [List.getElem?_map, List.getElem?_take]
      rw [if_pos h, if_pos (by omega)]
    · rw [List.getElem?_append_right (by simp; omega), List.getElem?_append_right (by simp; omega)]
      simp only [List.length_map, List.length_take, List.getElem?_replicate]
      by_cases h2 : i < n
      · rw [if_pos (by omega), if_pos (by omega)]
      · rw [if_neg (by omega), if_neg (by omega)]
theorem part_all {α : Type} {F : α → Value} {z : Value} {xs : List α} {n : Nat} (hl : xs.length = n) : part F z xs n n = (xs.map F).toArray := by
  unfold part
  rw [List.take_of_length_le (by omega)]; simp

theorem own_of_blk {w : World} {base g n : Nat} {t : TypeId} {xs : List Value} (h : Blk w g t xs.toArray) (hb : base ≤ g) (hl : xs.length = n) (hn : n ≤ maxLen) : w.ownsRow base t 1 (.slice (some ⟨g, 0, none⟩) n n) n xs :=
  ⟨by omega, .inr ⟨g, n, xs.toArray, rfl, hb, h, Nat.le_refl _, hn, by simp [hl], by simp [List.take_of_length_le, hl]⟩⟩

theorem info_i64 : (Try.prog.info? 2).map (fun i => (i.zero, i.size, i.bytes)) = some (some (.int .i64 0), 1, 8) := by kernel_rfl

abbrev il (xs : List Int) : List Value := xs.map (Value.int .i64)
abbrev nl (xs : List Nat) : List Value := xs.map (fun n : Nat => Value.int .i64 (n : Int))

theorem own_shape {w : World} {base : Nat} {e : TypeId} {size n : Nat} {v : Value} {xs : List Value} (h : w.ownsRow base e size v n xs) : ∃ A c, v = .slice A n c := by
  rcases h.2 with ⟨rfl, rfl⟩ | ⟨g, cap, cur, rfl, _⟩
  · exact ⟨_, _, rfl⟩
  · exact ⟨_, _, rfl⟩
theorem own_head {w : World} {base : Nat} {e : TypeId} {n : Nat} {v u : Value} {xs : List Value} (h : w.ownsRow base e 1 v n (u :: xs)) : ∃ g c, v = .slice (some ⟨g, 0, none⟩) n c ∧ w.cell? ⟨g, 0, none⟩ = some u := by
  rcases h.2 with ⟨rfl, rfl⟩ | ⟨g, cap, cur, rfl, _⟩
  · have := h.1; simp at this
  · exact ⟨g, cap, rfl, by have := h.cells (g := g) rfl 0 u rfl; simpa [Addr.add] using this⟩

theorem own_emp {w : World} {base g : Nat} {e : TypeId} {size : Nat} (hg : g = w.heap.size) (hb : base ≤ g) : (w.alloc (.cells #[] e)).ownsRow base e size (.slice (some ⟨g, 0, none⟩) 0 0) 0 [] := by
  subst hg
  exact World.ownsRow_made _ _ _ hb (by simp [maxLen]) (by simp)

/-- A block that has just been made reads as what was put in. -/
theorem reads_new {α : Type} (F : α → Value) (w : World) (e : TypeId) (xs : List α) : Reads (w.alloc (.cells (xs.map F).toArray e)) (w.alloc (.cells (xs.map F).toArray e)).heap.size 1 (some ⟨w.heap.size, 0, none⟩) xs.length (xs.map F) := by
  refine ⟨by simp, fun _ => ⟨_, rfl, by simp, fun j u hu => ?_⟩⟩
  have h := Blk.cell (Blk.new w e (xs.map F).toArray) j
  rw [Addr.add_lit, Nat.zero_add, h]
  simpa using hu

set_option maxHeartbeats 400000 in
theorem toFloat32S (A : Option Addr) (n c : Nat) (xs : List Nat) (B : Nat) (w : World) (h : Reads w B 1 A n (fl .f32 xs)) (hB : B ≤ w.heap.size) (hn : n * 4 ≤ 281474976710656) :
    Calls Try.prog 47 #[.slice A n c] w fun e w' => ∃ g, e = .returned (.slice (some ⟨g, 0, none⟩) n n) ∧ w'.ownsRow w.heap.size 63 1 (.slice (some ⟨g, 0, none⟩) n n) n (fl .f32 xs) ∧ Below w.heap.size w w' := by
  have hlen := h.map_len
  have hmk : ∀ W : World, (Instr.makeSlice 31 (.int .i64 (n : Int)) (.int .i64 (n : Int))).run Try.prog W = .ok (.slice (some ⟨W.heap.size, 0, none⟩) n n) (W.alloc (.cells (part (Value.float .f32) (.float .f32 0) xs n 0) 63)) := by
    intro W
    rw [part_zero]
    exact run_make1 31 63 _ 4 info_f32 Try.underlying31 rfl n (by omega) (by omega) W
  have Hlen := hide hlen
  clear hlen
  go_enter Try.func47, Try.ntmps47
  go_wp2
  have hb0 : Below w.heap.size w (w.alloc (.cells (part (Value.float .f32) (.float .f32 0) xs n 0) 63)) := (Below.refl _ _).alloc (Nat.le_refl _) _
  go_loopw [4] (fun i wr => ∃ k : Nat, k ≤ n ∧ i = .int .i64 k ∧ Blk wr w.heap.size 63 (part (Value.float .f32) (.float .f32 0) xs n k) ∧ Below w.heap.size w wr) (fun i _ => n - (intOf i).toNat)
  case atStart => exact ⟨0, Nat.zero_le _, rfl, Blk.new _ _ _, hb0⟩
  case round =>
    obtain ⟨k, hk, rfl, hblk, hbel⟩ := hrel
    clear hb0
    by_cases hlt : k < n
    · obtain ⟨ad, x, rfl, hadb, hx, hc⟩ := (h.below (hbel.mono hB)).map_at hlt
      have Hx := hide hx
      have c1 : wr.cell? ⟨w.heap.size, k, none⟩ = some (.float .f32 0) := by rw [hblk.cell]; exact part_at Hlen.out hlt
      have c2 : wr.frozen? ⟨w.heap.size, k, none⟩ = false := hblk.frozen k
      have Hblk := hide hblk
      clear hx hblk
      go_wp2
      go_roundw
      case rel => exact ⟨k + 1, by omega, by go_num, by rw [← part_set Hlen.out hlt Hx.out]; exact Hblk.out.set_ k _, hbel.setCell (Nat.le_refl _) _⟩
      case measure => simp [intOf]; omega
    · go_wp2
      go_ret
      obtain rfl : k = n := by omega
      exact ⟨_, rfl, own_of_blk (by rw [← part_all (z := .float .f32 0) Hlen.out]; exact hblk) (Nat.le_refl _) (by simp [Hlen.out]) (by simp [maxLen]; omega), hbel⟩
theorem own_up {w : World} {base base' : Nat} {e : TypeId} {size n : Nat} {v : Value} {xs : List Value} (h : w.ownsRow base e size v n xs) (hb : base' ≤ base) : w.ownsRow base' e size v n xs := by
  refine ⟨h.1, ?_⟩
  rcases h.2 with h2 | ⟨g, cap, cur, h2, h3, h4⟩
  · exact .inl h2
  · exact .inr ⟨g, cap, cur, h2, by omega, h4⟩

end Go.Proofs.Ytjfmjeffmnjilaa
