/-
  Contracts of the helpers of the laws on lists of texts.
-/
import Derived.Test.YtempapfphliniaaDoorMark
import Derived.Test.YtempapfphliniaaDoorCut
namespace Go.Proofs.YtempapfphliniaaDoor
open Go.RowKit Mem
set_option linter.unusedVariables false
set_option maxRecDepth 100000

set_option maxHeartbeats 400000 in
/-- 'eqStringS' of two lists that are equal. -/
theorem eqStringS_eq (A A' : Option Addr) (n n' c c' : Nat) (xs : List ByteArray) (B B' : Nat) (w : World) (h : Reads w B 1 A n (xs.map (Value.string))) (h' : Reads w B' 1 A' n' (xs.map (Value.string))) (hn : n ≤ maxLen) :
    Calls Tryd.prog 13 #[.slice A n c, .slice A' n' c'] w fun e w' => e = .returned (.bool true) ∧ ∃ n, w' = w.drewN n := by
  have hl : n' = n := by rw [← h.map_len, ← h'.map_len]
  subst hl
  unfold maxLen at hn
  go_enter Tryd.func13, Tryd.ntmps13
  go_wp2
  go_loopw [5] (fun i wr => ∃ k m : Nat, k ≤ n' ∧ i = .int .i64 k ∧ wr = w.drewN m) (fun i _ => n' - (intOf i).toNat)
  case atStart => exact ⟨0, 0, Nat.zero_le _, rfl, rfl⟩
  case round =>
    obtain ⟨k, m, hk, rfl, rfl⟩ := hrel
    by_cases hlt : k < n'
    · obtain ⟨ad, x, rfl, _, hx, hc⟩ := h.map_at hlt
      obtain ⟨ad', y, rfl, _, hy, hc'⟩ := h'.map_at hlt
      obtain rfl : y = x := by rw [hx] at hy; injection hy with hy; exact hy.symm

      clear hx hy
      have h1 : (0 : Int) ≤ k := by omega
      have h2 : (k : Int) < n' := by omega
      go_wp2
      go_quiet (fail)
      go_wp2
      go_roundw
      case rel => exact ⟨k + 1, _, by omega, by go_num, rfl⟩
      case measure => simp [intOf]; omega
    · go_wp2
      go_ret
      exact ⟨rfl, m, rfl⟩

set_option maxHeartbeats 400000 in
theorem toStringS {A : Option Addr} {n c : Nat} {xs : List ByteArray} {B : Nat} {w : World} (h : Reads w B 1 A n (xs.map Value.string)) (hB : B ≤ w.heap.size) (hn : n ≤ 1048576) :
    Calls Tryd.prog 11 #[.slice A n c] w fun e w' => ∃ g, e = .returned (.slice (some ⟨g, 0, none⟩) n n) ∧ w'.ownsRow w.heap.size 9 1 (.slice (some ⟨g, 0, none⟩) n n) n (xs.map Value.string) ∧ Below w.heap.size w w' := by
  have hlen := h.map_len
  have hmk : ∀ W : World, (Instr.makeSlice 22 (.int .i64 (n : Int)) (.int .i64 (n : Int))).run Tryd.prog W = .ok (.slice (some ⟨W.heap.size, 0, none⟩) n n) (W.alloc (.cells (part Value.string (.string ByteArray.empty) xs n 0) 9)) := by
    intro W
    rw [part_zero]
    exact run_make1 22 9 _ 16 info_str Tryd.underlying22 rfl n (by omega) (by omega) W
  have Hlen := hide hlen
  clear hlen
  go_enter Tryd.func11, Tryd.ntmps11
  go_wp2
  have hb0 : Below w.heap.size w (w.alloc (.cells (part Value.string (.string ByteArray.empty) xs n 0) 9)) := (Below.refl _ _).alloc (Nat.le_refl _) _
  go_loopw [4] (fun i wr => ∃ k : Nat, k ≤ n ∧ i = .int .i64 k ∧ Blk wr w.heap.size 9 (part Value.string (.string ByteArray.empty) xs n k) ∧ Below w.heap.size w wr) (fun i _ => n - (intOf i).toNat)
  case atStart => exact ⟨0, Nat.zero_le _, rfl, Blk.new _ _ _, hb0⟩
  case round =>
    obtain ⟨k, hk, rfl, hblk, hbel⟩ := hrel
    clear hb0
    by_cases hlt : k < n
    · obtain ⟨ad, x, rfl, hadb, hx, hc⟩ := (h.below (hbel.mono hB)).map_at hlt
      have Hx := hide hx
      have c1 : wr.cell? ⟨w.heap.size, k, none⟩ = some (.string ByteArray.empty) := by rw [hblk.cell]; exact part_at Hlen.out hlt
      have c2 : wr.frozen? ⟨w.heap.size, k, none⟩ = false := hblk.frozen k
      have Hblk := hide hblk
      clear hx hblk
      go_wp2
      go_roundw
      case rel => exact ⟨k + 1, by omega, by go_num, by rw [← part_set Hlen.out hlt Hx.out]; exact Hblk.out.set_ k _, hbel.setCell (Nat.le_refl _) _⟩
      case measure => simp [intOf]; omega
    · go_wp2
      go_ret
      obtain rfl : k = n := by omega
      exact ⟨_, rfl, own_of_blk (by rw [← part_all (z := .string ByteArray.empty) Hlen.out]; exact hblk) (Nat.le_refl _) (by simp [Hlen.out]) (by simp [maxLen]; omega), hbel⟩
set_option maxHeartbeats 1000000 in
theorem szStringS {A : Option Addr} {n c B : Nat} {xs : List ByteArray} {left : Int} {w : World} (h : Reads w B 1 A n (xs.map Value.string)) (h0 : 0 ≤ left) (h1 : left ≤ 1048576) (hn : n ≤ 9223372036854775807) (hx : ∀ x ∈ xs, x.size ≤ 9223372036854775807) :
    Calls Tryd.prog 9 #[.slice A n c, .int .i64 left] w fun e w' => (∃ r : Int, e = .returned (.int .i64 r) ∧ (r < 0 ∨ (0 ≤ r ∧ n ≤ 1048576 ∧ ∀ x ∈ xs, x.size ≤ 1048576))) ∧ w' = w := by
  have hl := h.map_len
  by_cases hbig : (n : Int) ≤ left
  · have i1 : ¬ left - (n : Int) < 0 := by omega
    go_enter Tryd.func9, Tryd.ntmps9
    go_wp2
    go_loopw [1, 5] (fun lv i wr => ∃ k : Nat, ∃ r : Int, k ≤ n ∧ i = .int .i64 k ∧ lv = .int .i64 r ∧ 0 ≤ r ∧ r ≤ 1048576 ∧ Hid (∀ x ∈ xs.take k, x.size ≤ 1048576) ∧ wr = w) (fun _ i _ => n - (intOf i).toNat)
    case atStart => exact ⟨0, left - n, Nat.zero_le _, rfl, by go_num, by omega, by omega, hide (by simp), rfl⟩
    case round =>
      obtain ⟨k, r, hk, rfl, rfl, hr0, hr1, hall, rfl⟩ := hrel
      by_cases hk2 : k < n
      · obtain ⟨ad, x, rfl, had, hxk, hc⟩ := h.map_at hk2
        have hkI : (k : Int) < (n : Int) := by omega
        have hxs := hx x (List.mem_of_getElem? hxk)
        by_cases hr : r - (x.size : Int) < 0
        · go_wp2
          go_ret
          exact ⟨⟨_, rfl, .inl (by decide)⟩, rfl⟩
        · have HA : Hid (∀ y ∈ xs.take (k + 1), y.size ≤ 1048576) := hide (by
            rw [take_eq hxk]
            intro y hy
            rcases List.mem_append.1 hy with hy | hy
            · exact hall.out y hy
            · simp at hy; subst hy; omega)
          clear hxk
          go_wp2
          go_roundw
          case rel => exact ⟨k + 1, r - x.size, by omega, by go_num, by go_num, by omega, by omega, HA, trivial⟩
          case measure => (simp [intOf]; try omega)
      · have hta : xs.take k = xs := List.take_of_length_le (by omega)
        have hkI : ¬ (k : Int) < (n : Int) := by omega
        rw [hta] at hall
        go_wp2
        go_ret
        exact ⟨⟨_, rfl, .inr ⟨hr0, by omega, hall.out⟩⟩, rfl⟩
  · have i1 : left - (n : Int) < 0 := by omega
    go_enter Tryd.func9, Tryd.ntmps9
    go_wp2
    go_ret
    exact ⟨⟨_, rfl, .inl (by decide)⟩, rfl⟩
end Go.Proofs.YtempapfphliniaaDoor
