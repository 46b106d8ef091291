/-
  A slice of truth values that came in reads as a list; the laws' copy of one.
-/
import Derived.Test.YthfdgffgihjglaaOpen
import Derived.Test.YthfdgffgihjglaaAlarm3
import Derived.Test.YthfdgffgihjglaaHelq
namespace Go.Proofs.Ythfdgffgihjglaa.Opn
open Go.RowKit Go.ChangeShapes Go.WideShapes Fl Mem
section
variable {H : Type} {enc : TypeId × Value → H} {P : Program} {w : World} {base : Nat} {spare : Nat → Bool} {held : Bool}
theorem trod_bool {t : TypeId} {fuel : Nat} {cs : List Value} {x : DataW H × List MemPlace} (ht : P.underlying t = some .bool) (h : DataW.trod enc P w base spare held fuel t cs = some x) :
    ∃ b : Bool, cs = [.bool b] := by
  cases fuel with
  | zero => simp [DataW.trod] at h
  | succ n =>
    cases cs with
    | nil => simp [DataW.trod, ht] at h
    | cons v r =>
      cases r with
      | cons _ _ => simp [DataW.trod, ht] at h
      | nil =>
        cases v <;> simp [DataW.trod, ht] at h
        exact ⟨_, rfl⟩
theorem open_bl {t e : TypeId} {A : Option Addr} {n c : Nat} {d : DataW H} {ps : List MemPlace} (ht : P.underlying t = some (.slice e)) (he : P.underlying e = some .bool) (hC : P.cellsOf e = 1)
    (h : DataW.Trod enc P w base spare held t (.slice A n c) d ps) :
    ∃ xs : List Bool, Reads w w.heap.size 1 A n (bl xs) ∧ xs.length = n ∧ n ≤ c ∧ c ≤ maxLen := by
  obtain ⟨xs, h1, h2, h3, h4, _⟩ := open_list Value.bool (fun _ => True) ht hC (fun fuel cs x hx => by
    obtain ⟨b, rfl⟩ := trod_bool he hx
    exact ⟨b, rfl, trivial⟩) h
  exact ⟨xs, h1, h2, h3, h4⟩
end
end Go.Proofs.Ythfdgffgihjglaa.Opn
namespace Go.Proofs.Ythfdgffgihjglaa
open Go.RowKit Fl Mem
set_option linter.unusedVariables false
set_option maxRecDepth 100000
set_option maxHeartbeats 400000 in
theorem copyB {A : Option Addr} {n c : Nat} {xs : List Bool} {w : World} (h : Reads w w.heap.size 1 A n (bl xs)) (hn : n ≤ 1048576) :
    Calls Try.prog 12 #[.slice A n c] w fun e w' => ∃ g, e = .returned (.slice (some ⟨g, 0, none⟩) n n) ∧ w'.ownsRow w.heap.size 4 1 (.slice (some ⟨g, 0, none⟩) n n) n (bl xs) ∧ Below w.heap.size w w' := by
  have hlen := h.map_len
  have hmk : ∀ W : World, (Instr.makeSlice 22 (.int .i64 (n : Int)) (.int .i64 (n : Int))).run Try.prog W = .ok (.slice (some ⟨W.heap.size, 0, none⟩) n n) (W.alloc (.cells (part Value.bool (.bool false) xs n 0) 4)) := by
    intro W
    rw [part_zero]
    exact run_make1 22 4 _ 1 info_bool Try.underlying22 rfl n (by omega) (by omega) W
  have Hlen := hide hlen
  clear hlen
  go_enter Try.func12, Try.ntmps12
  go_wp2
  have hb0 : Below w.heap.size w (w.alloc (.cells (part Value.bool (.bool false) xs n 0) 4)) := (Below.refl _ _).alloc (Nat.le_refl _) _
  go_loopw [4] (fun i wr => ∃ k : Nat, k ≤ n ∧ i = .int .i64 k ∧ Blk wr w.heap.size 4 (part Value.bool (.bool false) xs n k) ∧ Below w.heap.size w wr) (fun i _ => n - (intOf i).toNat)
  case atStart => exact ⟨0, Nat.zero_le _, rfl, Blk.new _ _ _, hb0⟩
  case round =>
    obtain ⟨k, hk, rfl, hblk, hbel⟩ := hrel
    clear hb0
    by_cases hlt : k < n
    · obtain ⟨ad, x, rfl, hadb, hx, hc⟩ := (h.below hbel).map_at hlt
      have Hx := hide hx
      have c1 : wr.cell? ⟨w.heap.size, k, none⟩ = some (.bool false) := by rw [hblk.cell]; exact part_at Hlen.out hlt
      have c2 : wr.frozen? ⟨w.heap.size, k, none⟩ = false := hblk.frozen k
      have Hblk := hide hblk
      clear hx hblk
      go_wp2
      go_roundw
      case rel => exact ⟨k + 1, by omega, by go_num, by rw [← part_set Hlen.out hlt Hx.out]; exact Hblk.out.set_ k _, hbel.setCell (Nat.le_refl _) _⟩
      case measure => simp [intOf]; omega
    · go_wp2
      go_ret
      obtain rfl : k = n := by omega
      exact ⟨_, rfl, own_of_blk (by rw [← part_all (z := .bool false) Hlen.out]; exact hblk) (Nat.le_refl _) (by simp [Hlen.out]) (by simp [maxLen]; omega), hbel⟩
end Go.Proofs.Ythfdgffgihjglaa
