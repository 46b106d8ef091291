/-
  strconv.formatBits at base 16: its loop.
-/
import Derived.Test.YtempapfphliniaaDoorHexW
import Derived.Clock
import Derived.Lib.EndianBits
namespace Go.Proofs.YtempapfphliniaaDoor
open Go.RowKit Mem Fl
set_option linter.unusedVariables false
set_option maxRecDepth 100000

/-- The bytes at the end of a row. -/
def Tail8 (w : World) (g k : Nat) (L : List UInt8) : Prop := ∀ j (hj : j < L.length), w.cell? ⟨g, k + j, none⟩ = some (.int .u8 (L[j].toNat : Int))
theorem zeroCells65 : Tryd.zeroCells159 = Array.replicate 65 (.int .u8 0) := by kernel_rfl
theorem and15 (u : Nat) (h : u < 4294967296) : bits .and .u64 (u : Int) 15 = ((u % 16 : Nat) : Int) := by
  have := bits_mask .u64 64 (by decide) wraps_u64 4 (by decide) (u : Int) (by omega) (by omega)
  simpa using this
theorem dig36 : ∀ i : Fin 36, i.val < 16 → (⟨#[48, 49, 50, 51, 52, 53, 54, 55, 56, 57, 97, 98, 99, 100, 101, 102, 103, 104, 105, 106, 107, 108, 109, 110, 111, 112, 113, 114, 115, 116, 117, 118, 119, 120, 121, 122]⟩ : ByteArray)[i.val]'(i.isLt) = hexDig i.val := by decide +kernel
theorem dig36n (i : Nat) (h : i < (⟨#[48, 49, 50, 51, 52, 53, 54, 55, 56, 57, 97, 98, 99, 100, 101, 102, 103, 104, 105, 106, 107, 108, 109, 110, 111, 112, 113, 114, 115, 116, 117, 118, 119, 120, 121, 122]⟩ : ByteArray).size) (h16 : i < 16) : (((⟨#[48, 49, 50, 51, 52, 53, 54, 55, 56, 57, 97, 98, 99, 100, 101, 102, 103, 104, 105, 106, 107, 108, 109, 110, 111, 112, 113, 114, 115, 116, 117, 118, 119, 120, 121, 122]⟩ : ByteArray)[i]'h).toNat : Int) = ((hexDig i).toNat : Int) :=
  congrArg (fun b : UInt8 => (b.toNat : Int)) (dig36 ⟨i, h⟩ h16)
theorem tail8_set {w : World} {g k : Nat} {L : List UInt8} {b : UInt8} {c0 : Value} (hk : 1 ≤ k) (h0 : w.cell? ⟨g, k - 1, none⟩ = some c0) (h : Tail8 w g k L) : Tail8 (w.setCell ⟨g, k - 1, none⟩ (.int .u8 (b.toNat : Int))) g (k - 1) (b :: L) := by
  intro j hj
  cases j with
  | zero => exact World.cell?_setCell_same _ _ _ h0
  | succ j =>
    rw [World.cell?_setCell_other _ _ _ _ (by intro e; injection e; omega)]
    rw [show k - 1 + (j + 1) = k + j by omega]
    exact h j (by simpa using hj)
set_option maxHeartbeats 1000000 in
theorem formatBits16 {n : Nat} {w : World} (hn : n < 4294967296) (ht : w.cell? ⟨6, 15, none⟩ = some (.int .u8 4)) :
    Calls Tryd.prog 112 #[.slice none 0 0, .int .u64 n, .int .i64 16, .bool false, .bool false] w fun e w' => e = .returned (.tuple #[.slice none 0 0, .string ⟨(hexMin n).toArray⟩]) ∧ Below w.heap.size w w' := by
  go_enter Tryd.func112, Tryd.ntmps112
  have hlt := Go.Clock.block_lt ht
  have ht1 := fun (o : Obj) => (World.cell?_alloc_lt w o ⟨6, 15, none⟩ hlt).trans ht
  have hp : bits BinOp.and IntKind.i64 16 15 = 0 := by kernel_rfl
  go_wp2_with (first | (go_at_call 129; go_in) | (go_at_call 130; refine (zeros16 (ht1 _)).mono ?_; rintro e w' ⟨rfl, rfl⟩))
  clear ht1 hp ht hlt
  go_loopw [1, 13] (fun u i wr => ∃ (uu k : Nat) (L : List UInt8), u = .int .u64 uu ∧ i = .int .i64 k ∧ k + L.length = 65 ∧ L.length ≤ 7 ∧ uu ≤ n ∧ Hid (HexAt n L uu) ∧ Hid (Tail8 wr w.heap.size k L) ∧ (∃ cs, Blk wr w.heap.size 159 cs ∧ cs.size = 65) ∧ Below w.heap.size w wr) (fun u _ _ => (intOf u).toNat)
  case atStart =>
    exact ⟨n, 65, [], rfl, rfl, rfl, by simp, Nat.le_refl _, hide (hexAt_start n), hide (fun j hj => by simp at hj), ⟨_, Blk.new _ _ _, by rw [zeroCells65]; simp⟩, (Below.refl _ _).alloc (Nat.le_refl _) _⟩
  case round =>
    obtain ⟨uu, k, L, rfl, rfl, hk, hl7, hun, hat, htl, ⟨cs, hblk, hcs⟩, hbel⟩ := hrel
    have hand := and15 uu (by omega)
    have hfz := hblk.frozen (k - 1)
    obtain ⟨c0, hc0⟩ : ∃ c0, wr.cell? ⟨w.heap.size, k - 1, none⟩ = some c0 := by rw [hblk.cell]; exact ⟨_, Array.getElem?_eq_getElem (by omega)⟩
    by_cases hu : uu < 16
    · have hdg := dig36n uu (Nat.lt_trans hu (by decide)) hu
      have hn0 := hide (hexAt_done hat.out hu)
      have hal : Tryd.prog.arrayLen 159 = 65 := by kernel_rfl
      have hsl : ∀ W, (Instr.sliceAt 159 (.pointer (some ⟨w.heap.size, 0, none⟩)) (some (.int .i64 ((k : Int) - 1))) none none).run Tryd.prog W = .ok (.slice (some ⟨w.heap.size, k - 1, none⟩) (66 - k) (66 - k)) W := fun W => by
        rw [run_sliceAt_array_l W 159 ⟨w.heap.size, 0, none⟩ (by simp [Program.arrayLen, Program.elem, Tryd.underlying159]) .i64 ((k : Int) - 1) (by omega) (by rw [hal]; omega), hal]
        go_simp
        omega
      have hcv := run_convert_bytes_back (P := Tryd.prog) (wr.setCell ⟨w.heap.size, k - 1, none⟩ (.int .u8 ((hexDig uu).toNat : Int))) 62 9 5 ⟨w.heap.size, k - 1, none⟩ (66 - k) (hexDig uu :: L) Tryd.underlying62 Tryd.underlying5 Tryd.underlying9 (fun j hj => by
        rw [show (⟨w.heap.size, k - 1, none⟩ : Addr).add j = ⟨w.heap.size, k - 1 + j, none⟩ by by_cases h0 : j = 0 <;> simp [Addr.add, h0]]
        exact tail8_set (by omega) hc0 htl.out j hj)
      rw [show (hexDig uu :: L).length = 66 - k by simp; omega] at hcv
      go_wp2
      go_ret2
      exact ⟨congrArg (fun l : List UInt8 => Ending.returned (.tuple #[.slice none 0 0, .string ⟨l.toArray⟩])) hn0.out.symm, hbel.setCell (Nat.le_refl _) _⟩
    · have hdg := dig36n (uu % 16) (Nat.lt_trans (Nat.mod_lt _ (by omega)) (by decide)) (Nat.mod_lt _ (by omega))
      have hst := hide (hexAt_step hat.out hu)
      have hlen := hexAt_len hst.out
      have hle8 := hexMin_len 7 n (by omega)
      simp only [List.length_cons] at hlen
      go_wp2
      refine ⟨⟨uu / 16, k - 1, hexDig (uu % 16) :: L, by go_num, by go_num, by simp; omega, by simp; omega, Nat.le_trans (Nat.div_le_self _ _) hun, hst, hide (tail8_set (by omega) hc0 htl.out), ⟨_, hblk.set_ _ _, by simpa using hcs⟩, hbel.setCell (Nat.le_refl _) _⟩, by simp [intOf]; omega⟩
end Go.Proofs.YtempapfphliniaaDoor
