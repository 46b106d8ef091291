/-
  strconv.FormatInt at base 16 of numbers below 2^32, and the texts of 32-bit numbers: both sides' digits.
-/
import Derived.Test.YtnpccnhamohnkaaGreatDoorHex
import Derived.Test.YtnpccnhamohnkaaGreatDoorSame
import Derived.Clock
import Derived.Lib.EndianBits
import Derived.Test.YtnpccnhamohnkaaGreatDoorDecS
namespace Go.Proofs.YtnpccnhamohnkaaGreatDoor
open Go.RowKit Mem Fl
set_option linter.unusedVariables false
set_option maxRecDepth 100000

theorem zeros16 {w : World} (ht : w.cell? ⟨8, 15, none⟩ = some (.int .u8 4)) : Calls Tryz.prog 223 #[.int .u64 16] w fun e w' => e = .returned (.int .i64 4) ∧ w' = w := by
  have h15 : IntKind.u64.wrap (bits BinOp.and IntKind.u64 16 (IntKind.u64.wrap (-16)) * 285870213051353865) / 288230376151711744 = 15 := by kernel_rfl
  go_enter Tryz.func223, Tryz.ntmps223
  go_wp2
  go_ret
  exact ⟨rfl, rfl⟩
end Go.Proofs.YtnpccnhamohnkaaGreatDoor

/-
  strconv.formatBits at base 16: its loop.
-/
namespace Go.Proofs.YtnpccnhamohnkaaGreatDoor
open Go.RowKit Mem Fl
set_option linter.unusedVariables false
set_option maxRecDepth 100000

/-- The bytes at the end of a row. -/
def Tail8 (w : World) (g k : Nat) (L : List UInt8) : Prop := ∀ j (hj : j < L.length), w.cell? ⟨g, k + j, none⟩ = some (.int .u8 (L[j].toNat : Int))
theorem zeroCells65 : Tryz.zeroCells245 = Array.replicate 65 (.int .u8 0) := by kernel_rfl
theorem and15 (u : Nat) (h : u < 4294967296) : bits .and .u64 (u : Int) 15 = ((u % 16 : Nat) : Int) := by
  have := bits_mask .u64 64 (by decide) wraps_u64 4 (by decide) (u : Int) (by omega) (by omega)
  simpa using this
theorem dig36 : ∀ i : Fin 36, i.val < 16 → (⟨#[48, 49, 50, 51, 52, 53, 54, 55, 56, 57, 97, 98, 99, 100, 101, 102, 103, 104, 105, 106, 107, 108, 109, 110, 111, 112, 113, 114, 115, 116, 117, 118, 119, 120, 121, 122]⟩ : ByteArray)[i.val]'(i.isLt) = hexDig i.val := by decide +kernel
theorem dig36n (i : Nat) (h : i < (⟨#[48, 49, 50, 51, 52, 53, 54, 55, 56, 57, 97, 98, 99, 100, 101, 102, 103, 104, 105, 106, 107, 108, 109, 110, 111, 112, 113, 114, 115, 116, 117, 118, 119, 120, 121, 122]⟩ : ByteArray).size) (h16 : i < 16) : (((⟨#[48, 49, 50, 51, 52, 53, 54, 55, 56, 57, 97, 98, 99, 100, 101, 102, 103, 104, 105, 106, 107, 108, 109, 110, 111, 112, 113, 114, 115, 116, 117, 118, 119, 120, 121, 122]⟩ : ByteArray)[i]'h).toNat : Int) = ((hexDig i).toNat : Int) :=
  congrArg (fun b : UInt8 => (b.toNat : Int)) (dig36 ⟨i, h⟩ h16)
theorem tail8_set {w : World} {g k : Nat} {L : List UInt8} {b : UInt8} {c0 : Value} (hk : 1 ≤ k) (h0 : w.cell? ⟨g, k - 1, none⟩ = some c0) (h : Tail8 w g k L) : Tail8 (w.setCell ⟨g, k - 1, none⟩ (.int .u8 (b.toNat : Int))) g (k - 1) (b :: L) := by
  intro j hj
  cases j with
  | zero => exact World.cell?_setCell_same _ _ _ h0
  | succ j =>
    rw [World.cell?_setCell_other _ _ _ _ (by intro e; injection e; omega)]
    rw [show k - 1 + (j + 1) = k + j by omega]
    exact h j (by simpa using hj)
set_option maxHeartbeats 1000000 in
theorem formatBits16 {n : Nat} {w : World} (hn : n < 4294967296) (ht : w.cell? ⟨8, 15, none⟩ = some (.int .u8 4)) :
    Calls Tryz.prog 190 #[.slice none 0 0, .int .u64 n, .int .i64 16, .bool false, .bool false] w fun e w' => e = .returned (.tuple #[.slice none 0 0, .string ⟨(hexMin n).toArray⟩]) ∧ Below w.heap.size w w' := by
  go_enter Tryz.func190, Tryz.ntmps190
  have hlt := Go.Clock.block_lt ht
  have ht1 := fun (o : Obj) => (World.cell?_alloc_lt w o ⟨8, 15, none⟩ hlt).trans ht
  have hp : bits BinOp.and IntKind.i64 16 15 = 0 := by kernel_rfl
  go_wp2_with (first | (go_at_call 222; go_in) | (go_at_call 223; refine (zeros16 (ht1 _)).mono ?_; rintro e w' ⟨rfl, rfl⟩))
  clear ht1 hp ht hlt
  go_loopw [1, 13] (fun u i wr => ∃ (uu k : Nat) (L : List UInt8), u = .int .u64 uu ∧ i = .int .i64 k ∧ k + L.length = 65 ∧ L.length ≤ 7 ∧ uu ≤ n ∧ Hid (HexAt n L uu) ∧ Hid (Tail8 wr w.heap.size k L) ∧ (∃ cs, Blk wr w.heap.size 245 cs ∧ cs.size = 65) ∧ Below w.heap.size w wr) (fun u _ _ => (intOf u).toNat)
  case atStart =>
    exact ⟨n, 65, [], rfl, rfl, rfl, by simp, Nat.le_refl _, hide (hexAt_start n), hide (fun j hj => by simp at hj), ⟨_, Blk.new _ _ _, by rw [zeroCells65]; simp⟩, (Below.refl _ _).alloc (Nat.le_refl _) _⟩
  case round =>
    obtain ⟨uu, k, L, rfl, rfl, hk, hl7, hun, hat, htl, ⟨cs, hblk, hcs⟩, hbel⟩ := hrel
    have hand := and15 uu (by omega)
    have hfz := hblk.frozen (k - 1)
    obtain ⟨c0, hc0⟩ : ∃ c0, wr.cell? ⟨w.heap.size, k - 1, none⟩ = some c0 := by rw [hblk.cell]; exact ⟨_, Array.getElem?_eq_getElem (by omega)⟩
    by_cases hu : uu < 16
    · have hdg := dig36n uu (Nat.lt_trans hu (by decide)) hu
      have hn0 := hide (hexAt_done hat.out hu)
      have hal : Tryz.prog.arrayLen 245 = 65 := by kernel_rfl
      have hsl : ∀ W, (Instr.sliceAt 245 (.pointer (some ⟨w.heap.size, 0, none⟩)) (some (.int .i64 ((k : Int) - 1))) none none).run Tryz.prog W = .ok (.slice (some ⟨w.heap.size, k - 1, none⟩) (66 - k) (66 - k)) W := fun W => by
        rw [run_sliceAt_array_l W 245 ⟨w.heap.size, 0, none⟩ (by simp [Program.arrayLen, Program.elem, Tryz.underlying245]) .i64 ((k : Int) - 1) (by omega) (by rw [hal]; omega), hal]
        go_simp
        omega
      have hcv := run_convert_bytes_back (P := Tryz.prog) (wr.setCell ⟨w.heap.size, k - 1, none⟩ (.int .u8 ((hexDig uu).toNat : Int))) 35 9 5 ⟨w.heap.size, k - 1, none⟩ (66 - k) (hexDig uu :: L) Tryz.underlying35 Tryz.underlying5 Tryz.underlying9 (fun j hj => by
        rw [show (⟨w.heap.size, k - 1, none⟩ : Addr).add j = ⟨w.heap.size, k - 1 + j, none⟩ by by_cases h0 : j = 0 <;> simp [Addr.add, h0]]
        exact tail8_set (by omega) hc0 htl.out j hj)
      rw [show (hexDig uu :: L).length = 66 - k by simp; omega] at hcv
      go_wp2
      go_ret2
      exact ⟨congrArg (fun l : List UInt8 => Ending.returned (.tuple #[.slice none 0 0, .string ⟨l.toArray⟩])) hn0.out.symm, hbel.setCell (Nat.le_refl _) _⟩
    · have hdg := dig36n (uu % 16) (Nat.lt_trans (Nat.mod_lt _ (by omega)) (by decide)) (Nat.mod_lt _ (by omega))
      have hst := hide (hexAt_step hat.out hu)
      have hlen := hexAt_len hst.out
      have hle8 := hexMin_len 7 n (by omega)
      simp only [List.length_cons] at hlen
      go_wp2
      refine ⟨⟨uu / 16, k - 1, hexDig (uu % 16) :: L, by go_num, by go_num, by simp; omega, by simp; omega, Nat.le_trans (Nat.div_le_self _ _) hun, hst, hide (tail8_set (by omega) hc0 htl.out), ⟨_, hblk.set_ _ _, by simpa using hcs⟩, hbel.setCell (Nat.le_refl _) _⟩, by simp [intOf]; omega⟩
end Go.Proofs.YtnpccnhamohnkaaGreatDoor

/-
  The reference's hexadecimal digits of a number.
-/
namespace Go.Proofs.YtnpccnhamohnkaaGreatDoor
open Go.RowKit Mem Fl
set_option linter.unusedVariables false
set_option maxRecDepth 100000

theorem dig16 : ∀ i : Fin 16, (⟨#[48, 49, 50, 51, 52, 53, 54, 55, 56, 57, 97, 98, 99, 100, 101, 102]⟩ : ByteArray)[i.val]'(i.isLt) = hexDig i.val := by decide +kernel
theorem dig16n (i : Nat) (h : i < (⟨#[48, 49, 50, 51, 52, 53, 54, 55, 56, 57, 97, 98, 99, 100, 101, 102]⟩ : ByteArray).size) : (((⟨#[48, 49, 50, 51, 52, 53, 54, 55, 56, 57, 97, 98, 99, 100, 101, 102]⟩ : ByteArray)[i]'h).toNat : Int) = ((hexDig i).toNat : Int) :=
  congrArg (fun b : UInt8 => (b.toNat : Int)) (dig16 ⟨i, h⟩)
theorem dig16k {k : Int} {i : Nat} (e : k.toNat = i) (h : k.toNat < (⟨#[48, 49, 50, 51, 52, 53, 54, 55, 56, 57, 97, 98, 99, 100, 101, 102]⟩ : ByteArray).size) : (((⟨#[48, 49, 50, 51, 52, 53, 54, 55, 56, 57, 97, 98, 99, 100, 101, 102]⟩ : ByteArray)[k.toNat]'h).toNat : Int) = ((hexDig i).toNat : Int) := by
  subst e; exact dig16n _ h
theorem and15i (x : Nat) (h : x < 4294967296) : bits .and .i64 (x : Int) 15 = ((x % 16 : Nat) : Int) := by
  have h15 : (BitVec.ofInt 64 15).toNat = 2 ^ 4 - 1 := by decide
  have key : (BitVec.ofInt 64 (x : Int) &&& BitVec.ofInt 64 15).toNat = ((x : Int) % ((2 ^ 64 : Nat) : Int)).toNat % 2 ^ 4 := by
    rw [BitVec.toNat_and, BitVec.toNat_ofInt, h15, Nat.and_two_pow_sub_one_eq_mod]
  show IntKind.i64.wrap ((BitVec.ofInt 64 (x : Int) &&& BitVec.ofInt 64 15).toNat : Nat) = _
  rw [key, IntKind.wrap_i64]
  omega
theorem hexPad_step (n j kk : Nat) (h : kk + 4 * j = 28) : hexPad (j + 1) (n / 2 ^ kk) = hexPad j (n / 2 ^ (kk + 4)) ++ [hexDig (n / 2 ^ kk % 16)] := by
  rw [hexPad, Nat.div_div_eq_div_mul, show 2 ^ kk * 16 = 2 ^ (kk + 4) by rw [Nat.pow_add]]
theorem cn_lt {a : Nat} (wa : Wf .f32 a) : cn .f32 a < 4294967296 := by
  have h : a < 4294967296 := by
    unfold Wf at wa
    rwa [show 2 ^ FloatKind.f32.format.width = 4294967296 by decide +kernel] at wa
  unfold cn
  split
  · decide
  · exact h
set_option maxHeartbeats 1000000 in
theorem s_l01Hex {a : Nat} {w : World} (wa : Wf .f32 a) :
    Calls Tryz.prog 204 #[.float .f32 a] w fun e w' => e = .returned (.string ⟨(hexPad 8 (cn .f32 a)).toArray⟩) ∧ Below w.heap.size w w' := by
  have hlt : cn .f32 a < 4294967296 := cn_lt wa
  go_enter Tryz.func204, Tryz.ntmps204
  go_wp2_with (go_at_call 170; refine (s_l01Bits wa).mono ?_; rintro e w' ⟨rfl, rfl⟩)
  generalize hN : cn .f32 a = n at hlt ⊢
  replace hN := hide hN
  go_loopw [4, 5] (fun out i wr => ∃ j : Nat, j ≤ 8 ∧ i = .int .i64 (28 - 4 * (j : Int)) ∧ Hid (wr.ownsRow w.heap.size 5 1 out j (by8 (hexPad j (n / 2 ^ (32 - 4 * j))))) ∧ Below w.heap.size w wr) (fun _ i _ => (intOf i + 4).toNat)
  case atStart => exact ⟨0, by omega, rfl, hide (World.ownsRow_made _ _ _ (Nat.le_refl _) (by simp [maxLen]) (by simp)), (Below.refl _ _).alloc (Nat.le_refl _) _⟩
  case round =>
    obtain ⟨j, hj, rfl, hown, hbel⟩ := hrel
    by_cases h8 : j < 8
    · obtain ⟨kk, hkk⟩ : ∃ kk : Nat, kk + 4 * j = 28 := ⟨28 - 4 * j, by omega⟩
      rw [show (28 - 4 * (j : Int)) = (kk : Int) by omega]
      have hand : bits .and .i64 ((n : Int) / 2 ^ kk) 15 = ((n / 2 ^ kk % 16 : Nat) : Int) := by
        rw [← and15i (n / 2 ^ kk) (Nat.lt_of_le_of_lt (Nat.div_le_self _ _) hlt)]
        push_cast
        rfl
      have hki : ((n : Int) / 2 ^ kk % 16).toNat = n / 2 ^ kk % 16 := by
        rw [show ((n : Int) / 2 ^ kk % 16) = ((n / 2 ^ kk % 16 : Nat) : Int) by push_cast; rfl]
        rfl
      have hdg := fun h => dig16k hki h
      clear hki
      have hrng : 0 ≤ bits .and .i64 ((n : Int) / 2 ^ kk) 15 ∧ bits .and .i64 ((n : Int) / 2 ^ kk) 15 < 16 := by rw [hand]; omega
      have HP := hide (hexPad_step n j kk hkk)
      go_wp2_with (at_builtin; refine wpList_append1 rfl (.tmp 13) (.tmp 20) 35 rfl w.heap.size 5 (.int .u8 0) _ 1 info_u8 Tryz.underlying35 rfl rfl _ _ _ rfl hown.out rfl rfl (by omega) (by omega) hbel.size ?_)
      intro v' w' hown' hb'
      have hbel' := hbel.trans hb'
      have HO : Hid (w'.ownsRow w.heap.size 5 1 v' (j + 1) (by8 (hexPad (j + 1) (n / 2 ^ (32 - 4 * (j + 1)))))) := hide (by
        rw [show 32 - 4 * (j + 1) = kk by omega, HP.out]
        rw [show 32 - 4 * j = kk + 4 by omega] at hown'
        simpa [by8, hdg] using hown')
      clear hown'
      go_wp2
      go_roundw
      case rel => exact ⟨j + 1, by omega, by go_num, HO, hbel'⟩
      case measure => (simp [intOf]; try omega)
    · obtain rfl : j = 8 := by omega
      have hne : hexPad 8 (n / 2 ^ (32 - 4 * 8)) ≠ [] := fun h => by have := hexPad_len 8 (n / 2 ^ (32 - 4 * 8)); rw [h] at this; cases this
      obtain ⟨g, cap, rfl, hg, hgl, hrow⟩ := row8_own (L := hexPad 8 (n / 2 ^ (32 - 4 * 8))) hne hown.out rfl (hexPad_len _ _)
      have hcv := conv_row (cap := cap) hrow (hexPad_len _ _)
      rw [show n / 2 ^ (32 - 4 * 8) = n by simp] at hcv
      clear hown hrow
      go_wp2
      go_ret
      exact ⟨by rw [hN.out]; rfl, hbel⟩
end Go.Proofs.YtnpccnhamohnkaaGreatDoor
