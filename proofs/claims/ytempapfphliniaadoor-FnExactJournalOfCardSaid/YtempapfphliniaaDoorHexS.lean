/-
  The reference's hexadecimal digits of a number.
-/
import Derived.Test.YtempapfphliniaaDoorHexV
import Derived.Test.YtempapfphliniaaDoorDecS
namespace Go.Proofs.YtempapfphliniaaDoor
open Go.RowKit Mem Fl
set_option linter.unusedVariables false
set_option maxRecDepth 100000

theorem dig16 : ∀ i : Fin 16, (⟨#[48, 49, 50, 51, 52, 53, 54, 55, 56, 57, 97, 98, 99, 100, 101, 102]⟩ : ByteArray)[i.val]'(i.isLt) = hexDig i.val := by decide +kernel
theorem dig16n (i : Nat) (h : i < (⟨#[48, 49, 50, 51, 52, 53, 54, 55, 56, 57, 97, 98, 99, 100, 101, 102]⟩ : ByteArray).size) : (((⟨#[48, 49, 50, 51, 52, 53, 54, 55, 56, 57, 97, 98, 99, 100, 101, 102]⟩ : ByteArray)[i]'h).toNat : Int) = ((hexDig i).toNat : Int) :=
  congrArg (fun b : UInt8 => (b.toNat : Int)) (dig16 ⟨i, h⟩)
theorem dig16k {k : Int} {i : Nat} (e : k.toNat = i) (h : k.toNat < (⟨#[48, 49, 50, 51, 52, 53, 54, 55, 56, 57, 97, 98, 99, 100, 101, 102]⟩ : ByteArray).size) : (((⟨#[48, 49, 50, 51, 52, 53, 54, 55, 56, 57, 97, 98, 99, 100, 101, 102]⟩ : ByteArray)[k.toNat]'h).toNat : Int) = ((hexDig i).toNat : Int) := by
  subst e; exact dig16n _ h
theorem and15i (x : Nat) (h : x < 4294967296) : bits .and .i64 (x : Int) 15 = ((x % 16 : Nat) : Int) := by
  have h15 : (BitVec.ofInt 64 15).toNat = 2 ^ 4 - 1 := by decide
  have key : (BitVec.ofInt 64 (x : Int) &&& BitVec.ofInt 64 15).toNat = ((x : Int) % ((2 ^ 64 : Nat) : Int)).toNat % 2 ^ 4 := by
    rw [BitVec.toNat_and, BitVec.toNat_ofInt, h15, Nat.and_two_pow_sub_one_eq_mod]
  show IntKind.i64.wrap ((BitVec.ofInt 64 (x : Int) &&& BitVec.ofInt 64 15).toNat : Nat) = _
  rw [key, IntKind.wrap_i64]
  omega
theorem hexPad_step (n j kk : Nat) (h : kk + 4 * j = 28) : hexPad (j + 1) (n / 2 ^ kk) = hexPad j (n / 2 ^ (kk + 4)) ++ [hexDig (n / 2 ^ kk % 16)] := by
  rw [hexPad, Nat.div_div_eq_div_mul, show 2 ^ kk * 16 = 2 ^ (kk + 4) by rw [Nat.pow_add]]
theorem cn_lt {a : Nat} (wa : Wf .f32 a) : cn .f32 a < 4294967296 := by
  have h : a < 4294967296 := by
    unfold Wf at wa
    rwa [show 2 ^ FloatKind.f32.format.width = 4294967296 by decide +kernel] at wa
  unfold cn
  split
  · decide
  · exact h
set_option maxHeartbeats 1000000 in
theorem s_l01Hex {a : Nat} {w : World} (wa : Wf .f32 a) :
    Calls Tryd.prog 94 #[.float .f32 a] w fun e w' => e = .returned (.string ⟨(hexPad 8 (cn .f32 a)).toArray⟩) ∧ Below w.heap.size w w' := by
  have hlt : cn .f32 a < 4294967296 := cn_lt wa
  go_enter Tryd.func94, Tryd.ntmps94
  go_wp2_with (go_at_call 114; refine (s_l01Bits wa).mono ?_; rintro e w' ⟨rfl, rfl⟩)
  generalize hN : cn .f32 a = n at hlt ⊢
  replace hN := hide hN
  go_loopw [4, 5] (fun out i wr => ∃ j : Nat, j ≤ 8 ∧ i = .int .i64 (28 - 4 * (j : Int)) ∧ Hid (wr.ownsRow w.heap.size 5 1 out j (by8 (hexPad j (n / 2 ^ (32 - 4 * j))))) ∧ Below w.heap.size w wr) (fun _ i _ => (intOf i + 4).toNat)
  case atStart => exact ⟨0, by omega, rfl, hide (World.ownsRow_made _ _ _ (Nat.le_refl _) (by simp [maxLen]) (by simp)), (Below.refl _ _).alloc (Nat.le_refl _) _⟩
  case round =>
    obtain ⟨j, hj, rfl, hown, hbel⟩ := hrel
    by_cases h8 : j < 8
    · obtain ⟨kk, hkk⟩ : ∃ kk : Nat, kk + 4 * j = 28 := ⟨28 - 4 * j, by omega⟩
      rw [show (28 - 4 * (j : Int)) = (kk : Int) by omega]
      have hand : bits .and .i64 ((n : Int) / 2 ^ kk) 15 = ((n / 2 ^ kk % 16 : Nat) : Int) := by
        rw [← and15i (n / 2 ^ kk) (Nat.lt_of_le_of_lt (Nat.div_le_self _ _) hlt)]
        push_cast
        rfl
      have hki : ((n : Int) / 2 ^ kk % 16).toNat = n / 2 ^ kk % 16 := by
        rw [show ((n : Int) / 2 ^ kk % 16) = ((n / 2 ^ kk % 16 : Nat) : Int) by push_cast; rfl]
        rfl
      have hdg := fun h => dig16k hki h
      clear hki
      have hrng : 0 ≤ bits .and .i64 ((n : Int) / 2 ^ kk) 15 ∧ bits .and .i64 ((n : Int) / 2 ^ kk) 15 < 16 := by rw [hand]; omega
      have HP := hide (hexPad_step n j kk hkk)
      go_wp2_with (at_builtin; refine wpList_append1 rfl (.tmp 13) (.tmp 20) 62 rfl w.heap.size 5 (.int .u8 0) _ 1 info_u8 Tryd.underlying62 rfl rfl _ _ _ rfl hown.out rfl rfl (by omega) (by omega) hbel.size ?_)
      intro v' w' hown' hb'
      have hbel' := hbel.trans hb'
      have HO : Hid (w'.ownsRow w.heap.size 5 1 v' (j + 1) (by8 (hexPad (j + 1) (n / 2 ^ (32 - 4 * (j + 1)))))) := hide (by
        rw [show 32 - 4 * (j + 1) = kk by omega, HP.out]
        rw [show 32 - 4 * j = kk + 4 by omega] at hown'
        simpa [by8, hdg] using hown')
      clear hown'
      go_wp2
      go_roundw
      case rel => exact ⟨j + 1, by omega, by go_num, HO, hbel'⟩
      case measure => (simp [intOf]; try omega)
    · obtain rfl : j = 8 := by omega
      have hne : hexPad 8 (n / 2 ^ (32 - 4 * 8)) ≠ [] := fun h => by have := hexPad_len 8 (n / 2 ^ (32 - 4 * 8)); rw [h] at this; cases this
      obtain ⟨g, cap, rfl, hg, hgl, hrow⟩ := row8_own (L := hexPad 8 (n / 2 ^ (32 - 4 * 8))) hne hown.out rfl (hexPad_len _ _)
      have hcv := conv_row (cap := cap) hrow (hexPad_len _ _)
      rw [show n / 2 ^ (32 - 4 * 8) = n by simp] at hcv
      clear hown hrow
      go_wp2
      go_ret
      exact ⟨by rw [hN.out]; rfl, hbel⟩
end Go.Proofs.YtempapfphliniaaDoor
