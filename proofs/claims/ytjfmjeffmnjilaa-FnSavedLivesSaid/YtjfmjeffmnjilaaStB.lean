/-
  Numbers as bytes, the least one first: the program's walk; the bits of a number, both sides.
-/
import Derived.Test.YtjfmjeffmnjilaaSvP
import Derived.Test.YtjfmjeffmnjilaaKit
import Derived.Lib.AppendStr
namespace Go.Proofs.Ytjfmjeffmnjilaa
open Go.RowKit Fl Mem
set_option linter.unusedVariables false
set_option maxRecDepth 100000

theorem info_b8 : (Try.prog.info? 5).map (fun i => (i.zero, i.size, i.bytes)) = some (some (.int .u8 0), 1, 1) := by kernel_rfl
abbrev ub (l : List UInt8) : List Value := l.map fun b => Value.int .u8 b.toNat
/-- A number in so many bytes, the least one first. -/
def leB (n : Nat) : Nat → List UInt8
  | 0 => []
  | k + 1 => UInt8.ofNat n :: leB (n / 256) k
theorem leB_len (n k : Nat) : (leB n k).length = k := by
  induction k generalizing n with
  | zero => rfl
  | succ k ih => simp [leB, ih]
set_option maxHeartbeats 1000000 in
theorem i_bytesOf {v : Value} {n count base q : Nat} {l : List UInt8} {w : World} (ho : w.ownsRow base 5 1 v n (ub l)) (hb : base ≤ w.heap.size) (hn : n ≤ 1048576) (hc : count ≤ 8) (hq : q ≤ 4294967295) :
    Calls Try.prog 54 #[v, .int .i64 (q : Int), .int .i64 (count : Int)] w fun e w' => ∃ v', e = .returned v' ∧ w'.ownsRow base 5 1 v' (n + count) (ub (l ++ leB q count)) ∧ Below base w w' := by
  go_enter Try.func54, Try.ntmps54
  go_wp2
  go_loopw [0, 1, 8] (fun s0 s1 i wr => ∃ (k r : Nat) (pre : List UInt8), k ≤ count ∧ i = .int .i64 k ∧ s1 = .int .i64 r ∧ r ≤ 4294967295 ∧ Hid (pre ++ leB r (count - k) = leB q count) ∧ Hid (wr.ownsRow base 5 1 s0 (n + k) (ub (l ++ pre))) ∧ Below base w wr) (fun _ _ i _ => count - (intOf i).toNat)
  case atStart => exact ⟨0, q, [], Nat.zero_le _, rfl, rfl, hq, hide rfl, hide (by rw [List.append_nil]; exact ho), Below.refl _ _⟩
  case round =>
    obtain ⟨k, r, pre, hk, rfl, rfl, hr, hpre, hown, hbel⟩ := hrel
    have hsz := hbel.size
    by_cases hlt : k < count
    · have hkI : (k : Int) < (count : Int) := by omega
      have HE : Hid ((ub (l ++ pre) ++ [Value.int .u8 ((r : Int) % 256)] : List Value) = ub (l ++ (pre ++ [UInt8.ofNat r]))) := hide (by simp [ub])
      have HP : Hid ((pre ++ [UInt8.ofNat r]) ++ leB (r / 256) (count - (k + 1)) = leB q count) := hide (by
        rw [← hpre.out, show count - k = (count - (k + 1)) + 1 by omega]
        simp [leB])
      go_wp2_with (at_builtin; refine wpList_append1 rfl (.tmp 10) (.tmp 13) 51 rfl base 5 (.int .u8 0) _ 1 info_b8 Try.underlying51 rfl rfl _ _ _ rfl hown.out rfl rfl (by omega) (by omega) (by omega) ?_)
      intro v' w' hown' hb'
      have hbel' := hbel.trans hb'
      have HO : Hid (w'.ownsRow base 5 1 v' (n + k + 1) (ub (l ++ (pre ++ [UInt8.ofNat r])))) := hide (by rw [← HE.out]; simpa [ub] using hown')
      clear hown' hb' hown hbel
      go_wp2
      go_roundw
      case rel => exact ⟨k + 1, r / 256, pre ++ [UInt8.ofNat r], by omega, by go_num, by go_num, by omega, HP, hide (by rw [show n + (k + 1) = n + k + 1 by omega]; exact HO.out), hbel'⟩
      case measure => (simp [intOf]; try omega)
    · have hkI : ¬ (k : Int) < (count : Int) := by omega
      obtain rfl : k = count := by omega
      have HF : Hid (wr.ownsRow base 5 1 u0 (n + k) (ub (l ++ leB q k))) := hide (by
        have h9 := hpre.out
        rw [Nat.sub_self] at h9
        simp only [leB, List.append_nil] at h9
        rw [← h9]
        exact hown.out)
      clear hown
      go_wp2
      go_ret
      refine ⟨_, rfl, ?_, hbel⟩
      have h9 := HF.out
      simpa [ub] using h9
theorem i_BitsOf2 {a : Nat} {w : World} (wa : Wf .f32 a) : Calls Try.prog 55 #[.float .f32 a] w fun e w' => e = .returned (.int .i64 (cn .f32 a : Int)) ∧ w = w' := by
  have hlt : a < 4294967296 := by
    unfold Wf at wa
    have hw : 2 ^ FloatKind.f32.format.width = 4294967296 := by decide +kernel
    rw [hw] at wa; exact wa
  have hs := fun (y : Nat) (w : World) => run_call_bits32 (P := Try.prog) (f := 88) Try.func88 (by kernel_rfl) (by kernel_rfl) (by kernel_rfl) (by rfl) y w
  have hnn := nan_iff a
  cases ha : isNan .f32 a with
  | true =>
    rw [ha] at hnn
    have Ha := hide ha
    clear ha
    go_enter Try.func55, Try.ntmps55
    go_wp2
    go_ret
    exact ⟨ret_int (by rw [cn_nan Ha.out]; rfl), rfl⟩
  | false =>
    rw [ha] at hnn
    have Ha := hide ha
    clear ha
    go_enter Try.func55, Try.ntmps55
    go_wp2
    go_ret
    exact ⟨ret_int (by rw [cn_num Ha.out]), rfl⟩
end Go.Proofs.Ytjfmjeffmnjilaa
