/-
  The check number of a text: both sides.
-/
import Derived.Test.YtjfmjeffmnjilaaSvP
import Derived.Test.YtjfmjeffmnjilaaKit
namespace Go.Proofs.Ytjfmjeffmnjilaa
open Go.RowKit Mem
set_option linter.unusedVariables false
set_option maxRecDepth 100000

def chkL (n : Nat) (l : List UInt8) : Nat := l.foldl (fun a b => (953 * a + b.toNat + 223) % 65003) n
def chk (n : Nat) (s : ByteArray) : Nat := chkL n s.data.toList
theorem chkL_lt {n : Nat} (h : n < 65003) (l : List UInt8) : chkL n l < 65003 := by
  induction l generalizing n with
  | nil => exact h
  | cons b l ih => exact ih (Nat.mod_lt _ (by decide))
theorem chkL_succ {n k : Nat} {l : List UInt8} {b : UInt8} (h : l[k]? = some b) : chkL n (l.take (k + 1)) = (953 * chkL n (l.take k) + b.toNat + 223) % 65003 := by
  unfold chkL
  rw [take_eq h, List.foldl_append]; rfl
theorem byte_at {s : ByteArray} {k : Nat} (h : k < s.size) : s.data.toList[k]? = some s[k] := by
  rw [List.getElem?_eq_getElem (show k < s.data.toList.length by simp only [Array.length_toList]; exact h)]; rfl
theorem chk_all (n : Nat) (s : ByteArray) : chkL n (s.data.toList.take s.size) = chk n s := by
  unfold chk
  rw [List.take_of_length_le (by simp only [Array.length_toList]; exact Nat.le_refl _)]
theorem chk_step {m : Nat} (h : m < 65003) (b : UInt8) : (wrap64 (wrap64 (953 * (m : Int) + wrap64 (b.toNat : Int)) + 223)).tmod 65003 = (((953 * m + b.toNat + 223) % 65003 : Nat) : Int) := by
  have hb : b.toNat < 256 := UInt8.toNat_lt _
  have e : wrap64 (wrap64 (953 * (m : Int) + wrap64 (b.toNat : Int)) + 223) = ((953 * m + b.toNat + 223 : Nat) : Int) := by
    unfold wrap64; omega
  rw [e]; rfl
theorem ret_int' {a b : Int} (h : a = b) : Value.int .i64 a = Value.int .i64 b := by rw [h]
set_option maxHeartbeats 1000000 in
theorem s_l01Check {n : Nat} {s : ByteArray} {w : World} (hn : n < 65003) (hs : s.size ≤ 4294967296) :
    Calls Try.prog 87 #[.int .i64 (n : Int), .string s] w fun e w' => e = .returned (.int .i64 (chk n s : Int)) ∧ w' = w := by
  go_enter Try.func87, Try.ntmps87
  go_wp2
  go_loopw [0, 5] (fun c i wr => ∃ k m : Nat, k ≤ s.size ∧ i = .int .i64 k ∧ c = .int .i64 m ∧ Hid (m = chkL n (s.data.toList.take k)) ∧ m < 65003 ∧ wr = w) (fun _ i _ => s.size - (intOf i).toNat)
  case atStart => exact ⟨0, n, Nat.zero_le _, rfl, rfl, hide rfl, hn, rfl⟩
  case round =>
    obtain ⟨k, m, hk, rfl, rfl, hm, hmlt, rfl⟩ := hrel
    by_cases hk2 : k < s.size
    · have HT := hide (chkL_succ (n := n) (byte_at hk2))
      have hkI : (k : Int) < (s.size : Int) := by omega
      have hb : (s[k]).toNat < 256 := UInt8.toNat_lt _
      have HV := hide (chk_step hmlt s[k])
      go_wp2
      go_roundw
      case rel => exact ⟨k + 1, (953 * m + (s[k]).toNat + 223) % 65003, by omega, by go_num, ret_int' (by omega), hide (by rw [HT.out, ← hm.out]), Nat.mod_lt _ (by decide), trivial⟩
      case measure => (simp [intOf]; try omega)
    · have hke : k = s.size := by omega
      have hkI : ¬ (k : Int) < (s.size : Int) := by omega
      have HM := hide (hm.out.trans (by subst hke; exact chk_all n s))
      go_wp2
      go_ret
      exact ⟨by rw [HM.out]; rfl, rfl⟩
set_option maxHeartbeats 1000000 in
theorem i_CheckOf {n : Nat} {s : ByteArray} {w : World} (hn : n < 65003) (hs : s.size ≤ 4294967296) :
    Calls Try.prog 56 #[.int .i64 (n : Int), .string s] w fun e w' => e = .returned (.tuple #[.int .i64 (chk n s : Int), .bool true]) ∧ w' = w := by
  have h1 : (0 : Int) ≤ n := by omega
  have h2 : (n : Int) ≤ 65002 := by omega
  go_enter Try.func56, Try.ntmps56
  go_wp2_with (go_at_call 89; go_in)
  go_loopw [0, 12] (fun c i wr => ∃ k m : Nat, k ≤ s.size ∧ i = .int .i64 k ∧ c = .int .i64 m ∧ Hid (m = chkL n (s.data.toList.take k)) ∧ m < 65003 ∧ wr = w) (fun _ i _ => s.size - (intOf i).toNat)
  case atStart => exact ⟨0, n, Nat.zero_le _, rfl, rfl, hide rfl, hn, rfl⟩
  case round =>
    obtain ⟨k, m, hk, rfl, rfl, hm, hmlt, rfl⟩ := hrel
    by_cases hk2 : k < s.size
    · have HT := hide (chkL_succ (n := n) (byte_at hk2))
      have hkI : (k : Int) < (s.size : Int) := by omega
      have HV := hide (chk_step hmlt s[k])
      go_wp2
      go_roundw
      case rel => exact ⟨k + 1, (953 * m + (s[k]).toNat + 223) % 65003, by omega, by go_num, ret_int' HV.out, hide (by rw [HT.out, ← hm.out]), Nat.mod_lt _ (by decide), trivial⟩
      case measure => (simp [intOf]; try omega)
    · have hke : k = s.size := by omega
      have hkI : ¬ (k : Int) < (s.size : Int) := by omega
      have HM := hide (hm.out.trans (by subst hke; exact chk_all n s))
      go_wp2
      go_ret2
      exact ⟨by rw [HM.out]; rfl, rfl⟩
end Go.Proofs.Ytjfmjeffmnjilaa
