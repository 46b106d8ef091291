/-
  The check number of a text: both sides. The decimal text of any number: the program's side.
-/
import Derived.Test.YtnpccnhamohnkaaDoorPlanT
import Derived.Test.YtnpccnhamohnkaaDoorLayFormatInt
import Derived.Lib.SmallJoins
import Derived.Lib.AppendIntMem
namespace Go.Proofs.YtnpccnhamohnkaaDoor
open Go.RowKit Mem Go.Shelf
set_option linter.unusedVariables false
set_option maxRecDepth 100000

def chkL (n : Nat) (l : List UInt8) : Nat := l.foldl (fun a b => (953 * a + b.toNat + 223) % 65003) n
def chk (n : Nat) (s : ByteArray) : Nat := chkL n s.data.toList
theorem chkL_lt {n : Nat} (h : n < 65003) (l : List UInt8) : chkL n l < 65003 := by
  induction l generalizing n with
  | nil => exact h
  | cons b l ih => exact ih (Nat.mod_lt _ (by decide))
theorem chkL_succ {n k : Nat} {l : List UInt8} {b : UInt8} (h : l[k]? = some b) : chkL n (l.take (k + 1)) = (953 * chkL n (l.take k) + b.toNat + 223) % 65003 := by
  unfold chkL
  rw [take_eq h, List.foldl_append]; rfl
theorem byte_at {s : ByteArray} {k : Nat} (h : k < s.size) : s.data.toList[k]? = some s[k] := by
  rw [List.getElem?_eq_getElem (show k < s.data.toList.length by simp only [Array.length_toList]; exact h)]; rfl
theorem chk_all (n : Nat) (s : ByteArray) : chkL n (s.data.toList.take s.size) = chk n s := by
  unfold chk
  rw [List.take_of_length_le (by simp only [Array.length_toList]; exact Nat.le_refl _)]
theorem chk_step {m : Nat} (h : m < 65003) (b : UInt8) : (wrap64 (wrap64 (953 * (m : Int) + wrap64 (b.toNat : Int)) + 223)).tmod 65003 = (((953 * m + b.toNat + 223) % 65003 : Nat) : Int) := by
  have hb : b.toNat < 256 := UInt8.toNat_lt _
  have e : wrap64 (wrap64 (953 * (m : Int) + wrap64 (b.toNat : Int)) + 223) = ((953 * m + b.toNat + 223 : Nat) : Int) := by
    unfold wrap64; omega
  rw [e]; rfl
theorem ret_int' {a b : Int} (h : a = b) : Value.int .i64 a = Value.int .i64 b := by rw [h]
theorem pow_kept {w w' : World} (h : Lib.TabIs Tryd.prog w "internal/strconv.uint64pow10" .u64 Lib.pow10Tab) (hb : Below w.heap.size w w') : Lib.TabIs Tryd.prog w' "internal/strconv.uint64pow10" .u64 Lib.pow10Tab :=
  Go.Joins.var_stays (show Tryd.prog.globalNamed "internal/strconv.uint64pow10" = some 4 by kernel_rfl) h hb (Nat.le_refl _)
theorem i_DecimalA {n : Int} {w : World} (h0 : -9223372036854775808 ≤ n) (h1 : n ≤ 9223372036854775807) (htab : Lib.TabIs Tryd.prog w "internal/strconv.uint64pow10" .u64 Lib.pow10Tab) :
    Calls Tryd.prog 24 #[.int .i64 n] w fun e w' => e = .returned (.string (numS n)) ∧ Below w.heap.size w w' := by
  go_enter Tryd.func24, Tryd.ntmps24
  go_wp2_with fail
  refine (Any.strconv_FormatInt_10 laysFormatInt n h0 h1 _ htab).mono ?_
  rintro e w1 ⟨rfl, k, os, rfl⟩
  go_wp2
  go_ret
  exact ⟨rfl, Lib.below_grow _ _ (Nat.le_refl _) k os⟩
end Go.Proofs.YtnpccnhamohnkaaDoor
