/-
  The reference's reading of a decimal text.
-/
import Derived.Test.YtlpfnpcnidaijaaDoorVal
namespace Go.Proofs.YtlpfnpcnidaijaaDoor
open Go.RowKit Mem Go.Shelf
set_option linter.unusedVariables false
set_option maxRecDepth 100000

theorem digN_take {l : List UInt8} {k : Nat} {b : UInt8} (h : l[k]? = some b) : digN 0 (l.take (k + 1)) = if 48 ≤ b.toNat ∧ b.toNat ≤ 57 then 10 * digN 0 (l.take k) + (b.toNat - 48) else digN 0 (l.take k) := by
  unfold digN; rw [take_eq h, List.foldl_append]; rfl
theorem digN_bd {s : ByteArray} {k : Nat} (h : s.size ≤ 17) : digN 0 (s.data.toList.take k) < 100000000000000000 := by
  have h1 := digN_lt (s.data.toList.take k) 0
  have hl : s.data.toList.length = s.size := Array.length_toList
  have h2 : (s.data.toList.take k).length ≤ 17 := by rw [List.length_take]; omega
  have h3 : 10 ^ (s.data.toList.take k).length ≤ 10 ^ 17 := Nat.pow_le_pow_right (by decide) h2
  rw [Nat.zero_add, Nat.one_mul] at h1; omega
theorem valV_far {s : ByteArray} (h : ¬ (sgnV s).natAbs ≤ 1000000000000000) : valV s = none := by unfold valV; rw [if_neg (fun x => h x.1)]
theorem valV_not {s : ByteArray} (h : ¬ numS (sgnV s) = s) : valV s = none := by unfold valV; rw [if_neg (fun x => h x.2)]
theorem valV_yes {s : ByteArray} (h1 : (sgnV s).natAbs ≤ 1000000000000000) (h2 : numS (sgnV s) = s) : valV s = some (sgnV s) := by unfold valV; rw [if_pos ⟨h1, h2⟩]
end Go.Proofs.YtlpfnpcnidaijaaDoor
