/-
  PlanText: both sides.
-/
import Derived.Test.YtnpccnhamohnkaaDoorSmall
import Derived.Test.YtnpccnhamohnkaaDoorFin
import Derived.Deep.RegionHeld3
import Derived.BigQuiet
import Derived.Laws.Concat
namespace Go.Proofs.YtnpccnhamohnkaaDoor
open Go.RowKit Mem
set_option linter.unusedVariables false
set_option maxRecDepth 100000

def planOkT (sz ac : Int) : Bool := inB sz 1 40 && inB ac 0 sz
theorem s_l00InT {a lo hi : Int} {b : Bool} {w : World} (h : inB a lo hi = b) : Calls Tryd.prog 29 #[.int .i64 a, .int .i64 lo, .int .i64 hi] w fun e w' => e = .returned (.bool b) ∧ w' = w :=
  (s_l00In _ _ _ _).mono fun _ _ k => ⟨by rw [k.1, h], k.2.symm⟩
theorem below_undrew {w w' : World} (h : Below w.drew.heap.size w.drew w') : Below w.heap.size w w' := ⟨h.os, h.tape, h.output, h.size, h.block⟩
theorem plan_rng {sz ac : Int} (h : planOkT sz ac = true) : 0 ≤ sz ∧ sz < 100 ∧ 0 ≤ ac ∧ ac < 100 := by
  unfold planOkT inB at h
  simp at h
  omega
/-- The text of a number. -/
def numS (n : Int) : ByteArray := ⟨(Lib.itoa n).toArray⟩
def planS (sz ac : Int) : ByteArray := (numS sz ++ ⟨#[47]⟩) ++ numS ac
theorem numS_size {n : Int} (h : n.natAbs ≤ 9223372036854775808) : (numS n).size ≤ 20 := by
  show (Lib.itoa n).toArray.size ≤ 20
  rw [List.size_toArray, itoa_of]
  have h1 := dec_len n.natAbs
  have h2 := nDigits_le h
  split
  · simp only [List.length_cons]; omega
  · omega
theorem i_DecimalS (i : Int) (h0 : 0 ≤ i) (h1 : i < 100) (w : World) : Calls Tryd.prog 24 #[.int .i64 i] w fun e w' => e = .returned (.string (numS i)) ∧ w' = w := i_Decimal i h0 h1 w
theorem s_l01DecS {n : Int} {w : World} (h0 : -9223372036854775808 ≤ n) (h1 : n ≤ 9223372036854775807) : Calls Tryd.prog 30 #[.int .i64 n] w fun e w' => e = .returned (.string (numS n)) ∧ Below w.heap.size w w' := s_l01Dec h0 h1
end Go.Proofs.YtnpccnhamohnkaaDoor
