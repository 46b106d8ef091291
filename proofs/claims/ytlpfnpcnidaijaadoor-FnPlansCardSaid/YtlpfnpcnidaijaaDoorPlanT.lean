/-
  PlanText: both sides.
-/
import Derived.Test.YtlpfnpcnidaijaaDoorSmall
import Derived.Test.YtlpfnpcnidaijaaDoorFin
import Derived.Deep.RegionHeld3
import Derived.BigQuiet
import Derived.Laws.Concat
namespace Go.Proofs.YtlpfnpcnidaijaaDoor
open Go.RowKit Mem
set_option linter.unusedVariables false
set_option maxRecDepth 100000

def planOkT (sz ac : Int) : Bool := inB sz 1 40 && inB ac 0 sz
set_option maxHeartbeats 1000000 in
theorem i_ValidPlanT {a b : Int} {w : World} : Calls Tryd.prog 8 #[.agg #[.int .i64 a, .int .i64 b]] w fun e w' => e = .returned (.bool (planOkT a b)) ∧ Below w.heap.size w w' := by
  cases h1 : inB a 1 40 with
  | false =>
    go_enter Tryd.func8, Tryd.ntmps8
    go_wp2_with (go_at_call 23; refine (i_within _ _ _ _).mono ?_; rintro e w' ⟨rfl, rfl⟩)
    go_ret
    exact ⟨ret_bool (by unfold planOkT; rw [h1]; rfl), (by repeat (first | exact Below.refl _ _ | exact below_drewN (by assumption) _ | refine below_drewN ?_ _ | refine Below.alloc ?_ (by first | (simp; done) | (simp; omega)) _ | assumption))⟩
  | true =>
    go_enter Tryd.func8, Tryd.ntmps8
    go_wp2_with (go_at_call 23; refine (i_within _ _ _ _).mono ?_; rintro e w' ⟨rfl, rfl⟩)
    go_ret
    exact ⟨ret_bool (by unfold planOkT; rw [h1]; rfl), (by repeat (first | exact Below.refl _ _ | exact below_drewN (by assumption) _ | refine below_drewN ?_ _ | refine Below.alloc ?_ (by first | (simp; done) | (simp; omega)) _ | assumption))⟩
theorem below_undrew {w w' : World} (h : Below w.drew.heap.size w.drew w') : Below w.heap.size w w' := ⟨h.os, h.tape, h.output, h.size, h.block⟩
theorem plan_rng {sz ac : Int} (h : planOkT sz ac = true) : 0 ≤ sz ∧ sz < 100 ∧ 0 ≤ ac ∧ ac < 100 := by
  unfold planOkT inB at h
  simp at h
  omega
/-- The text of a number. -/
def numS (n : Int) : ByteArray := ⟨(Lib.itoa n).toArray⟩
def planS (sz ac : Int) : ByteArray := (numS sz ++ ⟨#[47]⟩) ++ numS ac
theorem numS_size {n : Int} (h : n.natAbs ≤ 9223372036854775808) : (numS n).size ≤ 20 := by
  show (Lib.itoa n).toArray.size ≤ 20
  rw [List.size_toArray, itoa_of]
  have h1 := dec_len n.natAbs
  have h2 := nDigits_le h
  split
  · simp only [List.length_cons]; omega
  · omega
theorem i_DecimalS (i : Int) (h0 : 0 ≤ i) (h1 : i < 100) (w : World) : Calls Tryd.prog 26 #[.int .i64 i] w fun e w' => e = .returned (.string (numS i)) ∧ w' = w := i_Decimal i h0 h1 w
set_option maxHeartbeats 400000 in
theorem i_PlanText_no {sz ac : Int} {w : World} (h : planOkT sz ac = false) : Calls Tryd.prog 13 #[.agg #[.int .i64 sz, .int .i64 ac]] w fun e w' => e = .returned (.tuple #[.string ⟨#[]⟩, .bool false]) ∧ Below w.heap.size w w' := by
  go_enter Tryd.func13, Tryd.ntmps13
  go_wp2_with (go_at_call 8; refine i_ValidPlanT.mono ?_; rintro e w1 ⟨rfl, hb⟩)
  go_ret2
  exact ⟨rfl, ((Below.refl w.heap.size w).alloc (Nat.le_refl _) _).trans (hb.mono (by simp))⟩
set_option maxHeartbeats 400000 in
theorem i_PlanText {sz ac : Int} {w : World} (h : planOkT sz ac = true) : Calls Tryd.prog 13 #[.agg #[.int .i64 sz, .int .i64 ac]] w fun e w' => e = .returned (.tuple #[.string (planS sz ac), .bool true]) ∧ Below w.heap.size w w' := by
  obtain ⟨r1, r2, r3, r4⟩ := plan_rng h
  have u1 := numS_size (n := sz) (by omega)
  have u2 := numS_size (n := ac) (by omega)
  have hs1 := fun w => run_string_add_sum (P := Tryd.prog) w (numS sz) ⟨#[47]⟩ (by have : ByteArray.size ⟨#[47]⟩ = 1 := rfl; omega)
  have hs2 := fun w => run_string_add_sum (P := Tryd.prog) w (numS sz ++ ⟨#[47]⟩) (numS ac) (by have : ByteArray.size ⟨#[47]⟩ = 1 := rfl; rw [ByteArray.size_append]; omega)
  clear u1 u2
  go_enter Tryd.func13, Tryd.ntmps13
  go_wp2_with fail
  refine i_ValidPlanT.mono ?_
  rintro e w1 ⟨rfl, hb⟩
  have c0 : w1.cell? ⟨w.heap.size, 0, none⟩ = some (.int .i64 sz) := ((Blk.new w _ _).below hb (by simp)).cell 0
  have c1 : w1.cell? ⟨w.heap.size, 1, none⟩ = some (.int .i64 ac) := ((Blk.new w _ _).below hb (by simp)).cell 1
  rw [h]
  go_wp2
  go_quiet ((go_at_call 26; exact Calls.quiet_of_same (i_DecimalS _ (by omega) (by omega) _)))
  go_wp2
  go_ret2
  exact ⟨rfl, below_drewN (((Below.refl w.heap.size w).alloc (Nat.le_refl _) _).trans (hb.mono (by simp))) _⟩

end Go.Proofs.YtlpfnpcnidaijaaDoor
