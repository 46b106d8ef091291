/-
  PlanText: both sides.
-/
import Derived.Test.YthflejkkcnglgaaDoorSmall
import Derived.Test.YthflejkkcnglgaaDoorFin
import Derived.Deep.RegionHeld3
import Derived.BigQuiet
import Derived.Laws.Concat
namespace Go.Proofs.YthflejkkcnglgaaDoor
open Go.RowKit Mem
set_option linter.unusedVariables false
set_option maxRecDepth 100000

def planOkT (sz ac : Int) : Bool := inB sz 1 40 && inB ac 0 sz
set_option maxHeartbeats 1000000 in
theorem i_ValidPlanT {a b : Int} {w : World} : Calls Tryd.prog 19 #[.agg #[.int .i64 a, .int .i64 b]] w fun e w' => e = .returned (.bool (planOkT a b)) ∧ Below w.heap.size w w' := by
  cases h1 : inB a 1 40 with
  | false =>
    go_enter Tryd.func19, Tryd.ntmps19
    go_wp2_with (go_at_call 32; refine (i_within _ _ _ _).mono ?_; rintro e w' ⟨rfl, rfl⟩)
    go_ret
    exact ⟨ret_bool (by unfold planOkT; rw [h1]; rfl), (by repeat (first | exact Below.refl _ _ | exact below_drewN (by assumption) _ | refine below_drewN ?_ _ | refine Below.alloc ?_ (by first | (simp; done) | (simp; omega)) _ | assumption))⟩
  | true =>
    go_enter Tryd.func19, Tryd.ntmps19
    go_wp2_with (go_at_call 32; refine (i_within _ _ _ _).mono ?_; rintro e w' ⟨rfl, rfl⟩)
    go_ret
    exact ⟨ret_bool (by unfold planOkT; rw [h1]; rfl), (by repeat (first | exact Below.refl _ _ | exact below_drewN (by assumption) _ | refine below_drewN ?_ _ | refine Below.alloc ?_ (by first | (simp; done) | (simp; omega)) _ | assumption))⟩
theorem s_l00InT {a lo hi : Int} {b : Bool} {w : World} (h : inB a lo hi = b) : Calls Tryd.prog 35 #[.int .i64 a, .int .i64 lo, .int .i64 hi] w fun e w' => e = .returned (.bool b) ∧ w' = w :=
  (s_l00In _ _ _ _).mono fun _ _ k => ⟨by rw [k.1, h], k.2.symm⟩
set_option maxHeartbeats 1000000 in
theorem s_l06IsT {g o : Nat} {sz ac : Int} {w : World} (h1 : w.cell? ⟨g, o, none⟩ = some (.int .i64 sz)) (h2 : w.cell? ⟨g, o + 1, none⟩ = some (.int .i64 ac)) :
    Calls Tryd.prog 28 #[.pointer (some ⟨g, o, none⟩)] w fun e w' => e = .returned (.bool (planOkT sz ac)) ∧ Below w.heap.size w w' := by
  cases hs : inB sz 1 40 with
  | false =>
    go_enter Tryd.func28, Tryd.ntmps28
    go_wp2
    go_quiet ((go_at_call 35; first | exact Calls.quiet_of_same (s_l00InT hs) | exact Calls.quiet_of_same (s_l00InT rfl)))
    all_goals
      go_wp2
      go_ret
      exact ⟨ret_bool (by unfold planOkT; rw [hs]; rfl), (by repeat (first | exact Below.refl _ _ | exact below_drewN (by assumption) _ | refine below_drewN ?_ _ | refine Below.alloc ?_ (by first | (simp; done) | (simp; omega)) _ | assumption))⟩
  | true =>
    go_enter Tryd.func28, Tryd.ntmps28
    go_wp2
    go_quiet ((go_at_call 35; first | exact Calls.quiet_of_same (s_l00InT hs) | exact Calls.quiet_of_same (s_l00InT rfl)))
    all_goals
      go_wp2
      go_ret
      exact ⟨ret_bool (by unfold planOkT; rw [hs]; rfl), (by repeat (first | exact Below.refl _ _ | exact below_drewN (by assumption) _ | refine below_drewN ?_ _ | refine Below.alloc ?_ (by first | (simp; done) | (simp; omega)) _ | assumption))⟩

theorem below_undrew {w w' : World} (h : Below w.drew.heap.size w.drew w') : Below w.heap.size w w' := ⟨h.os, h.tape, h.output, h.size, h.block⟩
theorem plan_rng {sz ac : Int} (h : planOkT sz ac = true) : 0 ≤ sz ∧ sz < 100 ∧ 0 ≤ ac ∧ ac < 100 := by
  unfold planOkT inB at h
  simp at h
  omega
/-- The text of a number. -/
def numS (n : Int) : ByteArray := ⟨(Lib.itoa n).toArray⟩
def planS (sz ac : Int) : ByteArray := (numS sz ++ ⟨#[47]⟩) ++ numS ac
theorem numS_size {n : Int} (h : n.natAbs ≤ 9223372036854775808) : (numS n).size ≤ 20 := by
  show (Lib.itoa n).toArray.size ≤ 20
  rw [List.size_toArray, itoa_of]
  have h1 := dec_len n.natAbs
  have h2 := nDigits_le h
  split
  · simp only [List.length_cons]; omega
  · omega
theorem i_DecimalS (i : Int) (h0 : 0 ≤ i) (h1 : i < 100) (w : World) : Calls Tryd.prog 25 #[.int .i64 i] w fun e w' => e = .returned (.string (numS i)) ∧ w' = w := i_Decimal i h0 h1 w
theorem s_l01DecS {n : Int} {w : World} (h0 : -9223372036854775808 ≤ n) (h1 : n ≤ 9223372036854775807) : Calls Tryd.prog 22 #[.int .i64 n] w fun e w' => e = .returned (.string (numS n)) ∧ Below w.heap.size w w' := s_l01Dec h0 h1
end Go.Proofs.YthflejkkcnglgaaDoor
