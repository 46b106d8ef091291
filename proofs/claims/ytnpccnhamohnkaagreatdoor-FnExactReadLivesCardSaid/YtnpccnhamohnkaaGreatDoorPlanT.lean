/-
  PlanText: both sides.
-/
import Derived.Test.YtnpccnhamohnkaaGreatDoorSmall
import Derived.Test.YtnpccnhamohnkaaGreatDoorFin
import Derived.Deep.RegionHeld3
import Derived.BigQuiet
import Derived.Laws.Concat
namespace Go.Proofs.YtnpccnhamohnkaaGreatDoor
open Go.RowKit Mem
set_option linter.unusedVariables false
set_option maxRecDepth 100000

def planOkT (sz ac : Int) : Bool := inB sz 1 40 && inB ac 0 sz
set_option maxHeartbeats 1000000 in
theorem i_ValidPlanT {a b : Int} {w : World} : Calls Tryz.prog 63 #[.agg #[.int .i64 a, .int .i64 b]] w fun e w' => e = .returned (.bool (planOkT a b)) ∧ Below w.heap.size w w' := by
  cases h1 : inB a 1 40 with
  | false =>
    go_enter Tryz.func63, Tryz.ntmps63
    go_wp2_with (go_at_call 84; refine (i_within _ _ _ _).mono ?_; rintro e w' ⟨rfl, rfl⟩)
    go_ret
    exact ⟨ret_bool (by unfold planOkT; rw [h1]; rfl), (by repeat (first | exact Below.refl _ _ | exact below_drewN (by assumption) _ | refine below_drewN ?_ _ | refine Below.alloc ?_ (by first | (simp; done) | (simp; omega)) _ | assumption))⟩
  | true =>
    go_enter Tryz.func63, Tryz.ntmps63
    go_wp2_with (go_at_call 84; refine (i_within _ _ _ _).mono ?_; rintro e w' ⟨rfl, rfl⟩)
    go_ret
    exact ⟨ret_bool (by unfold planOkT; rw [h1]; rfl), (by repeat (first | exact Below.refl _ _ | exact below_drewN (by assumption) _ | refine below_drewN ?_ _ | refine Below.alloc ?_ (by first | (simp; done) | (simp; omega)) _ | assumption))⟩
theorem s_l00InT {a lo hi : Int} {b : Bool} {w : World} (h : inB a lo hi = b) : Calls Tryz.prog 164 #[.int .i64 a, .int .i64 lo, .int .i64 hi] w fun e w' => e = .returned (.bool b) ∧ w' = w :=
  (s_l00In _ _ _ _).mono fun _ _ k => ⟨by rw [k.1, h], k.2.symm⟩
theorem below_undrew {w w' : World} (h : Below w.drew.heap.size w.drew w') : Below w.heap.size w w' := ⟨h.os, h.tape, h.output, h.size, h.block⟩
theorem plan_rng {sz ac : Int} (h : planOkT sz ac = true) : 0 ≤ sz ∧ sz < 100 ∧ 0 ≤ ac ∧ ac < 100 := by
  unfold planOkT inB at h
  simp at h
  omega
/-- The text of a number. -/
def numS (n : Int) : ByteArray := ⟨(Lib.itoa n).toArray⟩
def planS (sz ac : Int) : ByteArray := (numS sz ++ ⟨#[47]⟩) ++ numS ac
theorem numS_size {n : Int} (h : n.natAbs ≤ 9223372036854775808) : (numS n).size ≤ 20 := by
  show (Lib.itoa n).toArray.size ≤ 20
  rw [List.size_toArray, itoa_of]
  have h1 := dec_len n.natAbs
  have h2 := nDigits_le h
  split
  · simp only [List.length_cons]; omega
  · omega
theorem i_DecimalS (i : Int) (h0 : 0 ≤ i) (h1 : i < 100) (w : World) : Calls Tryz.prog 26 #[.int .i64 i] w fun e w' => e = .returned (.string (numS i)) ∧ w' = w := i_Decimal i h0 h1 w
theorem s_l01DecS {n : Int} {w : World} (h0 : -9223372036854775808 ≤ n) (h1 : n ≤ 9223372036854775807) : Calls Tryz.prog 154 #[.int .i64 n] w fun e w' => e = .returned (.string (numS n)) ∧ Below w.heap.size w w' := s_l01Dec h0 h1
set_option maxHeartbeats 400000 in
theorem i_PlanText_no {sz ac : Int} {w : World} (h : planOkT sz ac = false) : Calls Tryz.prog 24 #[.agg #[.int .i64 sz, .int .i64 ac]] w fun e w' => e = .returned (.tuple #[.string ⟨#[]⟩, .bool false]) ∧ Below w.heap.size w w' := by
  go_enter Tryz.func24, Tryz.ntmps24
  go_wp2_with (go_at_call 63; refine i_ValidPlanT.mono ?_; rintro e w1 ⟨rfl, hb⟩)
  go_ret2
  exact ⟨rfl, ((Below.refl w.heap.size w).alloc (Nat.le_refl _) _).trans (hb.mono (by simp))⟩
set_option maxHeartbeats 400000 in
theorem i_PlanText {sz ac : Int} {w : World} (h : planOkT sz ac = true) : Calls Tryz.prog 24 #[.agg #[.int .i64 sz, .int .i64 ac]] w fun e w' => e = .returned (.tuple #[.string (planS sz ac), .bool true]) ∧ Below w.heap.size w w' := by
  obtain ⟨r1, r2, r3, r4⟩ := plan_rng h
  have u1 := numS_size (n := sz) (by omega)
  have u2 := numS_size (n := ac) (by omega)
  have hs1 := fun w => run_string_add_sum (P := Tryz.prog) w (numS sz) ⟨#[47]⟩ (by have : ByteArray.size ⟨#[47]⟩ = 1 := rfl; omega)
  have hs2 := fun w => run_string_add_sum (P := Tryz.prog) w (numS sz ++ ⟨#[47]⟩) (numS ac) (by have : ByteArray.size ⟨#[47]⟩ = 1 := rfl; rw [ByteArray.size_append]; omega)
  clear u1 u2
  go_enter Tryz.func24, Tryz.ntmps24
  go_wp2_with fail
  refine i_ValidPlanT.mono ?_
  rintro e w1 ⟨rfl, hb⟩
  have c0 : w1.cell? ⟨w.heap.size, 0, none⟩ = some (.int .i64 sz) := ((Blk.new w _ _).below hb (by simp)).cell 0
  have c1 : w1.cell? ⟨w.heap.size, 1, none⟩ = some (.int .i64 ac) := ((Blk.new w _ _).below hb (by simp)).cell 1
  rw [h]
  go_wp2
  go_quiet ((go_at_call 26; exact Calls.quiet_of_same (i_DecimalS _ (by omega) (by omega) _)))
  go_wp2
  go_ret2
  exact ⟨rfl, below_drewN (((Below.refl w.heap.size w).alloc (Nat.le_refl _) _).trans (hb.mono (by simp))) _⟩

set_option maxHeartbeats 2000000 in
theorem s_l06Text {sz ac : Int} {g : Nat} {w : World} (h : planOkT sz ac = true) (hg : g < w.heap.size) (k0 : w.cell? ⟨g, 0, none⟩ = some (.int .i64 sz)) (k1 : w.cell? ⟨g, 1, none⟩ = some (.int .i64 ac)) :
    Calls Tryz.prog 159 #[.pointer (some ⟨g, 0, none⟩)] w fun e w' => e = .returned (.string (planS sz ac)) ∧ Below w.heap.size w w' := by
  obtain ⟨r1, r2, r3, r4⟩ := plan_rng h
  have u1 := numS_size (n := sz) (by omega)
  have u2 := numS_size (n := ac) (by omega)
  have hs1 := fun w => run_string_add_sum (P := Tryz.prog) w (numS sz) ⟨#[47]⟩ (by have : ByteArray.size ⟨#[47]⟩ = 1 := rfl; omega)
  have hs2 := fun w => run_string_add_sum (P := Tryz.prog) w (numS sz ++ ⟨#[47]⟩) (numS ac) (by have : ByteArray.size ⟨#[47]⟩ = 1 := rfl; rw [ByteArray.size_append]; omega)
  clear u1 u2
  go_enter Tryz.func159, Tryz.ntmps159
  go_wp2
  go_region_held3 (fun w' => w'.cell? ⟨g, 0, none⟩ = some (.int .i64 sz) ∧ w'.cell? ⟨g, 1, none⟩ = some (.int .i64 ac)) (first | assumption | go_keep)
    (first
      | (have _t := T2; go_at_call 154; refine (s_l01DecS (n := sz) (by omega) (by omega)).mono ?_; rintro e w3 ⟨rfl, hb3⟩; have K3 : w3.cell? ⟨g, 0, none⟩ = some (.int .i64 sz) ∧ w3.cell? ⟨g, 1, none⟩ = some (.int .i64 ac) := ⟨(hb3.cell hg2).trans K2.1, (hb3.cell hg2).trans K2.2⟩; have B3 : Below w.heap.size w w3 := B2.trans (hb3.mono B2.size))
      | (have _t := T1; go_at_call 154; refine (s_l01DecS (n := ac) (by omega) (by omega)).mono ?_; rintro e w3 ⟨rfl, hb3⟩; have K3 : w3.cell? ⟨g, 0, none⟩ = some (.int .i64 sz) ∧ w3.cell? ⟨g, 1, none⟩ = some (.int .i64 ac) := ⟨(hb3.cell hg1).trans K1.1, (hb3.cell hg1).trans K1.2⟩; have B3 : Below w.heap.size w w3 := B1.trans (hb3.mono B1.size))
      | (go_at_call 154; refine (s_l01DecS (n := sz) (by omega) (by omega)).mono ?_; rintro e w1 ⟨rfl, hb1⟩; have T1 : True := trivial; have K1 : w1.cell? ⟨g, 0, none⟩ = some (.int .i64 sz) ∧ w1.cell? ⟨g, 1, none⟩ = some (.int .i64 ac) := ⟨(hb1.cell hg).trans k0, (hb1.cell hg).trans k1⟩; have B1 : Below w.heap.size w w1 := below_undrew hb1; have hg1 : g < w1.heap.size := Nat.lt_of_lt_of_le hg B1.size)
      | (go_at_call 154; refine (s_l01DecS (n := ac) (by omega) (by omega)).mono ?_; rintro e w2 ⟨rfl, hb2⟩; have T2 : True := trivial; have K2 : w2.cell? ⟨g, 0, none⟩ = some (.int .i64 sz) ∧ w2.cell? ⟨g, 1, none⟩ = some (.int .i64 ac) := ⟨(hb2.cell hg).trans k0, (hb2.cell hg).trans k1⟩; have B2 : Below w.heap.size w w2 := below_undrew hb2; have hg2 : g < w2.heap.size := Nat.lt_of_lt_of_le hg B2.size))
  all_goals
    go_wp2
    go_ret
    exact ⟨rfl, B3⟩
end Go.Proofs.YtnpccnhamohnkaaGreatDoor
