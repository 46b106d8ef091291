/-
  PlanText: both sides.
-/
import Derived.Test.YthocahpemjijhaaDoorSmall
import Derived.Deep.RegionHeld3
import Derived.BigQuiet
import Derived.Laws.Concat
namespace Go.Proofs.YthocahpemjijhaaDoor
open Go.RowKit Mem
set_option linter.unusedVariables false
set_option maxRecDepth 100000

theorem ret_bool {a b : Bool} (h : a = b) : Ending.returned (.bool a) = .returned (.bool b) := by rw [h]
theorem ret_int {k : IntKind} {a b : Int} (h : a = b) : Ending.returned (.int k a) = .returned (.int k b) := by rw [h]

def inB (a lo hi : Int) : Bool := decide (lo ≤ a) && decide (a ≤ hi)
theorem inB_iff {a lo hi : Int} : inB a lo hi = true ↔ lo ≤ a ∧ a ≤ hi := by unfold inB; simp
theorem i_within (a lo hi : Int) (w : World) : Calls Tryd.prog 29 #[.int .i64 a, .int .i64 lo, .int .i64 hi] w fun e w' => e = .returned (.bool (inB a lo hi)) ∧ w = w' := by
  by_cases h : lo ≤ a
  · go_enter Tryd.func29, Tryd.ntmps29
    go_wp2
    go_ret
    exact ⟨ret_bool (by unfold inB; rw [decide_eq_true h]; rfl), rfl⟩
  · go_enter Tryd.func29, Tryd.ntmps29
    go_wp2
    go_ret
    exact ⟨ret_bool (by unfold inB; rw [decide_eq_false (by omega)]; rfl), rfl⟩
theorem s_l00In (a lo hi : Int) (w : World) : Calls Tryd.prog 46 #[.int .i64 a, .int .i64 lo, .int .i64 hi] w fun e w' => e = .returned (.bool (inB a lo hi)) ∧ w = w' := by
  by_cases h : lo ≤ a
  · go_enter Tryd.func46, Tryd.ntmps46
    go_wp2
    go_ret
    exact ⟨ret_bool (by unfold inB; rw [decide_eq_true h]; rfl), rfl⟩
  · go_enter Tryd.func46, Tryd.ntmps46
    go_wp2
    go_ret
    exact ⟨ret_bool (by unfold inB; rw [decide_eq_false (by omega)]; rfl), rfl⟩
def planOk (sz ac : Int) : Bool := inB sz 1 40 && inB ac 0 sz
set_option maxHeartbeats 1000000 in
theorem i_ValidPlan {a b : Int} {w : World} : Calls Tryd.prog 10 #[.agg #[.int .i64 a, .int .i64 b]] w fun e w' => e = .returned (.bool (planOk a b)) ∧ Below w.heap.size w w' := by
  cases h1 : inB a 1 40 with
  | false =>
    go_enter Tryd.func10, Tryd.ntmps10
    go_wp2_with (go_at_call 29; refine (i_within _ _ _ _).mono ?_; rintro e w' ⟨rfl, rfl⟩)
    go_ret
    exact ⟨ret_bool (by unfold planOk; rw [h1]; rfl), (by repeat (first | exact Below.refl _ _ | exact below_drewN (by assumption) _ | refine below_drewN ?_ _ | refine Below.alloc ?_ (by first | (simp; done) | (simp; omega)) _ | assumption))⟩
  | true =>
    go_enter Tryd.func10, Tryd.ntmps10
    go_wp2_with (go_at_call 29; refine (i_within _ _ _ _).mono ?_; rintro e w' ⟨rfl, rfl⟩)
    go_ret
    exact ⟨ret_bool (by unfold planOk; rw [h1]; rfl), (by repeat (first | exact Below.refl _ _ | exact below_drewN (by assumption) _ | refine below_drewN ?_ _ | refine Below.alloc ?_ (by first | (simp; done) | (simp; omega)) _ | assumption))⟩
theorem s_l00In_eq {a lo hi : Int} {b : Bool} {w : World} (h : inB a lo hi = b) : Calls Tryd.prog 46 #[.int .i64 a, .int .i64 lo, .int .i64 hi] w fun e w' => e = .returned (.bool b) ∧ w' = w :=
  (s_l00In _ _ _ _).mono fun _ _ k => ⟨by rw [k.1, h], k.2.symm⟩
set_option maxHeartbeats 1000000 in
theorem s_l06Is {g o : Nat} {sz ac : Int} {w : World} (h1 : w.cell? ⟨g, o, none⟩ = some (.int .i64 sz)) (h2 : w.cell? ⟨g, o + 1, none⟩ = some (.int .i64 ac)) :
    Calls Tryd.prog 35 #[.pointer (some ⟨g, o, none⟩)] w fun e w' => e = .returned (.bool (planOk sz ac)) ∧ Below w.heap.size w w' := by
  cases hs : inB sz 1 40 with
  | false =>
    go_enter Tryd.func35, Tryd.ntmps35
    go_wp2
    go_quiet ((go_at_call 46; first | exact Calls.quiet_of_same (s_l00In_eq hs) | exact Calls.quiet_of_same (s_l00In_eq rfl)))
    all_goals
      go_wp2
      go_ret
      exact ⟨ret_bool (by unfold planOk; rw [hs]; rfl), (by repeat (first | exact Below.refl _ _ | exact below_drewN (by assumption) _ | refine below_drewN ?_ _ | refine Below.alloc ?_ (by first | (simp; done) | (simp; omega)) _ | assumption))⟩
  | true =>
    go_enter Tryd.func35, Tryd.ntmps35
    go_wp2
    go_quiet ((go_at_call 46; first | exact Calls.quiet_of_same (s_l00In_eq hs) | exact Calls.quiet_of_same (s_l00In_eq rfl)))
    all_goals
      go_wp2
      go_ret
      exact ⟨ret_bool (by unfold planOk; rw [hs]; rfl), (by repeat (first | exact Below.refl _ _ | exact below_drewN (by assumption) _ | refine below_drewN ?_ _ | refine Below.alloc ?_ (by first | (simp; done) | (simp; omega)) _ | assumption))⟩

theorem below_undrew {w w' : World} (h : Below w.drew.heap.size w.drew w') : Below w.heap.size w w' := ⟨h.os, h.tape, h.output, h.size, h.block⟩
theorem plan_rng {sz ac : Int} (h : planOk sz ac = true) : 0 ≤ sz ∧ sz < 100 ∧ 0 ≤ ac ∧ ac < 100 := by
  unfold planOk inB at h
  simp at h
  omega
/-- The text of a number. -/
def numS (n : Int) : ByteArray := ⟨(Lib.itoa n).toArray⟩
def planS (sz ac : Int) : ByteArray := (numS sz ++ ⟨#[47]⟩) ++ numS ac
theorem numS_size {n : Int} (h : n.natAbs ≤ 9223372036854775808) : (numS n).size ≤ 20 := by
  show (Lib.itoa n).toArray.size ≤ 20
  rw [List.size_toArray, itoa_of]
  have h1 := dec_len n.natAbs
  have h2 := nDigits_le h
  split
  · simp only [List.length_cons]; omega
  · omega
theorem i_DecimalS (i : Int) (h0 : 0 ≤ i) (h1 : i < 100) (w : World) : Calls Tryd.prog 32 #[.int .i64 i] w fun e w' => e = .returned (.string (numS i)) ∧ w' = w := i_Decimal i h0 h1 w
theorem s_l01DecS {n : Int} {w : World} (h0 : -9223372036854775808 ≤ n) (h1 : n ≤ 9223372036854775807) : Calls Tryd.prog 47 #[.int .i64 n] w fun e w' => e = .returned (.string (numS n)) ∧ Below w.heap.size w w' := s_l01Dec h0 h1
set_option maxHeartbeats 400000 in
theorem i_PlanText_no {sz ac : Int} {w : World} (h : planOk sz ac = false) : Calls Tryd.prog 15 #[.agg #[.int .i64 sz, .int .i64 ac]] w fun e w' => e = .returned (.tuple #[.string ⟨#[]⟩, .bool false]) ∧ Below w.heap.size w w' := by
  go_enter Tryd.func15, Tryd.ntmps15
  go_wp2_with (go_at_call 10; refine i_ValidPlan.mono ?_; rintro e w1 ⟨rfl, hb⟩)
  go_ret2
  exact ⟨rfl, ((Below.refl w.heap.size w).alloc (Nat.le_refl _) _).trans (hb.mono (by simp))⟩
set_option maxHeartbeats 400000 in
theorem i_PlanText {sz ac : Int} {w : World} (h : planOk sz ac = true) : Calls Tryd.prog 15 #[.agg #[.int .i64 sz, .int .i64 ac]] w fun e w' => e = .returned (.tuple #[.string (planS sz ac), .bool true]) ∧ Below w.heap.size w w' := by
  obtain ⟨r1, r2, r3, r4⟩ := plan_rng h
  have u1 := numS_size (n := sz) (by omega)
  have u2 := numS_size (n := ac) (by omega)
  have hs1 := fun w => run_string_add_sum (P := Tryd.prog) w (numS sz) ⟨#[47]⟩ (by have : ByteArray.size ⟨#[47]⟩ = 1 := rfl; omega)
  have hs2 := fun w => run_string_add_sum (P := Tryd.prog) w (numS sz ++ ⟨#[47]⟩) (numS ac) (by have : ByteArray.size ⟨#[47]⟩ = 1 := rfl; rw [ByteArray.size_append]; omega)
  clear u1 u2
  go_enter Tryd.func15, Tryd.ntmps15
  go_wp2_with fail
  refine i_ValidPlan.mono ?_
  rintro e w1 ⟨rfl, hb⟩
  have c0 : w1.cell? ⟨w.heap.size, 0, none⟩ = some (.int .i64 sz) := ((Blk.new w _ _).below hb (by simp)).cell 0
  have c1 : w1.cell? ⟨w.heap.size, 1, none⟩ = some (.int .i64 ac) := ((Blk.new w _ _).below hb (by simp)).cell 1
  rw [h]
  go_wp2
  go_quiet ((go_at_call 32; exact Calls.quiet_of_same (i_DecimalS _ (by omega) (by omega) _)))
  go_wp2
  go_ret2
  exact ⟨rfl, below_drewN (((Below.refl w.heap.size w).alloc (Nat.le_refl _) _).trans (hb.mono (by simp))) _⟩

set_option maxHeartbeats 2000000 in
theorem s_l06Text {sz ac : Int} {g : Nat} {w : World} (h : planOk sz ac = true) (hg : g < w.heap.size) (k0 : w.cell? ⟨g, 0, none⟩ = some (.int .i64 sz)) (k1 : w.cell? ⟨g, 1, none⟩ = some (.int .i64 ac)) :
    Calls Tryd.prog 36 #[.pointer (some ⟨g, 0, none⟩)] w fun e w' => e = .returned (.string (planS sz ac)) ∧ Below w.heap.size w w' := by
  obtain ⟨r1, r2, r3, r4⟩ := plan_rng h
  have u1 := numS_size (n := sz) (by omega)
  have u2 := numS_size (n := ac) (by omega)
  have hs1 := fun w => run_string_add_sum (P := Tryd.prog) w (numS sz) ⟨#[47]⟩ (by have : ByteArray.size ⟨#[47]⟩ = 1 := rfl; omega)
  have hs2 := fun w => run_string_add_sum (P := Tryd.prog) w (numS sz ++ ⟨#[47]⟩) (numS ac) (by have : ByteArray.size ⟨#[47]⟩ = 1 := rfl; rw [ByteArray.size_append]; omega)
  clear u1 u2
  go_enter Tryd.func36, Tryd.ntmps36
  go_wp2
  go_region_held3 (fun w' => w'.cell? ⟨g, 0, none⟩ = some (.int .i64 sz) ∧ w'.cell? ⟨g, 1, none⟩ = some (.int .i64 ac)) (first | assumption | go_keep)
    (first
      | (have _t := T2; go_at_call 47; refine (s_l01DecS (n := sz) (by omega) (by omega)).mono ?_; rintro e w3 ⟨rfl, hb3⟩; have K3 : w3.cell? ⟨g, 0, none⟩ = some (.int .i64 sz) ∧ w3.cell? ⟨g, 1, none⟩ = some (.int .i64 ac) := ⟨(hb3.cell hg2).trans K2.1, (hb3.cell hg2).trans K2.2⟩; have B3 : Below w.heap.size w w3 := B2.trans (hb3.mono B2.size))
      | (have _t := T1; go_at_call 47; refine (s_l01DecS (n := ac) (by omega) (by omega)).mono ?_; rintro e w3 ⟨rfl, hb3⟩; have K3 : w3.cell? ⟨g, 0, none⟩ = some (.int .i64 sz) ∧ w3.cell? ⟨g, 1, none⟩ = some (.int .i64 ac) := ⟨(hb3.cell hg1).trans K1.1, (hb3.cell hg1).trans K1.2⟩; have B3 : Below w.heap.size w w3 := B1.trans (hb3.mono B1.size))
      | (go_at_call 47; refine (s_l01DecS (n := sz) (by omega) (by omega)).mono ?_; rintro e w1 ⟨rfl, hb1⟩; have T1 : True := trivial; have K1 : w1.cell? ⟨g, 0, none⟩ = some (.int .i64 sz) ∧ w1.cell? ⟨g, 1, none⟩ = some (.int .i64 ac) := ⟨(hb1.cell hg).trans k0, (hb1.cell hg).trans k1⟩; have B1 : Below w.heap.size w w1 := below_undrew hb1; have hg1 : g < w1.heap.size := Nat.lt_of_lt_of_le hg B1.size)
      | (go_at_call 47; refine (s_l01DecS (n := ac) (by omega) (by omega)).mono ?_; rintro e w2 ⟨rfl, hb2⟩; have T2 : True := trivial; have K2 : w2.cell? ⟨g, 0, none⟩ = some (.int .i64 sz) ∧ w2.cell? ⟨g, 1, none⟩ = some (.int .i64 ac) := ⟨(hb2.cell hg).trans k0, (hb2.cell hg).trans k1⟩; have B2 : Below w.heap.size w w2 := below_undrew hb2; have hg2 : g < w2.heap.size := Nat.lt_of_lt_of_le hg B2.size))
  all_goals
    go_wp2
    go_ret
    exact ⟨rfl, B3⟩
set_option maxHeartbeats 400000 in
theorem s_PlanText {sz ac : Int} {w : World} (h : planOk sz ac = true) : Calls Tryd.prog 18 #[.agg #[.int .i64 sz, .int .i64 ac]] w fun e w' => e = .returned (.tuple #[.string (planS sz ac), .bool true]) ∧ Below w.heap.size w w' := by
  go_enter Tryd.func18, Tryd.ntmps18
  go_wp2_with fail
  refine (s_l06Is (sz := sz) (ac := ac) ((Blk.new w _ _).cell 0) ((Blk.new w _ _).cell 1)).mono ?_
  rintro e w1 ⟨rfl, hb⟩
  have hb' := ((Below.refl w.heap.size w).alloc (Nat.le_refl _) _).trans (hb.mono (by simp))
  have c0 : w1.cell? ⟨w.heap.size, 0, none⟩ = some (.int .i64 sz) := ((Blk.new w _ _).below hb (by simp)).cell 0
  have c1 : w1.cell? ⟨w.heap.size, 1, none⟩ = some (.int .i64 ac) := ((Blk.new w _ _).below hb (by simp)).cell 1
  have hz := hb.size
  simp at hz
  rw [h]
  go_wp2_with fail
  refine (s_l06Text h (by omega) c0 c1).mono ?_
  rintro e w2 ⟨rfl, hb2⟩
  go_wp2
  go_ret2
  exact ⟨rfl, hb'.trans (hb2.mono hb'.size)⟩
set_option maxHeartbeats 400000 in
theorem s_PlanText_no {sz ac : Int} {w : World} (h : planOk sz ac = false) : Calls Tryd.prog 18 #[.agg #[.int .i64 sz, .int .i64 ac]] w fun e w' => e = .returned (.tuple #[.string ⟨#[]⟩, .bool false]) ∧ Below w.heap.size w w' := by
  go_enter Tryd.func18, Tryd.ntmps18
  go_wp2_with fail
  refine (s_l06Is (sz := sz) (ac := ac) ((Blk.new w _ _).cell 0) ((Blk.new w _ _).cell 1)).mono ?_
  rintro e w1 ⟨rfl, hb⟩
  rw [h]
  go_wp2
  go_ret2
  exact ⟨rfl, ((Below.refl w.heap.size w).alloc (Nat.le_refl _) _).trans (hb.mono (by simp))⟩

end Go.Proofs.YthocahpemjijhaaDoor
