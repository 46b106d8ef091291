/-
  Contracts of 'valid' for desks: the program's last part, and the reference's.
-/
import Derived.Test.YtnpccnhamohnkaaDoorValid
import Derived.Deep.RegionHeld3
import Derived.BigQuiet
namespace Go.Proofs.YtnpccnhamohnkaaDoor
open Go.RowKit Fl Mem
set_option linter.unusedVariables false
set_option maxRecDepth 100000

def deskOk (xs : List (Nat × Bool)) (kd : Int) (sh sc : Nat) (st : Int) (rs : List Nat) (sz ac : Int) : Bool := livesOk xs && (lawOk kd sh sc && (chainOk st rs && planOk sz ac))

theorem livesOk_no {xs : List (Nat × Bool)} {k : Nat} {p : Nat × Bool} (h : xs[k]? = some p) (hp : pos p.1 = false) : livesOk xs = false := by
  unfold livesOk
  have : (xs.all fun p => pos p.1) = false := by
    rw [List.all_eq_false]
    exact ⟨p, List.mem_of_getElem? h, by simp [hp]⟩
  rw [this]; simp

set_option maxHeartbeats 2000000 in
theorem s_l02Law {g o : Nat} {kd : Int} {sh sc : Nat} {w : World} (h1 : w.cell? ⟨g, o, none⟩ = some (.int .i64 kd)) (h2 : w.cell? ⟨g, o + 1, none⟩ = some (.float .f32 sh)) (h3 : w.cell? ⟨g, o + 2, none⟩ = some (.float .f32 sc)) :
    Calls Tryd.prog 20 #[.pointer (some ⟨g, o, none⟩)] w fun e w' => e = .returned (.bool (lawOk kd sh sc)) ∧ Below w.heap.size w w' := by
  go_enter Tryd.func20, Tryd.ntmps20
  go_wp2_with (go_at_call 29; refine (s_l00In _ _ _ _).mono ?_; rintro e w' ⟨rfl, rfl⟩)
  all_goals
    go_ret
    exact ⟨ret_bool (by unfold lawOk geF leF; rw [Bool.eq_iff_iff]; simp [*]), (by repeat (first | exact Below.refl _ _ | exact below_drewN (by assumption) _ | refine below_drewN ?_ _ | refine Below.alloc ?_ (by first | (simp; done) | (simp; omega)) _ | assumption))⟩

theorem s_l00In_eq {a lo hi : Int} {b : Bool} {w : World} (h : inB a lo hi = b) : Calls Tryd.prog 29 #[.int .i64 a, .int .i64 lo, .int .i64 hi] w fun e w' => e = .returned (.bool b) ∧ w' = w :=
  (s_l00In _ _ _ _).mono fun _ _ k => ⟨by rw [k.1, h], k.2.symm⟩
theorem quiet_add {P : Program} {f : FuncId} {args : Array Value} {w : World} {a n : Nat} {v : Value}
    (h : Calls P f args (w.drewN (a + n)) fun e w' => e = .returned v ∧ ∃ m, w' = (w.drewN (a + n)).drewN m) :
    Calls P f args (w.drewN (a + n)) fun e w'' => e = .returned v ∧ ∃ m, w'' = w.drewN (a + m) :=
  h.mono fun _ _ ⟨he, m, hm⟩ => ⟨he, n + m, by rw [hm, World.drewN_drewN, Nat.add_assoc]⟩
theorem chain_end {xs : List Nat} {s : Nat} (hl : xs.length = s * s) :
    (∀ j, j < s * s → ∀ x, xs[j]? = some x → leastF x = true ∧ (j % (s + 1) = 0 → zeroF x = true)) ↔ (xs.all leastF && diagOk xs s) = true := by
  rw [Bool.and_eq_true, diagOk_iff, List.all_eq_true]
  constructor
  · intro h
    refine ⟨fun x hx => ?_, fun j hj => ?_⟩
    · obtain ⟨j, hj⟩ := List.getElem?_of_mem hx
      have hlt : j < s * s := by rw [← hl]; exact (List.getElem?_eq_some_iff.1 hj).1
      exact (h j hlt x hj).1
    · have hd := diag_lt hj
      have hlt : j * s + j < xs.length := by rw [hl]; exact hd
      have := (h _ hd _ (List.getElem?_eq_getElem hlt)).2 (by rw [show j * s + j = j * (s + 1) from by rw [Nat.mul_add, Nat.mul_one]]; exact Nat.mul_mod_left _ _)
      rwa [List.getD_eq_getElem?_getD, List.getElem?_eq_getElem hlt]
  · rintro ⟨h1, h2⟩ j hj x hx
    refine ⟨h1 x (List.mem_of_getElem? hx), fun hm => ?_⟩
    obtain ⟨q, rfl⟩ := Nat.dvd_of_mod_eq_zero hm
    have hq : q < s := by
      rcases Nat.lt_or_ge q s with h | h
      · exact h
      · have := Nat.mul_le_mul_left (s + 1) h
        rw [Nat.add_mul, Nat.one_mul] at this
        omega
    have := h2 q hq
    rw [show q * s + q = (s + 1) * q from by rw [Nat.add_mul, Nat.one_mul, Nat.mul_comm], List.getD_eq_getElem?_getD, hx] at this
    exact this

end Go.Proofs.YtnpccnhamohnkaaDoor
