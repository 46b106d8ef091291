/-
  Contracts of 'valid' for lives, laws, chains, plans: the program's.
-/
import Derived.Test.YtnpccnhamohnkaaDoorSameD
import Derived.BigGuardPart
namespace Go.Proofs.YtnpccnhamohnkaaDoor
open Go.RowKit Fl Mem
set_option linter.unusedVariables false
set_option maxRecDepth 100000

def geF (x c : Nat) : Bool := FloatKind.f32.format.order x c == some .gt || FloatKind.f32.format.order x c == some .eq
def leF (x c : Nat) : Bool := FloatKind.f32.format.order x c == some .lt || FloatKind.f32.format.order x c == some .eq
def zeroF (x : Nat) : Bool := FloatKind.f32.format.order x 0 == some .eq
def leastF (x : Nat) : Bool := fin .f32 x && geF x 0
def livesOk (xs : List (Nat × Bool)) : Bool := decide (1 ≤ xs.length) && (decide (xs.length ≤ 48) && xs.all fun p => pos p.1)
def lawOk (kd : Int) (sh sc : Nat) : Bool := inB kd 0 3 && (geF sh 981668463 && (leF sh 1148846080 && (geF sc 981668463 && leF sc 1148846080)))
def planOk (sz ac : Int) : Bool := inB sz 1 40 && inB ac 0 sz
/-- Are the numbers of a chain from a state to itself nought. -/
def diagOk (rs : List Nat) (s : Nat) : Bool := (List.range s).all fun j => zeroF (rs.getD (j * s + j) 0)
def chainOk (st : Int) (rs : List Nat) : Bool := inB st 1 8 && (decide ((rs.length : Int) = st * st) && (rs.all leastF && diagOk rs st.toNat))

set_option maxHeartbeats 2000000 in
theorem i_ValidLaw {kd : Int} {sh sc : Nat} {w : World} : Calls Tryd.prog 16 #[.agg #[.int .i64 kd, .float .f32 sh, .float .f32 sc]] w fun e w' => e = .returned (.bool (lawOk kd sh sc)) ∧ Below w.heap.size w w' := by
  go_enter Tryd.func16, Tryd.ntmps16
  go_wp2_with (go_at_call 28; refine (i_within _ _ _ _).mono ?_; rintro e w' ⟨rfl, rfl⟩)
  all_goals
    go_ret
    exact ⟨ret_bool (by unfold lawOk geF leF; rw [Bool.eq_iff_iff]; simp [*]), (by repeat (first | exact Below.refl _ _ | exact below_drewN (by assumption) _ | refine below_drewN ?_ _ | refine Below.alloc ?_ (by first | (simp; done) | (simp; omega)) _ | assumption))⟩

theorem diag_lt {k s : Nat} (h : k < s) : k * s + k < s * s := by
  have := Nat.mul_le_mul_right s (show k + 1 ≤ s from h)
  rw [Nat.add_mul, Nat.one_mul] at this
  omega
theorem diagOk_iff {rs : List Nat} {s : Nat} : diagOk rs s = true ↔ ∀ j, j < s → zeroF (rs.getD (j * s + j) 0) = true := by
  unfold diagOk
  simp [List.all_eq_true, List.mem_range]
theorem chainOk_len {st : Int} {rs : List Nat} (h : ¬ (rs.length : Int) = st * st) : chainOk st rs = false := by
  unfold chainOk
  rw [decide_eq_false h]; simp
end Go.Proofs.YtnpccnhamohnkaaDoor
