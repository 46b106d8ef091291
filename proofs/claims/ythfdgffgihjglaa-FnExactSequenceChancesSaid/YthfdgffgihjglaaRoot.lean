/-
  Contracts of RootPower: the program's and the reference's.
-/
import Derived.Test.YthfdgffgihjglaaMean
import Derived.Test.YthfdgffgihjglaaSqrt
import Derived.Deep.QuietTactic
import Derived.BigQuiet
namespace Go.Proofs.Ythfdgffgihjglaa
open Go.RowKit Fl Mem
set_option linter.unusedVariables false
set_option maxRecDepth 100000

/-- The squares of numbers. -/
def sqs (xs : List Nat) : List Nat := xs.map fun x => fb .mul .f32 x x
theorem sqs_len (xs : List Nat) : (sqs xs).length = xs.length := by simp [sqs]
theorem sqs_take {xs : List Nat} {k x : Nat} (h : xs[k]? = some x) : sqs (xs.take (k + 1)) = sqs (xs.take k) ++ [fb .mul .f32 x x] := by unfold sqs; rw [take_eq h, List.map_append]; rfl
theorem sqs_cn {xs ys : List Nat} (h : xs.map (cn .f32) = ys.map (cn .f32)) : sqs xs = sqs ys := by
  unfold sqs
  have e : ∀ l : List Nat, l.map (fun x => fb .mul .f32 x x) = (l.map (cn .f32)).map (fun x => fb .mul .f32 x x) := by
    intro l
    rw [List.map_map]
    congr 1
    funext x
    exact (fb_cn _ _ _ _).symm
  rw [e, h, ← e]
theorem own_snoc {w : World} {b : Nat} {t : TypeId} {v : Value} {k z : Nat} {zs : List Nat} (h : w.ownsRow b t 1 v k (fl .f32 zs ++ [.float .f32 z])) : w.ownsRow b t 1 v k (fl .f32 (zs ++ [z])) := by
  rw [fl, List.map_append]; exact h

theorem sqrt_calls (w : World) (x : Nat) : Calls Try.prog 115 #[.float .f64 x] w fun e w' => ∃ z, e = .returned (.float .f64 z) ∧ Hid (cn .f64 z = sq x) ∧ ∃ m, w' = w.drewN m := by
  have hs := fun (x : Nat) (w : World) => run_call_sqrt (P := Try.prog) (f := 140) Try.func140 (by kernel_rfl) (by kernel_rfl) (by kernel_rfl) (by rfl) x w
  go_enter Try.func115, Try.ntmps115
  go_wp2
  go_ret
  exact ⟨_, rfl, hide (cn_sqR _ _), _, rfl⟩

theorem i_RootNumber (w : World) (x : Nat) : Calls Try.prog 69 #[.float .f32 x] w fun e w' => ∃ z, e = .returned (.float .f32 z) ∧ Hid (cn .f32 z = rootOf x) ∧ ∃ m, w' = w.drewN m := by
  go_enter Try.func69, Try.ntmps69
  go_wp2_with (go_at_call 115; refine (sqrt_calls _ _).mono ?_; rintro e w' ⟨z, rfl, hz, m', rfl⟩)
  go_ret
  refine ⟨_, rfl, hide ?_, _, rfl⟩
  have hz2 : cn .f64 z = sq (wide x) := by rw [hz.out, ← sq_cn, cn_cvR]
  rw [cn_cvR64 (narOk_cn.1 (by rw [hz2]; exact narOk_sqrt x)), ← nar_cn, hz2]; rfl
theorem s_l01Narrow (w : World) (x z : Nat) (hz : cn .f64 z = sq (wide x)) : Calls Try.prog 108 #[.float .f64 z] w fun e w' => ∃ z, e = .returned (.float .f32 z) ∧ Hid (cn .f32 z = rootOf x) ∧ ∃ m, w' = w.drewN m := by
  go_enter Try.func108, Try.ntmps108
  go_wp2
  go_ret
  refine ⟨_, rfl, hide ?_, _, rfl⟩
  rw [cn_cvR64 (narOk_cn.1 (by rw [hz]; exact narOk_sqrt x)), ← nar_cn, hz]; rfl
theorem i_ifFin {x : Nat} {w : World} {R : Nat} (hR : cn .f32 x = R) :
    Calls Try.prog 75 #[.float .f32 x] w fun e w' => ∃ z, e = .returned (.tuple #[.float .f32 z, .bool (fin .f32 R)]) ∧ Hid (cn .f32 z = if fin .f32 R = true then R else 0) ∧ ∃ m, w' = w.drewN m := by
  refine i_ifFinite.mono ?_
  rintro e w' ⟨rfl, h⟩
  subst hR
  rw [fin_cn]
  refine ⟨_, rfl, hide ?_, h⟩
  cases fin .f32 x
  · exact cn_zero
  · rfl
theorem map_cn_cn (zs : List Nat) : (zs.map (cn .f32)).map (cn .f32) = zs.map (cn .f32) := by
  rw [List.map_map]; congr 1; funext x; exact cn_cn _ _
theorem fmean_map_cn (zs : List Nat) : fmean (zs.map (cn .f32)) = fmean zs := fmean_cn (map_cn_cn zs)
theorem root_eq {zs ys : List Nat} {z3 z4 : Nat} (h : zs.map (cn .f32) = ys) (h3 : cn .f32 z3 = fmean zs) (h4 : cn .f32 z4 = rootOf z3) : cn .f32 z4 = rootOf (fmean ys) := by
  rw [h4, ← rootOf_cn, h3, ← h, fmean_map_cn]

/-- What RootPower returns. -/
def rpOk (xs : List Nat) : Bool := isSig xs && fin .f32 (rootOf (fmean (sqs xs)))
def rpR (xs : List Nat) : Nat := if rpOk xs = true then rootOf (fmean (sqs xs)) else 0
theorem rpOk_cn {xs ys : List Nat} (h : xs.map (cn .f32) = ys.map (cn .f32)) (hl : isSig xs = isSig ys) : rpOk xs = rpOk ys := by unfold rpOk; rw [sqs_cn h, hl]

end Go.Proofs.Ythfdgffgihjglaa
