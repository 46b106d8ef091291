/-
  Arguments opened: a law, a chain, a list of lives.
-/
import Derived.Test.YtempapfphliniaaDoorOpenS
namespace Go.Proofs.YtempapfphliniaaDoor.Opn
open Go.ChangeShapes Go.WideShapes Go.ChangeAt Go.RowKit Go.Joins Fl Mem
set_option linter.unusedVariables false
set_option maxRecDepth 100000

section
variable {H : Type} {enc : TypeId × Value → H} {w : World} {base : Nat} {spare : Nat → Bool} {held : Bool} {r : Reach} {b0 : Nat}
theorem open_law {v : Value} {d : DataW H} {ps : List MemPlace} (hv : Value.okWide Tryd.prog w r b0 34 v) (h : DataW.Trod enc Tryd.prog w base spare held 34 v d ps) :
    ∃ (kd : Int) (sh sc : Nat), v = .agg #[.int .i64 kd, .float .f32 sh, .float .f32 sc] ∧ (Lit.int .i64 kd).wf = true ∧ Wf .f32 sh ∧ Wf .f32 sc := by
  obtain ⟨c0, c1, c2, y0, y1, y2, m, rfl, rfl, rfl, hy0, hy1, hy2⟩ := open_agg3 Tryd.underlying34 (by kernel_rfl) (by kernel_rfl) hv h
  obtain ⟨a, ha, _, wa⟩ := DataW.trod_int Tryd.underlying2 hy0
  obtain ⟨b, hb, wb⟩ := trod_float Tryd.underlying32 hy1
  obtain ⟨c, hc, wc⟩ := trod_float Tryd.underlying32 hy2
  simp at ha hb hc
  exact ⟨a, b, c, by rw [ha, hb, hc], wa, wb, wc⟩
theorem open_chain {v : Value} {d : DataW H} {ps : List MemPlace} (hv : Value.okWide Tryd.prog w r b0 48 v) (h : DataW.Trod enc Tryd.prog w base spare held 48 v d ps) :
    ∃ (st : Int) (A : Option Addr) (n c : Nat) (xs : List Nat), v = .agg #[.int .i64 st, .slice A n c] ∧ (Lit.int .i64 st).wf = true ∧ Reads w w.heap.size 1 A n (fl .f32 xs) ∧ n ≤ c ∧ c ≤ maxLen ∧ ∀ a ∈ xs, Wf .f32 a := by
  obtain ⟨c0, c1, y0, y1, m, rfl, rfl, rfl, hy0, hy1⟩ := open_agg2 Tryd.underlying48 (by kernel_rfl) (by kernel_rfl) hv h
  obtain ⟨a, ha, _, wa⟩ := DataW.trod_int Tryd.underlying2 hy0
  obtain ⟨A, n, c, xs, e, hr, hn, hc, hw⟩ := open_fl' Tryd.underlying46 Tryd.underlying32 (by kernel_rfl) hy1
  simp at ha e
  exact ⟨a, A, n, c, xs, by rw [ha, e], wa, hr, hn, hc, hw⟩
end
end Go.Proofs.YtempapfphliniaaDoor.Opn
