/-
  The library's two errors, out of what a row lists.
-/
import Derived.Test.YtlpfnpcnidaijaaDoorVal
import Derived.Stop.LaidErr
namespace Go.Proofs.YtlpfnpcnidaijaaDoor
open Go.RowKit Mem
set_option linter.unusedVariables false

theorem err_star : "*" ++ "errors.errorString" = "*errors.errorString" := by decide
theorem err_row (u : TypeId) (h : Tryd.prog.typeName? 3 u = some "*errors.errorString") : u = 97 :=
  typeName_ptr_named (nm := "errors.errorString") (by rw [err_star]; kernel_rfl) (by kernel_rfl) (by decide) u (by rw [err_star]; exact h)
theorem err_cell {n : String} {g : Nat} {text : List UInt8} {r : List (String × DataW Unit)} {W : World} (hg : Tryd.prog.globalNamed n = some g) (ht : (Tryd.prog.globals[g]?).map (·.type) = some 60)
    (h : laidMet Tryd.prog ((n, .iface "*errors.errorString" (.ptr (.agg [.lit (.string text)]))) :: r) W) : ∃ te pe, W.cell? ⟨g, 0, none⟩ = some (.iface te pe) := by
  obtain ⟨a0, s0, hv0, -, -, -⟩ := laid_sentinel h hg ht Tryd.underlying60 err_row Tryd.underlying97 Tryd.underlying99 rfl rfl Tryd.underlying9 (by kernel_rfl) (by kernel_rfl)
  exact ⟨_, _, by have h0 := World.var?_cell hg hv0 0; simpa using h0⟩
theorem errs_of {W : World} {t1 t2 : List UInt8} {r1 r2 : List (String × DataW Unit)}
    (h1 : laidMet Tryd.prog (("strconv.ErrRange", .iface "*errors.errorString" (.ptr (.agg [.lit (.string t1)]))) :: r1) W)
    (h2 : laidMet Tryd.prog (("strconv.ErrSyntax", .iface "*errors.errorString" (.ptr (.agg [.lit (.string t2)]))) :: r2) W) : Errs W :=
  ⟨err_cell (show Tryd.prog.globalNamed "strconv.ErrSyntax" = some 2 by kernel_rfl) (by kernel_rfl) h2, err_cell (show Tryd.prog.globalNamed "strconv.ErrRange" = some 3 by kernel_rfl) (by kernel_rfl) h1⟩
end Go.Proofs.YtlpfnpcnidaijaaDoor
