/-
  strconv.FormatInt at base 16 of numbers below 2^32, and the texts of 32-bit numbers: both sides' digits.
-/
import Derived.Test.YtempapfphliniaaDoorHex
import Derived.Test.YtempapfphliniaaDoorSame
namespace Go.Proofs.YtempapfphliniaaDoor
open Go.RowKit Mem Fl
set_option linter.unusedVariables false
set_option maxRecDepth 100000

theorem zeros16 {w : World} (ht : w.cell? ⟨6, 15, none⟩ = some (.int .u8 4)) : Calls Tryd.prog 130 #[.int .u64 16] w fun e w' => e = .returned (.int .i64 4) ∧ w' = w := by
  have h15 : IntKind.u64.wrap (bits BinOp.and IntKind.u64 16 (IntKind.u64.wrap (-16)) * 285870213051353865) / 288230376151711744 = 15 := by kernel_rfl
  go_enter Tryd.func130, Tryd.ntmps130
  go_wp2
  go_ret
  exact ⟨rfl, rfl⟩
end Go.Proofs.YtempapfphliniaaDoor
