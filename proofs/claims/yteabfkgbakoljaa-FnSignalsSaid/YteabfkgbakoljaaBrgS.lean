/-
  BearingRates: the reference's side; the law takes both.
-/
import Derived.Test.YteabfkgbakoljaaPhN
namespace Go.Proofs.Yteabfkgbakoljaa
open Go.RowKit Mem Fl
set_option linter.unusedVariables false
set_option maxRecDepth 100000

theorem own3 {W : World} {g base : Nat} {t : TypeId} {a b c : Nat} (hg : g = W.heap.size) (hb : base ≤ g) {M : Nat} : ((W.alloc (.cells #[.float .f32 a, .float .f32 b, .float .f32 c] t)).drewN M).ownsRow base t 1 (.slice (some ⟨g, 0, none⟩) 3 3) 3 (fl .f32 [a, b, c]) :=
  own_drewN (own_of_blk (xs := fl .f32 [a, b, c]) (blk_new' W g t _ hg) hb rfl (by simp [maxLen])) M
theorem i_Br {n : Int} {R a : Nat} {w : World} :
    Calls Try.prog 36 #[.int .i64 n, .float .f32 R, .float .f32 a] w fun e w' => ∃ v zs, e = .returned (.tuple #[v, .bool (brO n R a)]) ∧ w'.ownsRow w.heap.size 27 1 v zs.length (fl .f32 zs) ∧ Hid (zs.map (cn .f32) = brR n R a) ∧ Below w.heap.size w w' :=
  i_BearingRates.mono fun e w' ⟨⟨v, zs, h1, h2, h3⟩, hb⟩ => ⟨v, zs, h1, h2, h3, hb⟩
end Go.Proofs.Yteabfkgbakoljaa
