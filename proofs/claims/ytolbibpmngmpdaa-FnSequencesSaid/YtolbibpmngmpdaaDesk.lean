/-
  Contracts of the helpers of the laws on desks: marks; NewDesk, the program's and the reference's.
-/
import Derived.Test.YtolbibpmngmpdaaLife
namespace Go.Proofs.Ytolbibpmngmpdaa
open Go.RowKit Fl Mem
set_option linter.unusedVariables false
set_option maxRecDepth 100000

theorem own_of_blk2 {w : World} {base g n : Nat} {t : TypeId} {xs : List Value} (h : Blk w g t xs.toArray) (hb : base ≤ g) (hl : xs.length = n * 2) (hn : n ≤ maxLen) : w.ownsRow base t 2 (.slice (some ⟨g, 0, none⟩) n n) n xs :=
  ⟨by omega, .inr ⟨g, n, xs.toArray, rfl, hb, h, Nat.le_refl _, hn, by simp [hl], by rw [List.take_of_length_le (by simp; omega)]⟩⟩

theorem blk_new' (w : World) (g : Nat) (t : TypeId) (cs : Array Value) (hg : g = w.heap.size) : Blk (w.alloc (.cells cs t)) g t cs := by subst hg; exact Blk.new w t cs
def desk0L : List (Nat × Bool) := [(1065353216, true), (1073741824, false), (1082130432, true)]
def desk0R : List Nat := [0, 1065353216, 1077936128, 0]
abbrev desk0 (g1 g2 : Nat) : Value := deskV (some ⟨g1, 0, none⟩) 3 3 0 1065353216 1082130432 2 (some ⟨g2, 0, none⟩) 4 4 2 0

theorem grown_al {w w2 : World} {o : Obj} {row : Option Nat} (hg : (w.alloc o).grownBy w2 row) : w.grownBy w2 row :=
  ⟨hg.os, hg.tape, hg.output, Nat.le_trans (by simp) hg.size, fun i hi hne => (hg.block i (by simp; omega) hne).trans (Below.heap_alloc w o i hi)⟩

theorem blk_below {w w' : World} {g : Nat} {t : TypeId} {cs : Array Value} (h : Blk w g t cs) (hb : Below w.heap.size w w') : Blk w' g t cs := Blk.below h hb h.lt
end Go.Proofs.Ytolbibpmngmpdaa
