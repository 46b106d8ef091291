/-
  A structure of the shelf, laid at this program: SlLaysE0.n41.
-/
import Derived.Shelf.SlLaysE0
import Derived.KernelRfl
import Derived.Test.YtjfmjeffmnjilaaProg
namespace Go.Proofs.Ytjfmjeffmnjilaa
open Go Go.Proofs Go.Shelf
set_option maxRecDepth 100000

def renCloneI : Go.Shelf.Ren :=
{
  f := fun x ↦
    match x with
    | 41 => 102
    | n => n,
  t := fun x ↦
    match x with
    | 22 => 28
    | 23 => 2
    | 4 => 4
    | n => n,
  g := fun x ↦
    have n := x;
    n }
theorem laysCloneI : Go.Proofs.SlLaysE0.n41 Try.prog renCloneI :=
{ mixed := Eq.refl Bool.true,
  f41 :=
    ⟨"slices.Clone[[]int64,int64]", by decide, Eq.trans Try.func102 (congrArg Option.some (by kernel_rfl))⟩,
  t4 := Try.underlying4, a4 := Try.isAgg4, z4 := Try.sizeOf4,
  v4 := Try.zeroValue4, t22 := Try.underlying28, a22 := Try.isAgg28,
  z22 := Try.sizeOf28, v22 := Try.zeroValue28 }
end Go.Proofs.Ytjfmjeffmnjilaa
