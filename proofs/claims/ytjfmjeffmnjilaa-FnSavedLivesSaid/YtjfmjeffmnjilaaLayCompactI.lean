/-
  A structure of the shelf, laid at this program: SlLaysE.n43.
-/
import Derived.Shelf.SlLaysE
import Derived.KernelRfl
import Derived.Test.YtjfmjeffmnjilaaProg
namespace Go.Proofs.Ytjfmjeffmnjilaa
open Go Go.Proofs Go.Shelf
set_option maxRecDepth 100000

def renCompactI : Go.Shelf.Ren :=
{
  f := fun x ↦
    match x with
    | 43 => 104
    | n => n,
  t := fun x ↦
    match x with
    | 22 => 28
    | 23 => 2
    | 3 => 3
    | 4 => 4
    | 0 => 0
    | n => n,
  g := fun x ↦
    have n := x;
    n }
theorem laysCompactI : Go.Proofs.SlLaysE.n43 Try.prog renCompactI :=
{ mixed := Eq.refl Bool.true,
  f43 :=
    ⟨"slices.Compact[[]int64,int64]", by decide, Eq.trans Try.func104 (congrArg Option.some (by kernel_rfl))⟩,
  t0 := Try.underlying0, a0 := Try.isAgg0, z0 := Try.sizeOf0,
  v0 := Try.zeroValue0, t3 := Try.underlying3, a3 := Try.isAgg3,
  z3 := Try.sizeOf3, v3 := Try.zeroValue3, t4 := Try.underlying4,
  a4 := Try.isAgg4, z4 := Try.sizeOf4, v4 := Try.zeroValue4,
  t22 := Try.underlying28, a22 := Try.isAgg28, z22 := Try.sizeOf28,
  v22 := Try.zeroValue28, a23 := Try.isAgg2, z23 := Try.sizeOf2 }
end Go.Proofs.Ytjfmjeffmnjilaa
