/-
  A structure of the shelf, laid at this program: Lays.n137.
-/
import Derived.Shelf.Lays
import Derived.Shelf.Small.Strs
import Derived.KernelRfl
import Derived.Test.YthflejkkcnglgaaDoorProg
namespace Go.Proofs.YthflejkkcnglgaaDoor
open Go Go.Proofs Go.Shelf
set_option maxRecDepth 100000

def renIndexByte : Go.Shelf.Ren :=
{
  f := fun x ↦
    match x with
    | 137 => 23
    | 217 => 33
    | 266 => 39
    | n => n,
  t := fun x ↦
    match x with
    | 9 => 9
    | 5 => 5
    | 3 => 3
    | n => n,
  g := fun x ↦
    have n := x;
    n }
theorem laysIndexByte : Go.Proofs.Lays.n137 Tryd.prog renIndexByte :=
{ mixed := Eq.refl Bool.true,
  f137 :=
    Eq.trans Tryd.func23
      (congrArg Option.some (Eq.refl (Go.Proofs.Body.n137 renIndexByte))),
  f217 :=
    Eq.trans Tryd.func33
      (congrArg Option.some (Eq.refl (Go.Proofs.Body.n217 renIndexByte))),
  f266 :=
    Eq.trans Tryd.func39
      (congrArg Option.some (Eq.refl (Go.Proofs.Body.n266 renIndexByte))),
  t3 := Tryd.underlying3, a3 := Tryd.isAgg3, z3 := Tryd.sizeOf3,
  v3 := Tryd.zeroValue3, t5 := Tryd.underlying5, a5 := Tryd.isAgg5,
  z5 := Tryd.sizeOf5, v5 := Tryd.zeroValue5, t9 := Tryd.underlying9,
  a9 := Tryd.isAgg9, z9 := Tryd.sizeOf9, v9 := Tryd.zeroValue9 }
end Go.Proofs.YthflejkkcnglgaaDoor
