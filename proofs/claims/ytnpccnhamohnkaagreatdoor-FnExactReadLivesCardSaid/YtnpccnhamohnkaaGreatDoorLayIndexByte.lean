/-
  A structure of the shelf, laid at this program: Lays.n137.
-/
import Derived.Shelf.Lays
import Derived.Shelf.Small.Strs
import Derived.KernelRfl
import Derived.Test.YtnpccnhamohnkaaGreatDoorProg
namespace Go.Proofs.YtnpccnhamohnkaaGreatDoor
open Go Go.Proofs Go.Shelf
set_option maxRecDepth 100000

def renIndexByte : Go.Shelf.Ren :=
{
  f := fun x ↦
    match x with
    | 137 => 162
    | 217 => 205
    | 266 => 247
    | n => n,
  t := fun x ↦
    match x with
    | 9 => 9
    | 5 => 5
    | 3 => 3
    | n => n,
  g := fun x ↦
    have n := x;
    n }
theorem laysIndexByte : Go.Proofs.Lays.n137 Tryz.prog renIndexByte :=
{ mixed := Eq.refl Bool.true,
  f137 :=
    Eq.trans Tryz.func162
      (congrArg Option.some (Eq.refl (Go.Proofs.Body.n137 renIndexByte))),
  f217 :=
    Eq.trans Tryz.func205
      (congrArg Option.some (Eq.refl (Go.Proofs.Body.n217 renIndexByte))),
  f266 :=
    Eq.trans Tryz.func247
      (congrArg Option.some (Eq.refl (Go.Proofs.Body.n266 renIndexByte))),
  t3 := Tryz.underlying3, a3 := Tryz.isAgg3, z3 := Tryz.sizeOf3,
  v3 := Tryz.zeroValue3, t5 := Tryz.underlying5, a5 := Tryz.isAgg5,
  z5 := Tryz.sizeOf5, v5 := Tryz.zeroValue5, t9 := Tryz.underlying9,
  a9 := Tryz.isAgg9, z9 := Tryz.sizeOf9, v9 := Tryz.zeroValue9 }
end Go.Proofs.YtnpccnhamohnkaaGreatDoor
