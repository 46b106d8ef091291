/-
  A structure of the shelf, laid at this program: Lays.n170.
-/
import Derived.Shelf.Lays
import Derived.Shelf.Strings.BuilderF
import Derived.KernelRfl
import Derived.Test.YtempapfphliniaaDoorProg
namespace Go.Proofs.YtempapfphliniaaDoor
open Go Go.Proofs Go.Shelf
set_option maxRecDepth 100000

def renBLen : Go.Shelf.Ren :=
{
  f := fun x ↦
    match x with
    | 170 => 39
    | n => n,
  t := fun x ↦
    match x with
    | 70 => 61
    | 3 => 3
    | 0 => 0
    | 72 => 64
    | 37 => 62
    | 5 => 5
    | n => n,
  g := fun x ↦
    have n := x;
    n }
theorem laysBLen : Go.Proofs.Lays.n170 Tryd.prog renBLen :=
{ mixed := Eq.refl Bool.true,
  f170 :=
    Eq.trans Tryd.func39 (congrArg Option.some (Eq.refl (Go.Proofs.Body.n170 renBLen))),
  t0 := Tryd.underlying0, a0 := Tryd.isAgg0, z0 := Tryd.sizeOf0,
  v0 := Tryd.zeroValue0, t3 := Tryd.underlying3, a3 := Tryd.isAgg3,
  z3 := Tryd.sizeOf3, v3 := Tryd.zeroValue3, t37 := Tryd.underlying62,
  a37 := Tryd.isAgg62, z37 := Tryd.sizeOf62, v37 := Tryd.zeroValue62,
  t70 := Tryd.underlying61, a70 := Tryd.isAgg61, z70 := Tryd.sizeOf61,
  v70 := Tryd.zeroValue61, t72 := Tryd.underlying64, a72 := Tryd.isAgg64,
  z72 := Tryd.sizeOf64, v72 := Tryd.zeroValue64 }
end Go.Proofs.YtempapfphliniaaDoor
