/-
  A structure of the shelf, laid at this program: Lays.n156.
-/
import Derived.Shelf.Lays
import Derived.Shelf.Strings.OnBuilder
import Derived.KernelRfl
import Derived.Test.YtempapfphliniaaDoorProg
namespace Go.Proofs.YtempapfphliniaaDoor
open Go Go.Proofs Go.Shelf
set_option maxRecDepth 100000

def renJoin : Go.Shelf.Ren :=
{
  f := fun x ↦
    match x with
    | 156 => 102
    | 165 => 119
    | 166 => 37
    | 169 => 40
    | 240 => 68
    | 241 => 134
    | 276 => 91
    | 277 => 142
    | n => n,
  t := fun x ↦
    match x with
    | 31 => 22
    | 9 => 9
    | 3 => 3
    | 4 => 4
    | 0 => 0
    | 20 => 20
    | 72 => 64
    | 76 => 70
    | 70 => 61
    | 37 => 62
    | 75 => 69
    | 127 => 108
    | 164 => 127
    | 5 => 5
    | 80 => 74
    | n => n,
  g := fun x ↦
    have n := x;
    n }
theorem laysJoin : Go.Proofs.Lays.n156 Tryd.prog renJoin :=
{ mixed := Eq.refl Bool.true,
  f156 :=
    Eq.trans Tryd.func102 (congrArg Option.some (Eq.refl (Go.Proofs.Body.n156 renJoin))),
  f165 :=
    Eq.trans Tryd.func119 (congrArg Option.some (Eq.refl (Go.Proofs.Body.n165 renJoin))),
  f166 :=
    Eq.trans Tryd.func37 (congrArg Option.some (Eq.refl (Go.Proofs.Body.n166 renJoin))),
  f169 :=
    Eq.trans Tryd.func40 (congrArg Option.some (Eq.refl (Go.Proofs.Body.n169 renJoin))),
  f240 :=
    Eq.trans Tryd.func68 (congrArg Option.some (Eq.refl (Go.Proofs.Body.n240 renJoin))),
  f241 :=
    Eq.trans Tryd.func134 (congrArg Option.some (Eq.refl (Go.Proofs.Body.n241 renJoin))),
  f276 :=
    Eq.trans Tryd.func91 (congrArg Option.some (Eq.refl (Go.Proofs.Body.n276 renJoin))),
  f277 :=
    Eq.trans Tryd.func142 (congrArg Option.some (Eq.refl (Go.Proofs.Body.n277 renJoin))),
  t0 := Tryd.underlying0, a0 := Tryd.isAgg0, z0 := Tryd.sizeOf0,
  v0 := Tryd.zeroValue0, t3 := Tryd.underlying3, a3 := Tryd.isAgg3,
  z3 := Tryd.sizeOf3, v3 := Tryd.zeroValue3, t4 := Tryd.underlying4,
  a4 := Tryd.isAgg4, z4 := Tryd.sizeOf4, v4 := Tryd.zeroValue4,
  t9 := Tryd.underlying9, a9 := Tryd.isAgg9, z9 := Tryd.sizeOf9,
  v9 := Tryd.zeroValue9, t20 := Tryd.underlying20, a20 := Tryd.isAgg20,
  z20 := Tryd.sizeOf20, v20 := Tryd.zeroValue20, t31 := Tryd.underlying22,
  a31 := Tryd.isAgg22, z31 := Tryd.sizeOf22, v31 := Tryd.zeroValue22,
  t37 := Tryd.underlying62, a37 := Tryd.isAgg62, z37 := Tryd.sizeOf62,
  v37 := Tryd.zeroValue62, t70 := Tryd.underlying61, a70 := Tryd.isAgg61,
  z70 := Tryd.sizeOf61, v70 := Tryd.zeroValue61, t72 := Tryd.underlying64,
  a72 := Tryd.isAgg64, z72 := Tryd.sizeOf64, v72 := Tryd.zeroValue64,
  t75 := Tryd.underlying69, a75 := Tryd.isAgg69, z75 := Tryd.sizeOf69,
  v75 := Tryd.zeroValue69, t76 := Tryd.underlying70, a76 := Tryd.isAgg70,
  z76 := Tryd.sizeOf70, v76 := Tryd.zeroValue70, t127 := Tryd.underlying108,
  a127 := Tryd.isAgg108, z127 := Tryd.sizeOf108, v127 := Tryd.zeroValue108,
  t164 := Tryd.underlying127, a164 := Tryd.isAgg127, z164 := Tryd.sizeOf127,
  v164 := Tryd.zeroValue127 }
end Go.Proofs.YtempapfphliniaaDoor
