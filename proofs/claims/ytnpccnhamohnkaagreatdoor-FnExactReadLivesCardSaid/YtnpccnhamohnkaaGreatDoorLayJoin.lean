/-
  A structure of the shelf, laid at this program: Lays.n156.
-/
import Derived.Shelf.Lays
import Derived.Shelf.Strings.OnBuilder
import Derived.KernelRfl
import Derived.Test.YtnpccnhamohnkaaGreatDoorProg
namespace Go.Proofs.YtnpccnhamohnkaaGreatDoor
open Go Go.Proofs Go.Shelf
set_option maxRecDepth 100000

def renJoin : Go.Shelf.Ren :=
{
  f := fun x ↦
    match x with
    | 156 => 129
    | 165 => 186
    | 166 => 69
    | 169 => 71
    | 240 => 133
    | 241 => 218
    | 276 => 195
    | 277 => 256
    | n => n,
  t := fun x ↦
    match x with
    | 31 => 72
    | 9 => 9
    | 3 => 3
    | 4 => 4
    | 0 => 0
    | 20 => 20
    | 72 => 107
    | 76 => 112
    | 70 => 105
    | 37 => 35
    | 75 => 111
    | 127 => 178
    | 164 => 230
    | 5 => 5
    | 80 => 115
    | n => n,
  g := fun x ↦
    have n := x;
    n }
theorem laysJoin : Go.Proofs.Lays.n156 Tryz.prog renJoin :=
{ mixed := Eq.refl Bool.true,
  f156 :=
    Eq.trans Tryz.func129 (congrArg Option.some (Eq.refl (Go.Proofs.Body.n156 renJoin))),
  f165 :=
    Eq.trans Tryz.func186 (congrArg Option.some (Eq.refl (Go.Proofs.Body.n165 renJoin))),
  f166 :=
    Eq.trans Tryz.func69 (congrArg Option.some (Eq.refl (Go.Proofs.Body.n166 renJoin))),
  f169 :=
    Eq.trans Tryz.func71 (congrArg Option.some (Eq.refl (Go.Proofs.Body.n169 renJoin))),
  f240 :=
    Eq.trans Tryz.func133 (congrArg Option.some (Eq.refl (Go.Proofs.Body.n240 renJoin))),
  f241 :=
    Eq.trans Tryz.func218 (congrArg Option.some (Eq.refl (Go.Proofs.Body.n241 renJoin))),
  f276 :=
    Eq.trans Tryz.func195 (congrArg Option.some (Eq.refl (Go.Proofs.Body.n276 renJoin))),
  f277 :=
    Eq.trans Tryz.func256 (congrArg Option.some (Eq.refl (Go.Proofs.Body.n277 renJoin))),
  t0 := Tryz.underlying0, a0 := Tryz.isAgg0, z0 := Tryz.sizeOf0,
  v0 := Tryz.zeroValue0, t3 := Tryz.underlying3, a3 := Tryz.isAgg3,
  z3 := Tryz.sizeOf3, v3 := Tryz.zeroValue3, t4 := Tryz.underlying4,
  a4 := Tryz.isAgg4, z4 := Tryz.sizeOf4, v4 := Tryz.zeroValue4,
  t9 := Tryz.underlying9, a9 := Tryz.isAgg9, z9 := Tryz.sizeOf9,
  v9 := Tryz.zeroValue9, t20 := Tryz.underlying20, a20 := Tryz.isAgg20,
  z20 := Tryz.sizeOf20, v20 := Tryz.zeroValue20, t31 := Tryz.underlying72,
  a31 := Tryz.isAgg72, z31 := Tryz.sizeOf72, v31 := Tryz.zeroValue72,
  t37 := Tryz.underlying35, a37 := Tryz.isAgg35, z37 := Tryz.sizeOf35,
  v37 := Tryz.zeroValue35, t70 := Tryz.underlying105, a70 := Tryz.isAgg105,
  z70 := Tryz.sizeOf105, v70 := Tryz.zeroValue105, t72 := Tryz.underlying107,
  a72 := Tryz.isAgg107, z72 := Tryz.sizeOf107, v72 := Tryz.zeroValue107,
  t75 := Tryz.underlying111, a75 := Tryz.isAgg111, z75 := Tryz.sizeOf111,
  v75 := Tryz.zeroValue111, t76 := Tryz.underlying112, a76 := Tryz.isAgg112,
  z76 := Tryz.sizeOf112, v76 := Tryz.zeroValue112, t127 := Tryz.underlying178,
  a127 := Tryz.isAgg178, z127 := Tryz.sizeOf178, v127 := Tryz.zeroValue178,
  t164 := Tryz.underlying230, a164 := Tryz.isAgg230, z164 := Tryz.sizeOf230,
  v164 := Tryz.zeroValue230 }
end Go.Proofs.YtnpccnhamohnkaaGreatDoor
