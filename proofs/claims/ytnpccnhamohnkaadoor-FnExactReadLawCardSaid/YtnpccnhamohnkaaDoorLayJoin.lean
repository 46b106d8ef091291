/-
  A structure of the shelf, laid at this program: Lays.n156.
-/
import Derived.Shelf.Lays
import Derived.Shelf.Strings.OnBuilder
import Derived.KernelRfl
import Derived.Test.YtnpccnhamohnkaaDoorProg
namespace Go.Proofs.YtnpccnhamohnkaaDoor
open Go Go.Proofs Go.Shelf
set_option maxRecDepth 100000

def renJoin : Go.Shelf.Ren :=
{
  f := fun x ↦
    match x with
    | 156 => 56
    | 165 => 73
    | 166 => 74
    | 169 => 76
    | 240 => 89
    | 241 => 90
    | 276 => 94
    | 277 => 95
    | n => n,
  t := fun x ↦
    match x with
    | 31 => 42
    | 9 => 9
    | 3 => 3
    | 4 => 4
    | 0 => 0
    | 20 => 20
    | 72 => 101
    | 76 => 103
    | 70 => 99
    | 37 => 70
    | 75 => 47
    | 127 => 107
    | 164 => 123
    | 5 => 5
    | 80 => 106
    | n => n,
  g := fun x ↦
    have n := x;
    n }
theorem laysJoin : Go.Proofs.Lays.n156 Tryd.prog renJoin :=
{ mixed := Eq.refl Bool.true,
  f156 :=
    Eq.trans Tryd.func56 (congrArg Option.some (Eq.refl (Go.Proofs.Body.n156 renJoin))),
  f165 :=
    Eq.trans Tryd.func73 (congrArg Option.some (Eq.refl (Go.Proofs.Body.n165 renJoin))),
  f166 :=
    Eq.trans Tryd.func74 (congrArg Option.some (Eq.refl (Go.Proofs.Body.n166 renJoin))),
  f169 :=
    Eq.trans Tryd.func76 (congrArg Option.some (Eq.refl (Go.Proofs.Body.n169 renJoin))),
  f240 :=
    Eq.trans Tryd.func89 (congrArg Option.some (Eq.refl (Go.Proofs.Body.n240 renJoin))),
  f241 :=
    Eq.trans Tryd.func90 (congrArg Option.some (Eq.refl (Go.Proofs.Body.n241 renJoin))),
  f276 :=
    Eq.trans Tryd.func94 (congrArg Option.some (Eq.refl (Go.Proofs.Body.n276 renJoin))),
  f277 :=
    Eq.trans Tryd.func95 (congrArg Option.some (Eq.refl (Go.Proofs.Body.n277 renJoin))),
  t0 := Tryd.underlying0, a0 := Tryd.isAgg0, z0 := Tryd.sizeOf0,
  v0 := Tryd.zeroValue0, t3 := Tryd.underlying3, a3 := Tryd.isAgg3,
  z3 := Tryd.sizeOf3, v3 := Tryd.zeroValue3, t4 := Tryd.underlying4,
  a4 := Tryd.isAgg4, z4 := Tryd.sizeOf4, v4 := Tryd.zeroValue4,
  t9 := Tryd.underlying9, a9 := Tryd.isAgg9, z9 := Tryd.sizeOf9,
  v9 := Tryd.zeroValue9, t20 := Tryd.underlying20, a20 := Tryd.isAgg20,
  z20 := Tryd.sizeOf20, v20 := Tryd.zeroValue20, t31 := Tryd.underlying42,
  a31 := Tryd.isAgg42, z31 := Tryd.sizeOf42, v31 := Tryd.zeroValue42,
  t37 := Tryd.underlying70, a37 := Tryd.isAgg70, z37 := Tryd.sizeOf70,
  v37 := Tryd.zeroValue70, t70 := Tryd.underlying99, a70 := Tryd.isAgg99,
  z70 := Tryd.sizeOf99, v70 := Tryd.zeroValue99, t72 := Tryd.underlying101,
  a72 := Tryd.isAgg101, z72 := Tryd.sizeOf101, v72 := Tryd.zeroValue101,
  t75 := Tryd.underlying47, a75 := Tryd.isAgg47, z75 := Tryd.sizeOf47,
  v75 := Tryd.zeroValue47, t76 := Tryd.underlying103, a76 := Tryd.isAgg103,
  z76 := Tryd.sizeOf103, v76 := Tryd.zeroValue103, t127 := Tryd.underlying107,
  a127 := Tryd.isAgg107, z127 := Tryd.sizeOf107, v127 := Tryd.zeroValue107,
  t164 := Tryd.underlying123, a164 := Tryd.isAgg123, z164 := Tryd.sizeOf123,
  v164 := Tryd.zeroValue123 }
end Go.Proofs.YtnpccnhamohnkaaDoor
