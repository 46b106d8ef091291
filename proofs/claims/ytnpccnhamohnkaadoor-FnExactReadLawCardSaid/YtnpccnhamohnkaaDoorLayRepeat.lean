/-
  A structure of the shelf, laid at this program: Lays.n105.
-/
import Derived.Shelf.Lays
import Derived.Shelf.Strings.Repeat
import Derived.KernelRfl
import Derived.Test.YtnpccnhamohnkaaDoorProg
namespace Go.Proofs.YtnpccnhamohnkaaDoor
open Go Go.Proofs Go.Shelf
set_option maxRecDepth 100000

def renRepeat : Go.Shelf.Ren :=
{
  f := fun x ↦
    match x with
    | 105 => 55
    | 212 => 71
    | 99 => 72
    | 165 => 73
    | 166 => 74
    | 170 => 75
    | 169 => 76
    | 263 => 86
    | 264 => 87
    | 206 => 88
    | 240 => 89
    | 241 => 90
    | 276 => 94
    | 277 => 95
    | n => n,
  t := fun x ↦
    match x with
    | 9 => 9
    | 3 => 3
    | 4 => 4
    | 20 => 20
    | 0 => 0
    | 46 => 74
    | 109 => 96
    | 5 => 5
    | 72 => 101
    | 76 => 103
    | 51 => 67
    | 146 => 82
    | 53 => 63
    | 148 => 120
    | 70 => 99
    | 37 => 70
    | 75 => 47
    | 127 => 107
    | 164 => 123
    | 80 => 106
    | n => n,
  g := fun x ↦
    have n := x;
    n }
theorem laysRepeat : Go.Proofs.Lays.n105 Tryd.prog renRepeat :=
{ mixed := Eq.refl Bool.true,
  f99 :=
    Eq.trans Tryd.func72 (congrArg Option.some (Eq.refl (Go.Proofs.Body.n99 renRepeat))),
  f105 :=
    Eq.trans Tryd.func55 (congrArg Option.some (Eq.refl (Go.Proofs.Body.n105 renRepeat))),
  f165 :=
    Eq.trans Tryd.func73 (congrArg Option.some (Eq.refl (Go.Proofs.Body.n165 renRepeat))),
  f166 :=
    Eq.trans Tryd.func74 (congrArg Option.some (Eq.refl (Go.Proofs.Body.n166 renRepeat))),
  f169 :=
    Eq.trans Tryd.func76 (congrArg Option.some (Eq.refl (Go.Proofs.Body.n169 renRepeat))),
  f170 :=
    Eq.trans Tryd.func75 (congrArg Option.some (Eq.refl (Go.Proofs.Body.n170 renRepeat))),
  f206 :=
    Eq.trans Tryd.func88 (congrArg Option.some (Eq.refl (Go.Proofs.Body.n206 renRepeat))),
  f212 :=
    Eq.trans Tryd.func71 (congrArg Option.some (Eq.refl (Go.Proofs.Body.n212 renRepeat))),
  f240 :=
    Eq.trans Tryd.func89 (congrArg Option.some (Eq.refl (Go.Proofs.Body.n240 renRepeat))),
  f241 :=
    Eq.trans Tryd.func90 (congrArg Option.some (Eq.refl (Go.Proofs.Body.n241 renRepeat))),
  f263 :=
    Eq.trans Tryd.func86 (congrArg Option.some (Eq.refl (Go.Proofs.Body.n263 renRepeat))),
  f264 :=
    Eq.trans Tryd.func87 (congrArg Option.some (Eq.refl (Go.Proofs.Body.n264 renRepeat))),
  f276 :=
    Eq.trans Tryd.func94 (congrArg Option.some (Eq.refl (Go.Proofs.Body.n276 renRepeat))),
  f277 :=
    Eq.trans Tryd.func95 (congrArg Option.some (Eq.refl (Go.Proofs.Body.n277 renRepeat))),
  t0 := Tryd.underlying0, a0 := Tryd.isAgg0, z0 := Tryd.sizeOf0,
  v0 := Tryd.zeroValue0, t3 := Tryd.underlying3, a3 := Tryd.isAgg3,
  z3 := Tryd.sizeOf3, v3 := Tryd.zeroValue3, t4 := Tryd.underlying4,
  a4 := Tryd.isAgg4, z4 := Tryd.sizeOf4, v4 := Tryd.zeroValue4,
  t5 := Tryd.underlying5, a5 := Tryd.isAgg5, z5 := Tryd.sizeOf5,
  v5 := Tryd.zeroValue5, t9 := Tryd.underlying9, a9 := Tryd.isAgg9,
  z9 := Tryd.sizeOf9, v9 := Tryd.zeroValue9, t20 := Tryd.underlying20,
  a20 := Tryd.isAgg20, z20 := Tryd.sizeOf20, v20 := Tryd.zeroValue20,
  t37 := Tryd.underlying70, a37 := Tryd.isAgg70, z37 := Tryd.sizeOf70,
  v37 := Tryd.zeroValue70, t46 := Tryd.underlying74, a46 := Tryd.isAgg74,
  z46 := Tryd.sizeOf74, v46 := Tryd.zeroValue74, t51 := Tryd.underlying67,
  a51 := Tryd.isAgg67, z51 := Tryd.sizeOf67, v51 := Tryd.zeroValue67,
  t53 := Tryd.underlying63, a53 := Tryd.isAgg63, z53 := Tryd.sizeOf63,
  v53 := Tryd.zeroValue63, t70 := Tryd.underlying99, a70 := Tryd.isAgg99,
  z70 := Tryd.sizeOf99, v70 := Tryd.zeroValue99, t72 := Tryd.underlying101,
  a72 := Tryd.isAgg101, z72 := Tryd.sizeOf101, v72 := Tryd.zeroValue101,
  t75 := Tryd.underlying47, a75 := Tryd.isAgg47, z75 := Tryd.sizeOf47,
  v75 := Tryd.zeroValue47, t76 := Tryd.underlying103, a76 := Tryd.isAgg103,
  z76 := Tryd.sizeOf103, v76 := Tryd.zeroValue103, t109 := Tryd.underlying96,
  a109 := Tryd.isAgg96, z109 := Tryd.sizeOf96, v109 := Tryd.zeroValue96,
  t127 := Tryd.underlying107, a127 := Tryd.isAgg107, z127 := Tryd.sizeOf107,
  v127 := Tryd.zeroValue107, t146 := Tryd.underlying82, a146 := Tryd.isAgg82,
  z146 := Tryd.sizeOf82, v146 := Tryd.zeroValue82, t148 := Tryd.underlying120,
  a148 := Tryd.isAgg120, z148 := Tryd.sizeOf120, v148 := Tryd.zeroValue120,
  t164 := Tryd.underlying123, a164 := Tryd.isAgg123, z164 := Tryd.sizeOf123,
  v164 := Tryd.zeroValue123 }
end Go.Proofs.YtnpccnhamohnkaaDoor
