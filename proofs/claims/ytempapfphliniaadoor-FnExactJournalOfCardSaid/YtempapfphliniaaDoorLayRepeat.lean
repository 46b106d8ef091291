/-
  A structure of the shelf, laid at this program: Lays.n105.
-/
import Derived.Shelf.Lays
import Derived.Shelf.Strings.Repeat
import Derived.KernelRfl
import Derived.Test.YtempapfphliniaaDoorProg
namespace Go.Proofs.YtempapfphliniaaDoor
open Go Go.Proofs Go.Shelf
set_option maxRecDepth 100000

def renRepeat : Go.Shelf.Ren :=
{
  f := fun x ↦
    match x with
    | 105 => 101
    | 212 => 117
    | 99 => 118
    | 165 => 119
    | 166 => 37
    | 170 => 39
    | 169 => 40
    | 263 => 131
    | 264 => 132
    | 206 => 133
    | 240 => 68
    | 241 => 134
    | 276 => 91
    | 277 => 142
    | n => n,
  t := fun x ↦
    match x with
    | 9 => 9
    | 3 => 3
    | 4 => 4
    | 20 => 20
    | 0 => 0
    | 46 => 136
    | 109 => 146
    | 5 => 5
    | 72 => 64
    | 76 => 70
    | 51 => 144
    | 146 => 155
    | 53 => 138
    | 148 => 163
    | 70 => 61
    | 37 => 62
    | 75 => 69
    | 127 => 108
    | 164 => 127
    | 80 => 74
    | n => n,
  g := fun x ↦
    have n := x;
    n }
theorem laysRepeat : Go.Proofs.Lays.n105 Tryd.prog renRepeat :=
{ mixed := Eq.refl Bool.true,
  f99 :=
    Eq.trans Tryd.func118 (congrArg Option.some (Eq.refl (Go.Proofs.Body.n99 renRepeat))),
  f105 :=
    Eq.trans Tryd.func101
      (congrArg Option.some (Eq.refl (Go.Proofs.Body.n105 renRepeat))),
  f165 :=
    Eq.trans Tryd.func119
      (congrArg Option.some (Eq.refl (Go.Proofs.Body.n165 renRepeat))),
  f166 :=
    Eq.trans Tryd.func37 (congrArg Option.some (Eq.refl (Go.Proofs.Body.n166 renRepeat))),
  f169 :=
    Eq.trans Tryd.func40 (congrArg Option.some (Eq.refl (Go.Proofs.Body.n169 renRepeat))),
  f170 :=
    Eq.trans Tryd.func39 (congrArg Option.some (Eq.refl (Go.Proofs.Body.n170 renRepeat))),
  f206 :=
    Eq.trans Tryd.func133
      (congrArg Option.some (Eq.refl (Go.Proofs.Body.n206 renRepeat))),
  f212 :=
    Eq.trans Tryd.func117
      (congrArg Option.some (Eq.refl (Go.Proofs.Body.n212 renRepeat))),
  f240 :=
    Eq.trans Tryd.func68 (congrArg Option.some (Eq.refl (Go.Proofs.Body.n240 renRepeat))),
  f241 :=
    Eq.trans Tryd.func134
      (congrArg Option.some (Eq.refl (Go.Proofs.Body.n241 renRepeat))),
  f263 :=
    Eq.trans Tryd.func131
      (congrArg Option.some (Eq.refl (Go.Proofs.Body.n263 renRepeat))),
  f264 :=
    Eq.trans Tryd.func132
      (congrArg Option.some (Eq.refl (Go.Proofs.Body.n264 renRepeat))),
  f276 :=
    Eq.trans Tryd.func91 (congrArg Option.some (Eq.refl (Go.Proofs.Body.n276 renRepeat))),
  f277 :=
    Eq.trans Tryd.func142
      (congrArg Option.some (Eq.refl (Go.Proofs.Body.n277 renRepeat))),
  t0 := Tryd.underlying0, a0 := Tryd.isAgg0, z0 := Tryd.sizeOf0,
  v0 := Tryd.zeroValue0, t3 := Tryd.underlying3, a3 := Tryd.isAgg3,
  z3 := Tryd.sizeOf3, v3 := Tryd.zeroValue3, t4 := Tryd.underlying4,
  a4 := Tryd.isAgg4, z4 := Tryd.sizeOf4, v4 := Tryd.zeroValue4,
  t5 := Tryd.underlying5, a5 := Tryd.isAgg5, z5 := Tryd.sizeOf5,
  v5 := Tryd.zeroValue5, t9 := Tryd.underlying9, a9 := Tryd.isAgg9,
  z9 := Tryd.sizeOf9, v9 := Tryd.zeroValue9, t20 := Tryd.underlying20,
  a20 := Tryd.isAgg20, z20 := Tryd.sizeOf20, v20 := Tryd.zeroValue20,
  t37 := Tryd.underlying62, a37 := Tryd.isAgg62, z37 := Tryd.sizeOf62,
  v37 := Tryd.zeroValue62, t46 := Tryd.underlying136, a46 := Tryd.isAgg136,
  z46 := Tryd.sizeOf136, v46 := Tryd.zeroValue136, t51 := Tryd.underlying144,
  a51 := Tryd.isAgg144, z51 := Tryd.sizeOf144, v51 := Tryd.zeroValue144,
  t53 := Tryd.underlying138, a53 := Tryd.isAgg138, z53 := Tryd.sizeOf138,
  v53 := Tryd.zeroValue138, t70 := Tryd.underlying61, a70 := Tryd.isAgg61,
  z70 := Tryd.sizeOf61, v70 := Tryd.zeroValue61, t72 := Tryd.underlying64,
  a72 := Tryd.isAgg64, z72 := Tryd.sizeOf64, v72 := Tryd.zeroValue64,
  t75 := Tryd.underlying69, a75 := Tryd.isAgg69, z75 := Tryd.sizeOf69,
  v75 := Tryd.zeroValue69, t76 := Tryd.underlying70, a76 := Tryd.isAgg70,
  z76 := Tryd.sizeOf70, v76 := Tryd.zeroValue70, t109 := Tryd.underlying146,
  a109 := Tryd.isAgg146, z109 := Tryd.sizeOf146, v109 := Tryd.zeroValue146,
  t127 := Tryd.underlying108, a127 := Tryd.isAgg108, z127 := Tryd.sizeOf108,
  v127 := Tryd.zeroValue108, t146 := Tryd.underlying155, a146 := Tryd.isAgg155,
  z146 := Tryd.sizeOf155, v146 := Tryd.zeroValue155, t148 := Tryd.underlying163,
  a148 := Tryd.isAgg163, z148 := Tryd.sizeOf163, v148 := Tryd.zeroValue163,
  t164 := Tryd.underlying127, a164 := Tryd.isAgg127, z164 := Tryd.sizeOf127,
  v164 := Tryd.zeroValue127 }
end Go.Proofs.YtempapfphliniaaDoor
