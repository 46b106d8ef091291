/-
  A structure of the shelf, laid at this program: Lays.n105.
-/
import Derived.Shelf.Lays
import Derived.Shelf.Strings.Repeat
import Derived.KernelRfl
import Derived.Test.YtnpccnhamohnkaaGreatDoorProg
namespace Go.Proofs.YtnpccnhamohnkaaGreatDoor
open Go Go.Proofs Go.Shelf
set_option maxRecDepth 100000

def renRepeat : Go.Shelf.Ren :=
{
  f := fun x ↦
    match x with
    | 105 => 128
    | 212 => 142
    | 99 => 185
    | 165 => 186
    | 166 => 69
    | 170 => 100
    | 169 => 71
    | 263 => 198
    | 264 => 199
    | 206 => 217
    | 240 => 133
    | 241 => 218
    | 276 => 195
    | 277 => 256
    | n => n,
  t := fun x ↦
    match x with
    | 9 => 9
    | 3 => 3
    | 4 => 4
    | 20 => 20
    | 0 => 0
    | 46 => 184
    | 109 => 185
    | 5 => 5
    | 72 => 107
    | 76 => 112
    | 51 => 210
    | 146 => 233
    | 53 => 164
    | 148 => 235
    | 70 => 105
    | 37 => 35
    | 75 => 111
    | 127 => 178
    | 164 => 230
    | 80 => 115
    | n => n,
  g := fun x ↦
    have n := x;
    n }
theorem laysRepeat : Go.Proofs.Lays.n105 Tryz.prog renRepeat :=
{ mixed := Eq.refl Bool.true,
  f99 :=
    Eq.trans Tryz.func185 (congrArg Option.some (Eq.refl (Go.Proofs.Body.n99 renRepeat))),
  f105 :=
    Eq.trans Tryz.func128
      (congrArg Option.some (Eq.refl (Go.Proofs.Body.n105 renRepeat))),
  f165 :=
    Eq.trans Tryz.func186
      (congrArg Option.some (Eq.refl (Go.Proofs.Body.n165 renRepeat))),
  f166 :=
    Eq.trans Tryz.func69 (congrArg Option.some (Eq.refl (Go.Proofs.Body.n166 renRepeat))),
  f169 :=
    Eq.trans Tryz.func71 (congrArg Option.some (Eq.refl (Go.Proofs.Body.n169 renRepeat))),
  f170 :=
    Eq.trans Tryz.func100
      (congrArg Option.some (Eq.refl (Go.Proofs.Body.n170 renRepeat))),
  f206 :=
    Eq.trans Tryz.func217
      (congrArg Option.some (Eq.refl (Go.Proofs.Body.n206 renRepeat))),
  f212 :=
    Eq.trans Tryz.func142
      (congrArg Option.some (Eq.refl (Go.Proofs.Body.n212 renRepeat))),
  f240 :=
    Eq.trans Tryz.func133
      (congrArg Option.some (Eq.refl (Go.Proofs.Body.n240 renRepeat))),
  f241 :=
    Eq.trans Tryz.func218
      (congrArg Option.some (Eq.refl (Go.Proofs.Body.n241 renRepeat))),
  f263 :=
    Eq.trans Tryz.func198
      (congrArg Option.some (Eq.refl (Go.Proofs.Body.n263 renRepeat))),
  f264 :=
    Eq.trans Tryz.func199
      (congrArg Option.some (Eq.refl (Go.Proofs.Body.n264 renRepeat))),
  f276 :=
    Eq.trans Tryz.func195
      (congrArg Option.some (Eq.refl (Go.Proofs.Body.n276 renRepeat))),
  f277 :=
    Eq.trans Tryz.func256
      (congrArg Option.some (Eq.refl (Go.Proofs.Body.n277 renRepeat))),
  t0 := Tryz.underlying0, a0 := Tryz.isAgg0, z0 := Tryz.sizeOf0,
  v0 := Tryz.zeroValue0, t3 := Tryz.underlying3, a3 := Tryz.isAgg3,
  z3 := Tryz.sizeOf3, v3 := Tryz.zeroValue3, t4 := Tryz.underlying4,
  a4 := Tryz.isAgg4, z4 := Tryz.sizeOf4, v4 := Tryz.zeroValue4,
  t5 := Tryz.underlying5, a5 := Tryz.isAgg5, z5 := Tryz.sizeOf5,
  v5 := Tryz.zeroValue5, t9 := Tryz.underlying9, a9 := Tryz.isAgg9,
  z9 := Tryz.sizeOf9, v9 := Tryz.zeroValue9, t20 := Tryz.underlying20,
  a20 := Tryz.isAgg20, z20 := Tryz.sizeOf20, v20 := Tryz.zeroValue20,
  t37 := Tryz.underlying35, a37 := Tryz.isAgg35, z37 := Tryz.sizeOf35,
  v37 := Tryz.zeroValue35, t46 := Tryz.underlying184, a46 := Tryz.isAgg184,
  z46 := Tryz.sizeOf184, v46 := Tryz.zeroValue184, t51 := Tryz.underlying210,
  a51 := Tryz.isAgg210, z51 := Tryz.sizeOf210, v51 := Tryz.zeroValue210,
  t53 := Tryz.underlying164, a53 := Tryz.isAgg164, z53 := Tryz.sizeOf164,
  v53 := Tryz.zeroValue164, t70 := Tryz.underlying105, a70 := Tryz.isAgg105,
  z70 := Tryz.sizeOf105, v70 := Tryz.zeroValue105, t72 := Tryz.underlying107,
  a72 := Tryz.isAgg107, z72 := Tryz.sizeOf107, v72 := Tryz.zeroValue107,
  t75 := Tryz.underlying111, a75 := Tryz.isAgg111, z75 := Tryz.sizeOf111,
  v75 := Tryz.zeroValue111, t76 := Tryz.underlying112, a76 := Tryz.isAgg112,
  z76 := Tryz.sizeOf112, v76 := Tryz.zeroValue112, t109 := Tryz.underlying185,
  a109 := Tryz.isAgg185, z109 := Tryz.sizeOf185, v109 := Tryz.zeroValue185,
  t127 := Tryz.underlying178, a127 := Tryz.isAgg178, z127 := Tryz.sizeOf178,
  v127 := Tryz.zeroValue178, t146 := Tryz.underlying233, a146 := Tryz.isAgg233,
  z146 := Tryz.sizeOf233, v146 := Tryz.zeroValue233, t148 := Tryz.underlying235,
  a148 := Tryz.isAgg235, z148 := Tryz.sizeOf235, v148 := Tryz.zeroValue235,
  t164 := Tryz.underlying230, a164 := Tryz.isAgg230, z164 := Tryz.sizeOf230,
  v164 := Tryz.zeroValue230 }
end Go.Proofs.YtnpccnhamohnkaaGreatDoor
