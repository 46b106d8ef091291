/-
  A structure of the shelf, laid at this program: Lays.n105.
-/
import Derived.Shelf.Lays
import Derived.Shelf.Strings.Repeat
import Derived.KernelRfl
import Derived.Test.YtjfmjeffmnjilaaProg
namespace Go.Proofs.Ytjfmjeffmnjilaa
open Go Go.Proofs Go.Shelf
set_option maxRecDepth 100000

def renRepeat : Go.Shelf.Ren :=
{
  f := fun x ↦
    match x with
    | 105 => 113
    | 212 => 123
    | 99 => 124
    | 165 => 125
    | 166 => 126
    | 170 => 127
    | 169 => 128
    | 263 => 140
    | 264 => 141
    | 206 => 142
    | 240 => 143
    | 241 => 144
    | 276 => 151
    | 277 => 152
    | n => n,
  t := fun x ↦
    match x with
    | 9 => 9
    | 3 => 3
    | 4 => 4
    | 20 => 20
    | 0 => 0
    | 46 => 101
    | 109 => 132
    | 5 => 5
    | 72 => 137
    | 76 => 141
    | 51 => 102
    | 146 => 155
    | 53 => 111
    | 148 => 157
    | 70 => 135
    | 37 => 51
    | 75 => 140
    | 127 => 159
    | 164 => 166
    | 80 => 144
    | n => n,
  g := fun x ↦
    have n := x;
    n }
theorem laysRepeat : Go.Proofs.Lays.n105 Try.prog renRepeat :=
{ mixed := Eq.refl Bool.true,
  f99 :=
    Eq.trans Try.func124 (congrArg Option.some (Eq.refl (Go.Proofs.Body.n99 renRepeat))),
  f105 :=
    Eq.trans Try.func113 (congrArg Option.some (Eq.refl (Go.Proofs.Body.n105 renRepeat))),
  f165 :=
    Eq.trans Try.func125 (congrArg Option.some (Eq.refl (Go.Proofs.Body.n165 renRepeat))),
  f166 :=
    Eq.trans Try.func126 (congrArg Option.some (Eq.refl (Go.Proofs.Body.n166 renRepeat))),
  f169 :=
    Eq.trans Try.func128 (congrArg Option.some (Eq.refl (Go.Proofs.Body.n169 renRepeat))),
  f170 :=
    Eq.trans Try.func127 (congrArg Option.some (Eq.refl (Go.Proofs.Body.n170 renRepeat))),
  f206 :=
    Eq.trans Try.func142 (congrArg Option.some (Eq.refl (Go.Proofs.Body.n206 renRepeat))),
  f212 :=
    Eq.trans Try.func123 (congrArg Option.some (Eq.refl (Go.Proofs.Body.n212 renRepeat))),
  f240 :=
    Eq.trans Try.func143 (congrArg Option.some (Eq.refl (Go.Proofs.Body.n240 renRepeat))),
  f241 :=
    Eq.trans Try.func144 (congrArg Option.some (Eq.refl (Go.Proofs.Body.n241 renRepeat))),
  f263 :=
    Eq.trans Try.func140 (congrArg Option.some (Eq.refl (Go.Proofs.Body.n263 renRepeat))),
  f264 :=
    Eq.trans Try.func141 (congrArg Option.some (Eq.refl (Go.Proofs.Body.n264 renRepeat))),
  f276 :=
    Eq.trans Try.func151 (congrArg Option.some (Eq.refl (Go.Proofs.Body.n276 renRepeat))),
  f277 :=
    Eq.trans Try.func152 (congrArg Option.some (Eq.refl (Go.Proofs.Body.n277 renRepeat))),
  t0 := Try.underlying0, a0 := Try.isAgg0, z0 := Try.sizeOf0,
  v0 := Try.zeroValue0, t3 := Try.underlying3, a3 := Try.isAgg3,
  z3 := Try.sizeOf3, v3 := Try.zeroValue3, t4 := Try.underlying4,
  a4 := Try.isAgg4, z4 := Try.sizeOf4, v4 := Try.zeroValue4,
  t5 := Try.underlying5, a5 := Try.isAgg5, z5 := Try.sizeOf5,
  v5 := Try.zeroValue5, t9 := Try.underlying9, a9 := Try.isAgg9,
  z9 := Try.sizeOf9, v9 := Try.zeroValue9, t20 := Try.underlying20,
  a20 := Try.isAgg20, z20 := Try.sizeOf20, v20 := Try.zeroValue20,
  t37 := Try.underlying51, a37 := Try.isAgg51, z37 := Try.sizeOf51,
  v37 := Try.zeroValue51, t46 := Try.underlying101, a46 := Try.isAgg101,
  z46 := Try.sizeOf101, v46 := Try.zeroValue101, t51 := Try.underlying102,
  a51 := Try.isAgg102, z51 := Try.sizeOf102, v51 := Try.zeroValue102,
  t53 := Try.underlying111, a53 := Try.isAgg111, z53 := Try.sizeOf111,
  v53 := Try.zeroValue111, t70 := Try.underlying135, a70 := Try.isAgg135,
  z70 := Try.sizeOf135, v70 := Try.zeroValue135, t72 := Try.underlying137,
  a72 := Try.isAgg137, z72 := Try.sizeOf137, v72 := Try.zeroValue137,
  t75 := Try.underlying140, a75 := Try.isAgg140, z75 := Try.sizeOf140,
  v75 := Try.zeroValue140, t76 := Try.underlying141, a76 := Try.isAgg141,
  z76 := Try.sizeOf141, v76 := Try.zeroValue141, t109 := Try.underlying132,
  a109 := Try.isAgg132, z109 := Try.sizeOf132, v109 := Try.zeroValue132,
  t127 := Try.underlying159, a127 := Try.isAgg159, z127 := Try.sizeOf159,
  v127 := Try.zeroValue159, t146 := Try.underlying155, a146 := Try.isAgg155,
  z146 := Try.sizeOf155, v146 := Try.zeroValue155, t148 := Try.underlying157,
  a148 := Try.isAgg157, z148 := Try.sizeOf157, v148 := Try.zeroValue157,
  t164 := Try.underlying166, a164 := Try.isAgg166, z164 := Try.sizeOf166,
  v164 := Try.zeroValue166 }
end Go.Proofs.Ytjfmjeffmnjilaa
