/-
  A structure of the shelf, laid at this program: LaysM.n144.
-/
import Derived.Shelf.LaysM
import Derived.Shelf.Strings.Shaped
import Derived.KernelRfl
import Derived.Test.YtempapfphliniaaDoorProg
namespace Go.Proofs.YtempapfphliniaaDoor
open Go Go.Proofs Go.Shelf
set_option maxRecDepth 100000

def renContains : Go.Shelf.Ren :=
{
  f := fun x ↦
    match x with
    | 144 => 35
    | 143 => 66
    | 219 => 90
    | 217 => 93
    | 225 => 106
    | 224 => 107
    | 267 => 108
    | 266 => 113
    | 314 => 125
    | n => n,
  t := fun x ↦
    match x with
    | 9 => 9
    | 4 => 4
    | 3 => 3
    | 5 => 5
    | 46 => 136
    | 146 => 155
    | 51 => 144
    | n => n,
  g := fun x ↦
    match x with
    | 1 => 0
    | n => n }
theorem laysContains : Go.Proofs.LaysM.n144 Tryd.prog renContains :=
{ mixed := Eq.refl Bool.true,
  f143 :=
    Eq.trans Tryd.func66
      (congrArg Option.some (Eq.refl (Go.Proofs.Body.n143 renContains))),
  f144 :=
    Eq.trans Tryd.func35
      (congrArg Option.some (Eq.refl (Go.Proofs.Body.n144 renContains))),
  f217 :=
    Eq.trans Tryd.func93
      (congrArg Option.some (Eq.refl (Go.Proofs.Body.n217 renContains))),
  f219 :=
    Eq.trans Tryd.func90
      (congrArg Option.some (Eq.refl (Go.Proofs.Body.n219 renContains))),
  f224 :=
    Eq.trans Tryd.func107
      (congrArg Option.some (Eq.refl (Go.Proofs.Body.n224 renContains))),
  f225 :=
    Eq.trans Tryd.func106
      (congrArg Option.some (Eq.refl (Go.Proofs.Body.n225 renContains))),
  f266 :=
    Eq.trans Tryd.func113
      (congrArg Option.some (Eq.refl (Go.Proofs.Body.n266 renContains))),
  f267 :=
    Eq.trans Tryd.func108
      (congrArg Option.some (Eq.refl (Go.Proofs.Body.n267 renContains))),
  f314 :=
    Eq.trans Tryd.func125
      (congrArg Option.some (Eq.refl (Go.Proofs.Body.n314 renContains))),
  t3 := Tryd.underlying3, a3 := Tryd.isAgg3, z3 := Tryd.sizeOf3,
  v3 := Tryd.zeroValue3, t4 := Tryd.underlying4, a4 := Tryd.isAgg4,
  z4 := Tryd.sizeOf4, v4 := Tryd.zeroValue4, t5 := Tryd.underlying5,
  a5 := Tryd.isAgg5, z5 := Tryd.sizeOf5, v5 := Tryd.zeroValue5,
  t9 := Tryd.underlying9, a9 := Tryd.isAgg9, z9 := Tryd.sizeOf9,
  v9 := Tryd.zeroValue9, t46 := Tryd.underlying136, a46 := Tryd.isAgg136,
  z46 := Tryd.sizeOf136, v46 := Tryd.zeroValue136, t51 := Tryd.underlying144,
  a51 := Tryd.isAgg144, z51 := Tryd.sizeOf144, v51 := Tryd.zeroValue144,
  t146 := Tryd.underlying155, a146 := Tryd.isAgg155, z146 := Tryd.sizeOf155,
  v146 := Tryd.zeroValue155, g1 := by kernel_rfl,
  i3 := Eq.refl (Option.some (Option.some (Go.Value.int Go.IntKind.i64 0), 1, 8)),
  i4 := Eq.refl (Option.some (Option.some (Go.Value.bool Bool.false), 1, 1)),
  i5 := Eq.refl (Option.some (Option.some (Go.Value.int Go.IntKind.u8 0), 1, 1)),
  i9 := Eq.refl (Option.some (Option.some (Go.Value.string { data := #[] }), 1, 16)),
  i46 := Eq.refl (Option.some (Option.some (Go.Value.int Go.IntKind.u64 0), 1, 8)),
  i51 := Eq.refl (Option.some (Option.some (Go.Value.int Go.IntKind.u32 0), 1, 4)),
  i146 :=
    Eq.refl
      (Option.some
        (Option.some (Go.Value.tuple #[Go.Value.int Go.IntKind.u32 0, Go.Value.int Go.IntKind.u32 0]), 1, 0)),
  m1 := by kernel_rfl,
  s1_3 := fun w h ↦
    Go.Proofs.cell_of_shapedOpen_int h (of_decide_eq_true (Eq.refl Bool.true))
      (Eq.refl (Option.some (#[Go.Value.int Go.IntKind.i64 0], 3))) rfl (Eq.refl Bool.true) (Eq.refl (Option.some [3]))
      Tryd.underlying3 }
end Go.Proofs.YtempapfphliniaaDoor
