/-
  A structure of the shelf, laid at this program: LaysM.n145.
-/
import Derived.Shelf.LaysM
import Derived.Shelf.Strings.Shaped
import Derived.KernelRfl
import Derived.Test.YthflejkkcnglgaaDoorProg
namespace Go.Proofs.YthflejkkcnglgaaDoor
open Go Go.Proofs Go.Shelf
set_option maxRecDepth 100000

def renCutF : Go.Shelf.Ren :=
{
  f := fun x ↦
    match x with
    | 145 => 17
    | 220 => 29
    | 219 => 36
    | 217 => 33
    | 225 => 41
    | 224 => 42
    | 267 => 43
    | 266 => 39
    | 314 => 53
    | n => n,
  t := fun x ↦
    match x with
    | 9 => 9
    | 4 => 4
    | 59 => 38
    | 3 => 3
    | 5 => 5
    | 46 => 63
    | 146 => 77
    | 51 => 76
    | n => n,
  g := fun x ↦
    match x with
    | 1 => 0
    | n => n }
theorem laysCutF : Go.Proofs.LaysM.n145 Tryd.prog renCutF :=
{ mixed := Eq.refl Bool.true,
  f145 :=
    Eq.trans Tryd.func17 (congrArg Option.some (Eq.refl (Go.Proofs.Body.n145 renCutF))),
  f217 :=
    Eq.trans Tryd.func33 (congrArg Option.some (Eq.refl (Go.Proofs.Body.n217 renCutF))),
  f219 :=
    Eq.trans Tryd.func36 (congrArg Option.some (Eq.refl (Go.Proofs.Body.n219 renCutF))),
  f220 :=
    Eq.trans Tryd.func29 (congrArg Option.some (Eq.refl (Go.Proofs.Body.n220 renCutF))),
  f224 :=
    Eq.trans Tryd.func42 (congrArg Option.some (Eq.refl (Go.Proofs.Body.n224 renCutF))),
  f225 :=
    Eq.trans Tryd.func41 (congrArg Option.some (Eq.refl (Go.Proofs.Body.n225 renCutF))),
  f266 :=
    Eq.trans Tryd.func39 (congrArg Option.some (Eq.refl (Go.Proofs.Body.n266 renCutF))),
  f267 :=
    Eq.trans Tryd.func43 (congrArg Option.some (Eq.refl (Go.Proofs.Body.n267 renCutF))),
  f314 :=
    Eq.trans Tryd.func53 (congrArg Option.some (Eq.refl (Go.Proofs.Body.n314 renCutF))),
  t3 := Tryd.underlying3, a3 := Tryd.isAgg3, z3 := Tryd.sizeOf3,
  v3 := Tryd.zeroValue3, t4 := Tryd.underlying4, a4 := Tryd.isAgg4,
  z4 := Tryd.sizeOf4, v4 := Tryd.zeroValue4, t5 := Tryd.underlying5,
  a5 := Tryd.isAgg5, z5 := Tryd.sizeOf5, v5 := Tryd.zeroValue5,
  t9 := Tryd.underlying9, a9 := Tryd.isAgg9, z9 := Tryd.sizeOf9,
  v9 := Tryd.zeroValue9, t46 := Tryd.underlying63, a46 := Tryd.isAgg63,
  z46 := Tryd.sizeOf63, v46 := Tryd.zeroValue63, t51 := Tryd.underlying76,
  a51 := Tryd.isAgg76, z51 := Tryd.sizeOf76, v51 := Tryd.zeroValue76,
  t59 := Tryd.underlying38, a59 := Tryd.isAgg38, z59 := Tryd.sizeOf38,
  v59 := Tryd.zeroValue38, t146 := Tryd.underlying77, a146 := Tryd.isAgg77,
  z146 := Tryd.sizeOf77, v146 := Tryd.zeroValue77,
  g1 := by kernel_rfl,
  i3 := Eq.refl (Option.some (Option.some (Go.Value.int Go.IntKind.i64 0), 1, 8)),
  i4 := Eq.refl (Option.some (Option.some (Go.Value.bool Bool.false), 1, 1)),
  i5 := Eq.refl (Option.some (Option.some (Go.Value.int Go.IntKind.u8 0), 1, 1)),
  i9 := Eq.refl (Option.some (Option.some (Go.Value.string { data := #[] }), 1, 16)),
  i46 := Eq.refl (Option.some (Option.some (Go.Value.int Go.IntKind.u64 0), 1, 8)),
  i51 := Eq.refl (Option.some (Option.some (Go.Value.int Go.IntKind.u32 0), 1, 4)),
  i59 :=
    Eq.refl
      (Option.some
        (Option.some
            (Go.Value.tuple
              #[Go.Value.string { data := #[] }, Go.Value.string { data := #[] }, Go.Value.bool Bool.false]),
          1, 0)),
  i146 :=
    Eq.refl
      (Option.some
        (Option.some (Go.Value.tuple #[Go.Value.int Go.IntKind.u32 0, Go.Value.int Go.IntKind.u32 0]), 1, 0)),
  m1 := by kernel_rfl,
  s1_3 := fun w h ↦
    Go.Proofs.cell_of_shapedOpen_int h (of_decide_eq_true (Eq.refl Bool.true))
      (Eq.refl (Option.some (#[Go.Value.int Go.IntKind.i64 0], 3))) rfl (Eq.refl Bool.true) (Eq.refl (Option.some [3]))
      Tryd.underlying3 }
end Go.Proofs.YthflejkkcnglgaaDoor
