/-
  A structure of the shelf, laid at this program: LaysM.n145.
-/
import Derived.Shelf.LaysM
import Derived.Shelf.Strings.Shaped
import Derived.KernelRfl
import Derived.Test.YtnpccnhamohnkaaDoorProg
namespace Go.Proofs.YtnpccnhamohnkaaDoor
open Go Go.Proofs Go.Shelf
set_option maxRecDepth 100000

def renCutF : Go.Shelf.Ren :=
{
  f := fun x ↦
    match x with
    | 145 => 13
    | 220 => 21
    | 219 => 33
    | 217 => 43
    | 225 => 44
    | 224 => 45
    | 267 => 46
    | 266 => 57
    | 314 => 58
    | n => n,
  t := fun x ↦
    match x with
    | 9 => 9
    | 4 => 4
    | 59 => 35
    | 3 => 3
    | 5 => 5
    | 46 => 74
    | 146 => 82
    | 51 => 67
    | n => n,
  g := fun x ↦
    match x with
    | 1 => 0
    | n => n }
theorem laysCutF : Go.Proofs.LaysM.n145 Tryd.prog renCutF :=
{ mixed := Eq.refl Bool.true,
  f145 :=
    Eq.trans Tryd.func13 (congrArg Option.some (Eq.refl (Go.Proofs.Body.n145 renCutF))),
  f217 :=
    Eq.trans Tryd.func43 (congrArg Option.some (Eq.refl (Go.Proofs.Body.n217 renCutF))),
  f219 :=
    Eq.trans Tryd.func33 (congrArg Option.some (Eq.refl (Go.Proofs.Body.n219 renCutF))),
  f220 :=
    Eq.trans Tryd.func21 (congrArg Option.some (Eq.refl (Go.Proofs.Body.n220 renCutF))),
  f224 :=
    Eq.trans Tryd.func45 (congrArg Option.some (Eq.refl (Go.Proofs.Body.n224 renCutF))),
  f225 :=
    Eq.trans Tryd.func44 (congrArg Option.some (Eq.refl (Go.Proofs.Body.n225 renCutF))),
  f266 :=
    Eq.trans Tryd.func57 (congrArg Option.some (Eq.refl (Go.Proofs.Body.n266 renCutF))),
  f267 :=
    Eq.trans Tryd.func46 (congrArg Option.some (Eq.refl (Go.Proofs.Body.n267 renCutF))),
  f314 :=
    Eq.trans Tryd.func58 (congrArg Option.some (Eq.refl (Go.Proofs.Body.n314 renCutF))),
  t3 := Tryd.underlying3, a3 := Tryd.isAgg3, z3 := Tryd.sizeOf3,
  v3 := Tryd.zeroValue3, t4 := Tryd.underlying4, a4 := Tryd.isAgg4,
  z4 := Tryd.sizeOf4, v4 := Tryd.zeroValue4, t5 := Tryd.underlying5,
  a5 := Tryd.isAgg5, z5 := Tryd.sizeOf5, v5 := Tryd.zeroValue5,
  t9 := Tryd.underlying9, a9 := Tryd.isAgg9, z9 := Tryd.sizeOf9,
  v9 := Tryd.zeroValue9, t46 := Tryd.underlying74, a46 := Tryd.isAgg74,
  z46 := Tryd.sizeOf74, v46 := Tryd.zeroValue74, t51 := Tryd.underlying67,
  a51 := Tryd.isAgg67, z51 := Tryd.sizeOf67, v51 := Tryd.zeroValue67,
  t59 := Tryd.underlying35, a59 := Tryd.isAgg35, z59 := Tryd.sizeOf35,
  v59 := Tryd.zeroValue35, t146 := Tryd.underlying82, a146 := Tryd.isAgg82,
  z146 := Tryd.sizeOf82, v146 := Tryd.zeroValue82,
  g1 := by kernel_rfl,
  i3 := Eq.refl (Option.some (Option.some (Go.Value.int Go.IntKind.i64 0), 1, 8)),
  i4 := Eq.refl (Option.some (Option.some (Go.Value.bool Bool.false), 1, 1)),
  i5 := Eq.refl (Option.some (Option.some (Go.Value.int Go.IntKind.u8 0), 1, 1)),
  i9 := Eq.refl (Option.some (Option.some (Go.Value.string { data := #[] }), 1, 16)),
  i46 := Eq.refl (Option.some (Option.some (Go.Value.int Go.IntKind.u64 0), 1, 8)),
  i51 := Eq.refl (Option.some (Option.some (Go.Value.int Go.IntKind.u32 0), 1, 4)),
  i59 :=
    Eq.refl
      (Option.some
        (Option.some
            (Go.Value.tuple
              #[Go.Value.string { data := #[] }, Go.Value.string { data := #[] }, Go.Value.bool Bool.false]),
          1, 0)),
  i146 :=
    Eq.refl
      (Option.some
        (Option.some (Go.Value.tuple #[Go.Value.int Go.IntKind.u32 0, Go.Value.int Go.IntKind.u32 0]), 1, 0)),
  m1 := by kernel_rfl,
  s1_3 := fun w h ↦
    Go.Proofs.cell_of_shapedOpen_int h (of_decide_eq_true (Eq.refl Bool.true))
      (Eq.refl (Option.some (#[Go.Value.int Go.IntKind.i64 0], 3))) rfl (Eq.refl Bool.true) (Eq.refl (Option.some [3]))
      Tryd.underlying3 }
end Go.Proofs.YtnpccnhamohnkaaDoor
