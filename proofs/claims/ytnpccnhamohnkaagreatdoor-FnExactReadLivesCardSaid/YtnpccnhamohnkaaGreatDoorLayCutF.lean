/-
  A structure of the shelf, laid at this program: LaysM.n145.
-/
import Derived.Shelf.LaysM
import Derived.Shelf.Strings.Shaped
import Derived.KernelRfl
import Derived.Test.YtnpccnhamohnkaaGreatDoorProg
namespace Go.Proofs.YtnpccnhamohnkaaGreatDoor
open Go Go.Proofs Go.Shelf
set_option maxRecDepth 100000

def renCutF : Go.Shelf.Ren :=
{
  f := fun x ↦
    match x with
    | 145 => 54
    | 220 => 110
    | 219 => 172
    | 217 => 205
    | 225 => 210
    | 224 => 211
    | 267 => 212
    | 266 => 247
    | 314 => 252
    | n => n,
  t := fun x ↦
    match x with
    | 9 => 9
    | 4 => 4
    | 59 => 86
    | 3 => 3
    | 5 => 5
    | 46 => 184
    | 146 => 233
    | 51 => 210
    | n => n,
  g := fun x ↦
    match x with
    | 1 => 0
    | n => n }
theorem laysCutF : Go.Proofs.LaysM.n145 Tryz.prog renCutF :=
{ mixed := Eq.refl Bool.true,
  f145 :=
    Eq.trans Tryz.func54 (congrArg Option.some (Eq.refl (Go.Proofs.Body.n145 renCutF))),
  f217 :=
    Eq.trans Tryz.func205 (congrArg Option.some (Eq.refl (Go.Proofs.Body.n217 renCutF))),
  f219 :=
    Eq.trans Tryz.func172 (congrArg Option.some (Eq.refl (Go.Proofs.Body.n219 renCutF))),
  f220 :=
    Eq.trans Tryz.func110 (congrArg Option.some (Eq.refl (Go.Proofs.Body.n220 renCutF))),
  f224 :=
    Eq.trans Tryz.func211 (congrArg Option.some (Eq.refl (Go.Proofs.Body.n224 renCutF))),
  f225 :=
    Eq.trans Tryz.func210 (congrArg Option.some (Eq.refl (Go.Proofs.Body.n225 renCutF))),
  f266 :=
    Eq.trans Tryz.func247 (congrArg Option.some (Eq.refl (Go.Proofs.Body.n266 renCutF))),
  f267 :=
    Eq.trans Tryz.func212 (congrArg Option.some (Eq.refl (Go.Proofs.Body.n267 renCutF))),
  f314 :=
    Eq.trans Tryz.func252 (congrArg Option.some (Eq.refl (Go.Proofs.Body.n314 renCutF))),
  t3 := Tryz.underlying3, a3 := Tryz.isAgg3, z3 := Tryz.sizeOf3,
  v3 := Tryz.zeroValue3, t4 := Tryz.underlying4, a4 := Tryz.isAgg4,
  z4 := Tryz.sizeOf4, v4 := Tryz.zeroValue4, t5 := Tryz.underlying5,
  a5 := Tryz.isAgg5, z5 := Tryz.sizeOf5, v5 := Tryz.zeroValue5,
  t9 := Tryz.underlying9, a9 := Tryz.isAgg9, z9 := Tryz.sizeOf9,
  v9 := Tryz.zeroValue9, t46 := Tryz.underlying184, a46 := Tryz.isAgg184,
  z46 := Tryz.sizeOf184, v46 := Tryz.zeroValue184, t51 := Tryz.underlying210,
  a51 := Tryz.isAgg210, z51 := Tryz.sizeOf210, v51 := Tryz.zeroValue210,
  t59 := Tryz.underlying86, a59 := Tryz.isAgg86, z59 := Tryz.sizeOf86,
  v59 := Tryz.zeroValue86, t146 := Tryz.underlying233, a146 := Tryz.isAgg233,
  z146 := Tryz.sizeOf233, v146 := Tryz.zeroValue233,
  g1 := by kernel_rfl,
  i3 := Eq.refl (Option.some (Option.some (Go.Value.int Go.IntKind.i64 0), 1, 8)),
  i4 := Eq.refl (Option.some (Option.some (Go.Value.bool Bool.false), 1, 1)),
  i5 := Eq.refl (Option.some (Option.some (Go.Value.int Go.IntKind.u8 0), 1, 1)),
  i9 := Eq.refl (Option.some (Option.some (Go.Value.string { data := #[] }), 1, 16)),
  i46 := Eq.refl (Option.some (Option.some (Go.Value.int Go.IntKind.u64 0), 1, 8)),
  i51 := Eq.refl (Option.some (Option.some (Go.Value.int Go.IntKind.u32 0), 1, 4)),
  i59 :=
    Eq.refl
      (Option.some
        (Option.some
            (Go.Value.tuple
              #[Go.Value.string { data := #[] }, Go.Value.string { data := #[] }, Go.Value.bool Bool.false]),
          1, 0)),
  i146 :=
    Eq.refl
      (Option.some
        (Option.some (Go.Value.tuple #[Go.Value.int Go.IntKind.u32 0, Go.Value.int Go.IntKind.u32 0]), 1, 0)),
  m1 := by kernel_rfl,
  s1_3 := fun w h ↦
    Go.Proofs.cell_of_shapedOpen_int h (of_decide_eq_true (Eq.refl Bool.true))
      (Eq.refl (Option.some (#[Go.Value.int Go.IntKind.i64 0], 3))) rfl (Eq.refl Bool.true) (Eq.refl (Option.some [3]))
      Tryz.underlying3 }
end Go.Proofs.YtnpccnhamohnkaaGreatDoor
