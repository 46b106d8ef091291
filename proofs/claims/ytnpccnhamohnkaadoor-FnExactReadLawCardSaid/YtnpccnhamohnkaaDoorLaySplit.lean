/-
  A structure of the shelf, laid at this program: LaysM.n146.
-/
import Derived.Shelf.LaysM
import Derived.Shelf.Strings.SplitShaped
import Derived.KernelRfl
import Derived.Test.YtnpccnhamohnkaaDoorProg
namespace Go.Proofs.YtnpccnhamohnkaaDoor
open Go Go.Proofs Go.Shelf
set_option maxRecDepth 100000

def renSplit : Go.Shelf.Ren :=
{
  f := fun x ↦
    match x with
    | 146 => 37
    | 221 => 53
    | 268 => 68
    | 138 => 69
    | 143 => 70
    | 195 => 83
    | 197 => 84
    | 218 => 85
    | 219 => 33
    | 260 => 93
    | 217 => 43
    | 225 => 44
    | 224 => 45
    | 267 => 46
    | 266 => 57
    | 314 => 58
    | n => n,
  t := fun x ↦
    match x with
    | 9 => 9
    | 31 => 42
    | 3 => 3
    | 4 => 4
    | 0 => 0
    | 105 => 117
    | 21 => 21
    | 5 => 5
    | 46 => 74
    | 119 => 128
    | 139 => 131
    | 138 => 130
    | 146 => 82
    | 51 => 67
    | n => n,
  g := fun x ↦
    match x with
    | 1 => 0
    | 3 => 7
    | 4 => 8
    | n => n }
theorem laysSplit : Go.Proofs.LaysM.n146 Tryd.prog renSplit :=
{ mixed := Eq.refl Bool.true,
  f138 :=
    Eq.trans Tryd.func69 (congrArg Option.some (Eq.refl (Go.Proofs.Body.n138 renSplit))),
  f143 :=
    Eq.trans Tryd.func70 (congrArg Option.some (Eq.refl (Go.Proofs.Body.n143 renSplit))),
  f146 :=
    Eq.trans Tryd.func37 (congrArg Option.some (Eq.refl (Go.Proofs.Body.n146 renSplit))),
  f195 :=
    Eq.trans Tryd.func83 (congrArg Option.some (Eq.refl (Go.Proofs.Body.n195 renSplit))),
  f197 :=
    Eq.trans Tryd.func84 (congrArg Option.some (Eq.refl (Go.Proofs.Body.n197 renSplit))),
  f217 :=
    Eq.trans Tryd.func43 (congrArg Option.some (Eq.refl (Go.Proofs.Body.n217 renSplit))),
  f218 :=
    Eq.trans Tryd.func85 (congrArg Option.some (Eq.refl (Go.Proofs.Body.n218 renSplit))),
  f219 :=
    Eq.trans Tryd.func33 (congrArg Option.some (Eq.refl (Go.Proofs.Body.n219 renSplit))),
  f221 :=
    Eq.trans Tryd.func53 (congrArg Option.some (Eq.refl (Go.Proofs.Body.n221 renSplit))),
  f224 :=
    Eq.trans Tryd.func45 (congrArg Option.some (Eq.refl (Go.Proofs.Body.n224 renSplit))),
  f225 :=
    Eq.trans Tryd.func44 (congrArg Option.some (Eq.refl (Go.Proofs.Body.n225 renSplit))),
  f260 :=
    Eq.trans Tryd.func93 (congrArg Option.some (Eq.refl (Go.Proofs.Body.n260 renSplit))),
  f266 :=
    Eq.trans Tryd.func57 (congrArg Option.some (Eq.refl (Go.Proofs.Body.n266 renSplit))),
  f267 :=
    Eq.trans Tryd.func46 (congrArg Option.some (Eq.refl (Go.Proofs.Body.n267 renSplit))),
  f268 :=
    Eq.trans Tryd.func68 (congrArg Option.some (Eq.refl (Go.Proofs.Body.n268 renSplit))),
  f314 :=
    Eq.trans Tryd.func58 (congrArg Option.some (Eq.refl (Go.Proofs.Body.n314 renSplit))),
  t0 := Tryd.underlying0, a0 := Tryd.isAgg0, z0 := Tryd.sizeOf0,
  v0 := Tryd.zeroValue0, t3 := Tryd.underlying3, a3 := Tryd.isAgg3,
  z3 := Tryd.sizeOf3, v3 := Tryd.zeroValue3, t4 := Tryd.underlying4,
  a4 := Tryd.isAgg4, z4 := Tryd.sizeOf4, v4 := Tryd.zeroValue4,
  t5 := Tryd.underlying5, a5 := Tryd.isAgg5, z5 := Tryd.sizeOf5,
  v5 := Tryd.zeroValue5, t9 := Tryd.underlying9, a9 := Tryd.isAgg9,
  z9 := Tryd.sizeOf9, v9 := Tryd.zeroValue9, t21 := Tryd.underlying21,
  a21 := Tryd.isAgg21, z21 := Tryd.sizeOf21, v21 := Tryd.zeroValue21,
  t31 := Tryd.underlying42, a31 := Tryd.isAgg42, z31 := Tryd.sizeOf42,
  v31 := Tryd.zeroValue42, t46 := Tryd.underlying74, a46 := Tryd.isAgg74,
  z46 := Tryd.sizeOf74, v46 := Tryd.zeroValue74, t51 := Tryd.underlying67,
  a51 := Tryd.isAgg67, z51 := Tryd.sizeOf67, v51 := Tryd.zeroValue67,
  t105 := Tryd.underlying117, a105 := Tryd.isAgg117, z105 := Tryd.sizeOf117,
  v105 := Tryd.zeroValue117, t119 := Tryd.underlying128, a119 := Tryd.isAgg128,
  z119 := Tryd.sizeOf128, t138 := Tryd.underlying130, a138 := Tryd.isAgg130,
  z138 := Tryd.sizeOf130, v138 := Tryd.zeroValue130, t139 := Tryd.underlying131,
  a139 := Tryd.isAgg131, z139 := Tryd.sizeOf131, v139 := Tryd.zeroValue131,
  t146 := Tryd.underlying82, a146 := Tryd.isAgg82, z146 := Tryd.sizeOf82,
  v146 := Tryd.zeroValue82, g1 := by kernel_rfl,
  g3 := by kernel_rfl,
  g4 := by kernel_rfl,
  i0 := Eq.refl (Option.some (Option.some (Go.Value.tuple #[]), 1, 0)),
  i3 := Eq.refl (Option.some (Option.some (Go.Value.int Go.IntKind.i64 0), 1, 8)),
  i4 := Eq.refl (Option.some (Option.some (Go.Value.bool Bool.false), 1, 1)),
  i5 := Eq.refl (Option.some (Option.some (Go.Value.int Go.IntKind.u8 0), 1, 1)),
  i9 := Eq.refl (Option.some (Option.some (Go.Value.string { data := #[] }), 1, 16)),
  i21 := Eq.refl (Option.some (Option.some (Go.Value.int Go.IntKind.i32 0), 1, 4)),
  i31 := Eq.refl (Option.some (Option.some (Go.Value.slice Option.none 0 0), 1, 24)),
  i46 := Eq.refl (Option.some (Option.some (Go.Value.int Go.IntKind.u64 0), 1, 8)),
  i51 := Eq.refl (Option.some (Option.some (Go.Value.int Go.IntKind.u32 0), 1, 4)),
  i105 :=
    Eq.refl
      (Option.some
        (Option.some (Go.Value.tuple #[Go.Value.int Go.IntKind.i32 0, Go.Value.int Go.IntKind.i64 0]), 1, 0)),
  i138 :=
    Eq.refl
      (Option.some (Option.some (Go.Value.agg #[Go.Value.int Go.IntKind.u8 0, Go.Value.int Go.IntKind.u8 0]), 2, 2)),
  i139 :=
    Eq.refl
      (Option.some
        (Option.some
            (Go.Value.agg
              #[Go.Value.int Go.IntKind.u8 0, Go.Value.int Go.IntKind.u8 0, Go.Value.int Go.IntKind.u8 0,
                Go.Value.int Go.IntKind.u8 0, Go.Value.int Go.IntKind.u8 0, Go.Value.int Go.IntKind.u8 0,
                Go.Value.int Go.IntKind.u8 0, Go.Value.int Go.IntKind.u8 0, Go.Value.int Go.IntKind.u8 0,
                Go.Value.int Go.IntKind.u8 0, Go.Value.int Go.IntKind.u8 0, Go.Value.int Go.IntKind.u8 0,
                Go.Value.int Go.IntKind.u8 0, Go.Value.int Go.IntKind.u8 0, Go.Value.int Go.IntKind.u8 0,
                Go.Value.int Go.IntKind.u8 0, Go.Value.int Go.IntKind.u8 0, Go.Value.int Go.IntKind.u8 0,
                Go.Value.int Go.IntKind.u8 0, Go.Value.int Go.IntKind.u8 0, Go.Value.int Go.IntKind.u8 0,
                Go.Value.int Go.IntKind.u8 0, Go.Value.int Go.IntKind.u8 0, Go.Value.int Go.IntKind.u8 0,
                Go.Value.int Go.IntKind.u8 0, Go.Value.int Go.IntKind.u8 0, Go.Value.int Go.IntKind.u8 0,
                Go.Value.int Go.IntKind.u8 0, Go.Value.int Go.IntKind.u8 0, Go.Value.int Go.IntKind.u8 0,
                Go.Value.int Go.IntKind.u8 0, Go.Value.int Go.IntKind.u8 0]),
          32, 32)),
  i146 :=
    Eq.refl
      (Option.some
        (Option.some (Go.Value.tuple #[Go.Value.int Go.IntKind.u32 0, Go.Value.int Go.IntKind.u32 0]), 1, 0)),
  m1 := by kernel_rfl,
  s1_3 := fun w h ↦
    Go.Proofs.cell_of_shapedOpen_int h (of_decide_eq_true (Eq.refl Bool.true))
      (Eq.refl (Option.some (#[Go.Value.int Go.IntKind.i64 0], 3))) rfl (Eq.refl Bool.true) (Eq.refl (Option.some [3]))
      Tryd.underlying3,
  m3 := by kernel_rfl,
  m4 := by kernel_rfl }
end Go.Proofs.YtnpccnhamohnkaaDoor
