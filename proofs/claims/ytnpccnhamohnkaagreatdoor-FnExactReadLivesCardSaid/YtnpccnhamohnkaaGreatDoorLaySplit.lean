/-
  A structure of the shelf, laid at this program: LaysM.n146.
-/
import Derived.Shelf.LaysM
import Derived.Shelf.Strings.SplitShaped
import Derived.KernelRfl
import Derived.Test.YtnpccnhamohnkaaGreatDoorProg
namespace Go.Proofs.YtnpccnhamohnkaaGreatDoor
open Go Go.Proofs Go.Shelf
set_option maxRecDepth 100000

def renSplit : Go.Shelf.Ren :=
{
  f := fun x ↦
    match x with
    | 146 => 131
    | 221 => 191
    | 268 => 224
    | 138 => 225
    | 143 => 161
    | 195 => 259
    | 197 => 176
    | 218 => 260
    | 219 => 172
    | 260 => 214
    | 217 => 205
    | 225 => 210
    | 224 => 211
    | 267 => 212
    | 266 => 247
    | 314 => 252
    | n => n,
  t := fun x ↦
    match x with
    | 9 => 9
    | 31 => 72
    | 3 => 3
    | 4 => 4
    | 0 => 0
    | 105 => 212
    | 21 => 21
    | 5 => 5
    | 46 => 184
    | 119 => 275
    | 139 => 278
    | 138 => 277
    | 146 => 233
    | 51 => 210
    | n => n,
  g := fun x ↦
    match x with
    | 1 => 0
    | 3 => 3
    | 4 => 4
    | n => n }
theorem laysSplit : Go.Proofs.LaysM.n146 Tryz.prog renSplit :=
{ mixed := Eq.refl Bool.true,
  f138 :=
    Eq.trans Tryz.func225 (congrArg Option.some (Eq.refl (Go.Proofs.Body.n138 renSplit))),
  f143 :=
    Eq.trans Tryz.func161 (congrArg Option.some (Eq.refl (Go.Proofs.Body.n143 renSplit))),
  f146 :=
    Eq.trans Tryz.func131 (congrArg Option.some (Eq.refl (Go.Proofs.Body.n146 renSplit))),
  f195 :=
    Eq.trans Tryz.func259 (congrArg Option.some (Eq.refl (Go.Proofs.Body.n195 renSplit))),
  f197 :=
    Eq.trans Tryz.func176 (congrArg Option.some (Eq.refl (Go.Proofs.Body.n197 renSplit))),
  f217 :=
    Eq.trans Tryz.func205 (congrArg Option.some (Eq.refl (Go.Proofs.Body.n217 renSplit))),
  f218 :=
    Eq.trans Tryz.func260 (congrArg Option.some (Eq.refl (Go.Proofs.Body.n218 renSplit))),
  f219 :=
    Eq.trans Tryz.func172 (congrArg Option.some (Eq.refl (Go.Proofs.Body.n219 renSplit))),
  f221 :=
    Eq.trans Tryz.func191 (congrArg Option.some (Eq.refl (Go.Proofs.Body.n221 renSplit))),
  f224 :=
    Eq.trans Tryz.func211 (congrArg Option.some (Eq.refl (Go.Proofs.Body.n224 renSplit))),
  f225 :=
    Eq.trans Tryz.func210 (congrArg Option.some (Eq.refl (Go.Proofs.Body.n225 renSplit))),
  f260 :=
    Eq.trans Tryz.func214 (congrArg Option.some (Eq.refl (Go.Proofs.Body.n260 renSplit))),
  f266 :=
    Eq.trans Tryz.func247 (congrArg Option.some (Eq.refl (Go.Proofs.Body.n266 renSplit))),
  f267 :=
    Eq.trans Tryz.func212 (congrArg Option.some (Eq.refl (Go.Proofs.Body.n267 renSplit))),
  f268 :=
    Eq.trans Tryz.func224 (congrArg Option.some (Eq.refl (Go.Proofs.Body.n268 renSplit))),
  f314 :=
    Eq.trans Tryz.func252 (congrArg Option.some (Eq.refl (Go.Proofs.Body.n314 renSplit))),
  t0 := Tryz.underlying0, a0 := Tryz.isAgg0, z0 := Tryz.sizeOf0,
  v0 := Tryz.zeroValue0, t3 := Tryz.underlying3, a3 := Tryz.isAgg3,
  z3 := Tryz.sizeOf3, v3 := Tryz.zeroValue3, t4 := Tryz.underlying4,
  a4 := Tryz.isAgg4, z4 := Tryz.sizeOf4, v4 := Tryz.zeroValue4,
  t5 := Tryz.underlying5, a5 := Tryz.isAgg5, z5 := Tryz.sizeOf5,
  v5 := Tryz.zeroValue5, t9 := Tryz.underlying9, a9 := Tryz.isAgg9,
  z9 := Tryz.sizeOf9, v9 := Tryz.zeroValue9, t21 := Tryz.underlying21,
  a21 := Tryz.isAgg21, z21 := Tryz.sizeOf21, v21 := Tryz.zeroValue21,
  t31 := Tryz.underlying72, a31 := Tryz.isAgg72, z31 := Tryz.sizeOf72,
  v31 := Tryz.zeroValue72, t46 := Tryz.underlying184, a46 := Tryz.isAgg184,
  z46 := Tryz.sizeOf184, v46 := Tryz.zeroValue184, t51 := Tryz.underlying210,
  a51 := Tryz.isAgg210, z51 := Tryz.sizeOf210, v51 := Tryz.zeroValue210,
  t105 := Tryz.underlying212, a105 := Tryz.isAgg212, z105 := Tryz.sizeOf212,
  v105 := Tryz.zeroValue212, t119 := Tryz.underlying275, a119 := Tryz.isAgg275,
  z119 := Tryz.sizeOf275, t138 := Tryz.underlying277, a138 := Tryz.isAgg277,
  z138 := Tryz.sizeOf277, v138 := Tryz.zeroValue277, t139 := Tryz.underlying278,
  a139 := Tryz.isAgg278, z139 := Tryz.sizeOf278, v139 := Tryz.zeroValue278,
  t146 := Tryz.underlying233, a146 := Tryz.isAgg233, z146 := Tryz.sizeOf233,
  v146 := Tryz.zeroValue233, g1 := by kernel_rfl,
  g3 := by kernel_rfl,
  g4 := by kernel_rfl,
  i0 := Eq.refl (Option.some (Option.some (Go.Value.tuple #[]), 1, 0)),
  i3 := Eq.refl (Option.some (Option.some (Go.Value.int Go.IntKind.i64 0), 1, 8)),
  i4 := Eq.refl (Option.some (Option.some (Go.Value.bool Bool.false), 1, 1)),
  i5 := Eq.refl (Option.some (Option.some (Go.Value.int Go.IntKind.u8 0), 1, 1)),
  i9 := Eq.refl (Option.some (Option.some (Go.Value.string { data := #[] }), 1, 16)),
  i21 := Eq.refl (Option.some (Option.some (Go.Value.int Go.IntKind.i32 0), 1, 4)),
  i31 := Eq.refl (Option.some (Option.some (Go.Value.slice Option.none 0 0), 1, 24)),
  i46 := Eq.refl (Option.some (Option.some (Go.Value.int Go.IntKind.u64 0), 1, 8)),
  i51 := Eq.refl (Option.some (Option.some (Go.Value.int Go.IntKind.u32 0), 1, 4)),
  i105 :=
    Eq.refl
      (Option.some
        (Option.some (Go.Value.tuple #[Go.Value.int Go.IntKind.i32 0, Go.Value.int Go.IntKind.i64 0]), 1, 0)),
  i138 :=
    Eq.refl
      (Option.some (Option.some (Go.Value.agg #[Go.Value.int Go.IntKind.u8 0, Go.Value.int Go.IntKind.u8 0]), 2, 2)),
  i139 :=
    Eq.refl
      (Option.some
        (Option.some
            (Go.Value.agg
              #[Go.Value.int Go.IntKind.u8 0, Go.Value.int Go.IntKind.u8 0, Go.Value.int Go.IntKind.u8 0,
                Go.Value.int Go.IntKind.u8 0, Go.Value.int Go.IntKind.u8 0, Go.Value.int Go.IntKind.u8 0,
                Go.Value.int Go.IntKind.u8 0, Go.Value.int Go.IntKind.u8 0, Go.Value.int Go.IntKind.u8 0,
                Go.Value.int Go.IntKind.u8 0, Go.Value.int Go.IntKind.u8 0, Go.Value.int Go.IntKind.u8 0,
                Go.Value.int Go.IntKind.u8 0, Go.Value.int Go.IntKind.u8 0, Go.Value.int Go.IntKind.u8 0,
                Go.Value.int Go.IntKind.u8 0, Go.Value.int Go.IntKind.u8 0, Go.Value.int Go.IntKind.u8 0,
                Go.Value.int Go.IntKind.u8 0, Go.Value.int Go.IntKind.u8 0, Go.Value.int Go.IntKind.u8 0,
                Go.Value.int Go.IntKind.u8 0, Go.Value.int Go.IntKind.u8 0, Go.Value.int Go.IntKind.u8 0,
                Go.Value.int Go.IntKind.u8 0, Go.Value.int Go.IntKind.u8 0, Go.Value.int Go.IntKind.u8 0,
                Go.Value.int Go.IntKind.u8 0, Go.Value.int Go.IntKind.u8 0, Go.Value.int Go.IntKind.u8 0,
                Go.Value.int Go.IntKind.u8 0, Go.Value.int Go.IntKind.u8 0]),
          32, 32)),
  i146 :=
    Eq.refl
      (Option.some
        (Option.some (Go.Value.tuple #[Go.Value.int Go.IntKind.u32 0, Go.Value.int Go.IntKind.u32 0]), 1, 0)),
  m1 := by kernel_rfl,
  s1_3 := fun w h ↦
    Go.Proofs.cell_of_shapedOpen_int h (of_decide_eq_true (Eq.refl Bool.true))
      (Eq.refl (Option.some (#[Go.Value.int Go.IntKind.i64 0], 3))) rfl (Eq.refl Bool.true) (Eq.refl (Option.some [3]))
      Tryz.underlying3,
  m3 := by kernel_rfl,
  m4 := by kernel_rfl }
end Go.Proofs.YtnpccnhamohnkaaGreatDoor
