/-
  A structure of the shelf, laid at this program: LaysM.n173.
-/
import Derived.Shelf.LaysM
import Derived.Shelf.Strconv.Itoa4
import Derived.KernelRfl
import Derived.Test.YtempapfphliniaaDoorProg
namespace Go.Proofs.YtempapfphliniaaDoor
open Go Go.Proofs Go.Shelf
set_option maxRecDepth 100000

def renFormatInt : Go.Shelf.Ren :=
{
  f := fun x ↦
    match x with
    | 173 => 69
    | 246 => 92
    | 283 => 109
    | 284 => 110
    | 285 => 111
    | 286 => 112
    | 129 => 127
    | 317 => 126
    | 318 => 128
    | 319 => 129
    | 320 => 130
    | 337 => 140
    | 338 => 141
    | n => n,
  t := fun x ↦
    match x with
    | 2 => 2
    | 3 => 3
    | 9 => 9
    | 4 => 4
    | 171 => 137
    | 0 => 0
    | 53 => 138
    | 37 => 62
    | 5 => 5
    | 173 => 141
    | 212 => 158
    | 51 => 144
    | 20 => 20
    | 213 => 159
    | 46 => 136
    | 232 => 175
    | 233 => 176
    | n => n,
  g := fun x ↦
    match x with
    | 17 => 1
    | 18 => 5
    | 19 => 6
    | n => n }
theorem laysFormatInt : Go.Proofs.LaysM.n173 Tryd.prog renFormatInt :=
{ mixed := Eq.refl Bool.true,
  f129 :=
    Eq.trans Tryd.func127
      (congrArg Option.some (Eq.refl (Go.Proofs.Body.n129 renFormatInt))),
  f173 :=
    Eq.trans Tryd.func69
      (congrArg Option.some (Eq.refl (Go.Proofs.Body.n173 renFormatInt))),
  f246 :=
    Eq.trans Tryd.func92
      (congrArg Option.some (Eq.refl (Go.Proofs.Body.n246 renFormatInt))),
  f283 :=
    Eq.trans Tryd.func109
      (congrArg Option.some (Eq.refl (Go.Proofs.Body.n283 renFormatInt))),
  f284 :=
    Eq.trans Tryd.func110
      (congrArg Option.some (Eq.refl (Go.Proofs.Body.n284 renFormatInt))),
  f285 :=
    Eq.trans Tryd.func111
      (congrArg Option.some (Eq.refl (Go.Proofs.Body.n285 renFormatInt))),
  f286 :=
    Eq.trans Tryd.func112
      (congrArg Option.some (Eq.refl (Go.Proofs.Body.n286 renFormatInt))),
  f317 :=
    Eq.trans Tryd.func126
      (congrArg Option.some (Eq.refl (Go.Proofs.Body.n317 renFormatInt))),
  f318 :=
    Eq.trans Tryd.func128
      (congrArg Option.some (Eq.refl (Go.Proofs.Body.n318 renFormatInt))),
  f319 :=
    Eq.trans Tryd.func129
      (congrArg Option.some (Eq.refl (Go.Proofs.Body.n319 renFormatInt))),
  f320 :=
    Eq.trans Tryd.func130
      (congrArg Option.some (Eq.refl (Go.Proofs.Body.n320 renFormatInt))),
  f337 :=
    Eq.trans Tryd.func140
      (congrArg Option.some (Eq.refl (Go.Proofs.Body.n337 renFormatInt))),
  f338 :=
    Eq.trans Tryd.func141
      (congrArg Option.some (Eq.refl (Go.Proofs.Body.n338 renFormatInt))),
  t0 := Tryd.underlying0, a0 := Tryd.isAgg0, z0 := Tryd.sizeOf0,
  v0 := Tryd.zeroValue0, t2 := Tryd.underlying2, a2 := Tryd.isAgg2,
  z2 := Tryd.sizeOf2, v2 := Tryd.zeroValue2, t3 := Tryd.underlying3,
  a3 := Tryd.isAgg3, z3 := Tryd.sizeOf3, v3 := Tryd.zeroValue3,
  t4 := Tryd.underlying4, a4 := Tryd.isAgg4, z4 := Tryd.sizeOf4,
  v4 := Tryd.zeroValue4, t5 := Tryd.underlying5, a5 := Tryd.isAgg5,
  z5 := Tryd.sizeOf5, v5 := Tryd.zeroValue5, t9 := Tryd.underlying9,
  a9 := Tryd.isAgg9, z9 := Tryd.sizeOf9, v9 := Tryd.zeroValue9,
  t20 := Tryd.underlying20, a20 := Tryd.isAgg20, z20 := Tryd.sizeOf20,
  v20 := Tryd.zeroValue20, t37 := Tryd.underlying62, a37 := Tryd.isAgg62,
  z37 := Tryd.sizeOf62, v37 := Tryd.zeroValue62, t46 := Tryd.underlying136,
  a46 := Tryd.isAgg136, z46 := Tryd.sizeOf136, v46 := Tryd.zeroValue136,
  t51 := Tryd.underlying144, a51 := Tryd.isAgg144, z51 := Tryd.sizeOf144,
  v51 := Tryd.zeroValue144, t53 := Tryd.underlying138, a53 := Tryd.isAgg138,
  z53 := Tryd.sizeOf138, v53 := Tryd.zeroValue138, t171 := Tryd.underlying137,
  a171 := Tryd.isAgg137, z171 := Tryd.sizeOf137, v171 := Tryd.zeroValue137,
  t173 := Tryd.underlying141, a173 := Tryd.isAgg141, z173 := Tryd.sizeOf141,
  v173 := Tryd.zeroValue141, t212 := Tryd.underlying158, a212 := Tryd.isAgg158,
  z212 := Tryd.sizeOf158, v212 := Tryd.zeroValue158, t213 := Tryd.underlying159,
  a213 := Tryd.isAgg159, z213 := Tryd.sizeOf159, t232 := Tryd.underlying175,
  a232 := Tryd.isAgg175, z232 := Tryd.sizeOf175, v232 := Tryd.zeroValue175,
  t233 := Tryd.underlying176, a233 := Tryd.isAgg176, z233 := Tryd.sizeOf176,
  v233 := Tryd.zeroValue176, g17 := by kernel_rfl,
  g18 := by kernel_rfl,
  g19 := by kernel_rfl,
  i0 := Eq.refl (Option.some (Option.some (Go.Value.tuple #[]), 1, 0)),
  i2 := Eq.refl (Option.some (Option.some (Go.Value.int Go.IntKind.i64 0), 1, 8)),
  i3 := Eq.refl (Option.some (Option.some (Go.Value.int Go.IntKind.i64 0), 1, 8)),
  i4 := Eq.refl (Option.some (Option.some (Go.Value.bool Bool.false), 1, 1)),
  i5 := Eq.refl (Option.some (Option.some (Go.Value.int Go.IntKind.u8 0), 1, 1)),
  i9 := Eq.refl (Option.some (Option.some (Go.Value.string { data := #[] }), 1, 16)),
  i20 := Eq.refl (Option.some (Option.some Go.Value.nilIface, 1, 16)),
  i37 := Eq.refl (Option.some (Option.some (Go.Value.slice Option.none 0 0), 1, 24)),
  i46 := Eq.refl (Option.some (Option.some (Go.Value.int Go.IntKind.u64 0), 1, 8)),
  i51 := Eq.refl (Option.some (Option.some (Go.Value.int Go.IntKind.u32 0), 1, 4)),
  i53 := Eq.refl (Option.some (Option.some (Go.Value.int Go.IntKind.u64 0), 1, 8)),
  i171 :=
    Eq.refl
      (Option.some
        (Option.some
            (Go.Value.agg
              #[Go.Value.int Go.IntKind.u8 0, Go.Value.int Go.IntKind.u8 0, Go.Value.int Go.IntKind.u8 0,
                Go.Value.int Go.IntKind.u8 0, Go.Value.int Go.IntKind.u8 0, Go.Value.int Go.IntKind.u8 0,
                Go.Value.int Go.IntKind.u8 0, Go.Value.int Go.IntKind.u8 0, Go.Value.int Go.IntKind.u8 0,
                Go.Value.int Go.IntKind.u8 0, Go.Value.int Go.IntKind.u8 0, Go.Value.int Go.IntKind.u8 0,
                Go.Value.int Go.IntKind.u8 0, Go.Value.int Go.IntKind.u8 0, Go.Value.int Go.IntKind.u8 0,
                Go.Value.int Go.IntKind.u8 0, Go.Value.int Go.IntKind.u8 0, Go.Value.int Go.IntKind.u8 0,
                Go.Value.int Go.IntKind.u8 0, Go.Value.int Go.IntKind.u8 0, Go.Value.int Go.IntKind.u8 0,
                Go.Value.int Go.IntKind.u8 0, Go.Value.int Go.IntKind.u8 0, Go.Value.int Go.IntKind.u8 0]),
          24, 24)),
  i173 :=
    Eq.refl
      (Option.some
        (Option.some (Go.Value.tuple #[Go.Value.slice Option.none 0 0, Go.Value.string { data := #[] }]), 1, 0)),
  i212 :=
    Eq.refl
      (Option.some
        (Option.some
            (Go.Value.agg
              #[Go.Value.int Go.IntKind.u64 0, Go.Value.int Go.IntKind.u64 0, Go.Value.int Go.IntKind.u64 0,
                Go.Value.int Go.IntKind.u64 0, Go.Value.int Go.IntKind.u64 0, Go.Value.int Go.IntKind.u64 0,
                Go.Value.int Go.IntKind.u64 0, Go.Value.int Go.IntKind.u64 0, Go.Value.int Go.IntKind.u64 0,
                Go.Value.int Go.IntKind.u64 0, Go.Value.int Go.IntKind.u64 0, Go.Value.int Go.IntKind.u64 0,
                Go.Value.int Go.IntKind.u64 0, Go.Value.int Go.IntKind.u64 0, Go.Value.int Go.IntKind.u64 0,
                Go.Value.int Go.IntKind.u64 0, Go.Value.int Go.IntKind.u64 0, Go.Value.int Go.IntKind.u64 0,
                Go.Value.int Go.IntKind.u64 0, Go.Value.int Go.IntKind.u64 0]),
          20, 160)),
  i232 :=
    Eq.refl
      (Option.some
        (Option.some
            (Go.Value.agg
              #[Go.Value.int Go.IntKind.u8 0, Go.Value.int Go.IntKind.u8 0, Go.Value.int Go.IntKind.u8 0,
                Go.Value.int Go.IntKind.u8 0, Go.Value.int Go.IntKind.u8 0, Go.Value.int Go.IntKind.u8 0,
                Go.Value.int Go.IntKind.u8 0, Go.Value.int Go.IntKind.u8 0, Go.Value.int Go.IntKind.u8 0,
                Go.Value.int Go.IntKind.u8 0, Go.Value.int Go.IntKind.u8 0, Go.Value.int Go.IntKind.u8 0,
                Go.Value.int Go.IntKind.u8 0, Go.Value.int Go.IntKind.u8 0, Go.Value.int Go.IntKind.u8 0,
                Go.Value.int Go.IntKind.u8 0, Go.Value.int Go.IntKind.u8 0, Go.Value.int Go.IntKind.u8 0,
                Go.Value.int Go.IntKind.u8 0, Go.Value.int Go.IntKind.u8 0, Go.Value.int Go.IntKind.u8 0,
                Go.Value.int Go.IntKind.u8 0, Go.Value.int Go.IntKind.u8 0, Go.Value.int Go.IntKind.u8 0,
                Go.Value.int Go.IntKind.u8 0, Go.Value.int Go.IntKind.u8 0, Go.Value.int Go.IntKind.u8 0,
                Go.Value.int Go.IntKind.u8 0, Go.Value.int Go.IntKind.u8 0, Go.Value.int Go.IntKind.u8 0,
                Go.Value.int Go.IntKind.u8 0, Go.Value.int Go.IntKind.u8 0]),
          32, 32)),
  i233 :=
    Eq.refl
      (Option.some
        (Option.some
            (Go.Value.agg
              (let y :=
                  let y :=
                    let y :=
                      let y :=
                        [Go.Value.int Go.IntKind.u8 0, Go.Value.int Go.IntKind.u8 0, Go.Value.int Go.IntKind.u8 0,
                          Go.Value.int Go.IntKind.u8 0];
                      Go.Value.int Go.IntKind.u8 0 ::
                        Go.Value.int Go.IntKind.u8 0 ::
                          Go.Value.int Go.IntKind.u8 0 :: Go.Value.int Go.IntKind.u8 0 :: y;
                    let y :=
                      Go.Value.int Go.IntKind.u8 0 ::
                        Go.Value.int Go.IntKind.u8 0 ::
                          Go.Value.int Go.IntKind.u8 0 :: Go.Value.int Go.IntKind.u8 0 :: y;
                    Go.Value.int Go.IntKind.u8 0 ::
                      Go.Value.int Go.IntKind.u8 0 :: Go.Value.int Go.IntKind.u8 0 :: Go.Value.int Go.IntKind.u8 0 :: y;
                  let y :=
                    let y :=
                      Go.Value.int Go.IntKind.u8 0 ::
                        Go.Value.int Go.IntKind.u8 0 ::
                          Go.Value.int Go.IntKind.u8 0 :: Go.Value.int Go.IntKind.u8 0 :: y;
                    Go.Value.int Go.IntKind.u8 0 ::
                      Go.Value.int Go.IntKind.u8 0 :: Go.Value.int Go.IntKind.u8 0 :: Go.Value.int Go.IntKind.u8 0 :: y;
                  let y :=
                    Go.Value.int Go.IntKind.u8 0 ::
                      Go.Value.int Go.IntKind.u8 0 :: Go.Value.int Go.IntKind.u8 0 :: Go.Value.int Go.IntKind.u8 0 :: y;
                  Go.Value.int Go.IntKind.u8 0 ::
                    Go.Value.int Go.IntKind.u8 0 :: Go.Value.int Go.IntKind.u8 0 :: Go.Value.int Go.IntKind.u8 0 :: y;
                let y :=
                  let y :=
                    let y :=
                      Go.Value.int Go.IntKind.u8 0 ::
                        Go.Value.int Go.IntKind.u8 0 ::
                          Go.Value.int Go.IntKind.u8 0 :: Go.Value.int Go.IntKind.u8 0 :: y;
                    Go.Value.int Go.IntKind.u8 0 ::
                      Go.Value.int Go.IntKind.u8 0 :: Go.Value.int Go.IntKind.u8 0 :: Go.Value.int Go.IntKind.u8 0 :: y;
                  let y :=
                    Go.Value.int Go.IntKind.u8 0 ::
                      Go.Value.int Go.IntKind.u8 0 :: Go.Value.int Go.IntKind.u8 0 :: Go.Value.int Go.IntKind.u8 0 :: y;
                  Go.Value.int Go.IntKind.u8 0 ::
                    Go.Value.int Go.IntKind.u8 0 :: Go.Value.int Go.IntKind.u8 0 :: Go.Value.int Go.IntKind.u8 0 :: y;
                let y :=
                  let y :=
                    Go.Value.int Go.IntKind.u8 0 ::
                      Go.Value.int Go.IntKind.u8 0 :: Go.Value.int Go.IntKind.u8 0 :: Go.Value.int Go.IntKind.u8 0 :: y;
                  Go.Value.int Go.IntKind.u8 0 ::
                    Go.Value.int Go.IntKind.u8 0 :: Go.Value.int Go.IntKind.u8 0 :: Go.Value.int Go.IntKind.u8 0 :: y;
                let y :=
                  Go.Value.int Go.IntKind.u8 0 ::
                    Go.Value.int Go.IntKind.u8 0 :: Go.Value.int Go.IntKind.u8 0 :: Go.Value.int Go.IntKind.u8 0 :: y;
                Go.Value.int Go.IntKind.u8 0 ::
                  Go.Value.int Go.IntKind.u8 0 ::
                    Go.Value.int Go.IntKind.u8 0 :: Go.Value.int Go.IntKind.u8 0 :: y).toArray),
          64, 64)),
  m17 := by kernel_rfl,
  m18 := by kernel_rfl,
  m19 := by kernel_rfl }
end Go.Proofs.YtempapfphliniaaDoor
