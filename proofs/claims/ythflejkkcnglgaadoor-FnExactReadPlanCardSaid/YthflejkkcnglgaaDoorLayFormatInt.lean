/-
  A structure of the shelf, laid at this program: LaysM.n173.
-/
import Derived.Shelf.LaysM
import Derived.Shelf.Strconv.Itoa4
import Derived.KernelRfl
import Derived.Test.YthflejkkcnglgaaDoorProg
namespace Go.Proofs.YthflejkkcnglgaaDoor
open Go Go.Proofs Go.Shelf
set_option maxRecDepth 100000

def renFormatInt : Go.Shelf.Ren :=
{
  f := fun x ↦
    match x with
    | 173 => 34
    | 246 => 40
    | 283 => 49
    | 284 => 50
    | 285 => 51
    | 286 => 52
    | 129 => 60
    | 317 => 59
    | 318 => 61
    | 319 => 62
    | 320 => 63
    | 337 => 65
    | 338 => 66
    | n => n,
  t := fun x ↦
    match x with
    | 2 => 2
    | 3 => 3
    | 9 => 9
    | 4 => 4
    | 171 => 71
    | 0 => 0
    | 53 => 65
    | 37 => 49
    | 5 => 5
    | 173 => 74
    | 212 => 85
    | 51 => 76
    | 20 => 20
    | 213 => 86
    | 46 => 63
    | 232 => 94
    | 233 => 95
    | n => n,
  g := fun x ↦
    match x with
    | 17 => 3
    | 18 => 4
    | 19 => 5
    | n => n }
theorem laysFormatInt : Go.Proofs.LaysM.n173 Tryd.prog renFormatInt :=
{ mixed := Eq.refl Bool.true,
  f129 :=
    Eq.trans Tryd.func60
      (congrArg Option.some (Eq.refl (Go.Proofs.Body.n129 renFormatInt))),
  f173 :=
    Eq.trans Tryd.func34
      (congrArg Option.some (Eq.refl (Go.Proofs.Body.n173 renFormatInt))),
  f246 :=
    Eq.trans Tryd.func40
      (congrArg Option.some (Eq.refl (Go.Proofs.Body.n246 renFormatInt))),
  f283 :=
    Eq.trans Tryd.func49
      (congrArg Option.some (Eq.refl (Go.Proofs.Body.n283 renFormatInt))),
  f284 :=
    Eq.trans Tryd.func50
      (congrArg Option.some (Eq.refl (Go.Proofs.Body.n284 renFormatInt))),
  f285 :=
    Eq.trans Tryd.func51
      (congrArg Option.some (Eq.refl (Go.Proofs.Body.n285 renFormatInt))),
  f286 :=
    Eq.trans Tryd.func52
      (congrArg Option.some (Eq.refl (Go.Proofs.Body.n286 renFormatInt))),
  f317 :=
    Eq.trans Tryd.func59
      (congrArg Option.some (Eq.refl (Go.Proofs.Body.n317 renFormatInt))),
  f318 :=
    Eq.trans Tryd.func61
      (congrArg Option.some (Eq.refl (Go.Proofs.Body.n318 renFormatInt))),
  f319 :=
    Eq.trans Tryd.func62
      (congrArg Option.some (Eq.refl (Go.Proofs.Body.n319 renFormatInt))),
  f320 :=
    Eq.trans Tryd.func63
      (congrArg Option.some (Eq.refl (Go.Proofs.Body.n320 renFormatInt))),
  f337 :=
    Eq.trans Tryd.func65
      (congrArg Option.some (Eq.refl (Go.Proofs.Body.n337 renFormatInt))),
  f338 :=
    Eq.trans Tryd.func66
      (congrArg Option.some (Eq.refl (Go.Proofs.Body.n338 renFormatInt))),
  t0 := Tryd.underlying0, a0 := Tryd.isAgg0, z0 := Tryd.sizeOf0,
  v0 := Tryd.zeroValue0, t2 := Tryd.underlying2, a2 := Tryd.isAgg2,
  z2 := Tryd.sizeOf2, v2 := Tryd.zeroValue2, t3 := Tryd.underlying3,
  a3 := Tryd.isAgg3, z3 := Tryd.sizeOf3, v3 := Tryd.zeroValue3,
  t4 := Tryd.underlying4, a4 := Tryd.isAgg4, z4 := Tryd.sizeOf4,
  v4 := Tryd.zeroValue4, t5 := Tryd.underlying5, a5 := Tryd.isAgg5,
  z5 := Tryd.sizeOf5, v5 := Tryd.zeroValue5, t9 := Tryd.underlying9,
  a9 := Tryd.isAgg9, z9 := Tryd.sizeOf9, v9 := Tryd.zeroValue9,
  t20 := Tryd.underlying20, a20 := Tryd.isAgg20, z20 := Tryd.sizeOf20,
  v20 := Tryd.zeroValue20, t37 := Tryd.underlying49, a37 := Tryd.isAgg49,
  z37 := Tryd.sizeOf49, v37 := Tryd.zeroValue49, t46 := Tryd.underlying63,
  a46 := Tryd.isAgg63, z46 := Tryd.sizeOf63, v46 := Tryd.zeroValue63,
  t51 := Tryd.underlying76, a51 := Tryd.isAgg76, z51 := Tryd.sizeOf76,
  v51 := Tryd.zeroValue76, t53 := Tryd.underlying65, a53 := Tryd.isAgg65,
  z53 := Tryd.sizeOf65, v53 := Tryd.zeroValue65, t171 := Tryd.underlying71,
  a171 := Tryd.isAgg71, z171 := Tryd.sizeOf71, v171 := Tryd.zeroValue71,
  t173 := Tryd.underlying74, a173 := Tryd.isAgg74, z173 := Tryd.sizeOf74,
  v173 := Tryd.zeroValue74, t212 := Tryd.underlying85, a212 := Tryd.isAgg85,
  z212 := Tryd.sizeOf85, v212 := Tryd.zeroValue85, t213 := Tryd.underlying86,
  a213 := Tryd.isAgg86, z213 := Tryd.sizeOf86, t232 := Tryd.underlying94,
  a232 := Tryd.isAgg94, z232 := Tryd.sizeOf94, v232 := Tryd.zeroValue94,
  t233 := Tryd.underlying95, a233 := Tryd.isAgg95, z233 := Tryd.sizeOf95,
  v233 := Tryd.zeroValue95, g17 := by kernel_rfl,
  g18 := by kernel_rfl,
  g19 := by kernel_rfl,
  i0 := Eq.refl (Option.some (Option.some (Go.Value.tuple #[]), 1, 0)),
  i2 := Eq.refl (Option.some (Option.some (Go.Value.int Go.IntKind.i64 0), 1, 8)),
  i3 := Eq.refl (Option.some (Option.some (Go.Value.int Go.IntKind.i64 0), 1, 8)),
  i4 := Eq.refl (Option.some (Option.some (Go.Value.bool Bool.false), 1, 1)),
  i5 := Eq.refl (Option.some (Option.some (Go.Value.int Go.IntKind.u8 0), 1, 1)),
  i9 := Eq.refl (Option.some (Option.some (Go.Value.string { data := #[] }), 1, 16)),
  i20 := Eq.refl (Option.some (Option.some Go.Value.nilIface, 1, 16)),
  i37 := Eq.refl (Option.some (Option.some (Go.Value.slice Option.none 0 0), 1, 24)),
  i46 := Eq.refl (Option.some (Option.some (Go.Value.int Go.IntKind.u64 0), 1, 8)),
  i51 := Eq.refl (Option.some (Option.some (Go.Value.int Go.IntKind.u32 0), 1, 4)),
  i53 := Eq.refl (Option.some (Option.some (Go.Value.int Go.IntKind.u64 0), 1, 8)),
  i171 :=
    Eq.refl
      (Option.some
        (Option.some
            (Go.Value.agg
              #[Go.Value.int Go.IntKind.u8 0, Go.Value.int Go.IntKind.u8 0, Go.Value.int Go.IntKind.u8 0,
                Go.Value.int Go.IntKind.u8 0, Go.Value.int Go.IntKind.u8 0, Go.Value.int Go.IntKind.u8 0,
                Go.Value.int Go.IntKind.u8 0, Go.Value.int Go.IntKind.u8 0, Go.Value.int Go.IntKind.u8 0,
                Go.Value.int Go.IntKind.u8 0, Go.Value.int Go.IntKind.u8 0, Go.Value.int Go.IntKind.u8 0,
                Go.Value.int Go.IntKind.u8 0, Go.Value.int Go.IntKind.u8 0, Go.Value.int Go.IntKind.u8 0,
                Go.Value.int Go.IntKind.u8 0, Go.Value.int Go.IntKind.u8 0, Go.Value.int Go.IntKind.u8 0,
                Go.Value.int Go.IntKind.u8 0, Go.Value.int Go.IntKind.u8 0, Go.Value.int Go.IntKind.u8 0,
                Go.Value.int Go.IntKind.u8 0, Go.Value.int Go.IntKind.u8 0, Go.Value.int Go.IntKind.u8 0]),
          24, 24)),
  i173 :=
    Eq.refl
      (Option.some
        (Option.some (Go.Value.tuple #[Go.Value.slice Option.none 0 0, Go.Value.string { data := #[] }]), 1, 0)),
  i212 :=
    Eq.refl
      (Option.some
        (Option.some
            (Go.Value.agg
              #[Go.Value.int Go.IntKind.u64 0, Go.Value.int Go.IntKind.u64 0, Go.Value.int Go.IntKind.u64 0,
                Go.Value.int Go.IntKind.u64 0, Go.Value.int Go.IntKind.u64 0, Go.Value.int Go.IntKind.u64 0,
                Go.Value.int Go.IntKind.u64 0, Go.Value.int Go.IntKind.u64 0, Go.Value.int Go.IntKind.u64 0,
                Go.Value.int Go.IntKind.u64 0, Go.Value.int Go.IntKind.u64 0, Go.Value.int Go.IntKind.u64 0,
                Go.Value.int Go.IntKind.u64 0, Go.Value.int Go.IntKind.u64 0, Go.Value.int Go.IntKind.u64 0,
                Go.Value.int Go.IntKind.u64 0, Go.Value.int Go.IntKind.u64 0, Go.Value.int Go.IntKind.u64 0,
                Go.Value.int Go.IntKind.u64 0, Go.Value.int Go.IntKind.u64 0]),
          20, 160)),
  i232 :=
    Eq.refl
      (Option.some
        (Option.some
            (Go.Value.agg
              #[Go.Value.int Go.IntKind.u8 0, Go.Value.int Go.IntKind.u8 0, Go.Value.int Go.IntKind.u8 0,
                Go.Value.int Go.IntKind.u8 0, Go.Value.int Go.IntKind.u8 0, Go.Value.int Go.IntKind.u8 0,
                Go.Value.int Go.IntKind.u8 0, Go.Value.int Go.IntKind.u8 0, Go.Value.int Go.IntKind.u8 0,
                Go.Value.int Go.IntKind.u8 0, Go.Value.int Go.IntKind.u8 0, Go.Value.int Go.IntKind.u8 0,
                Go.Value.int Go.IntKind.u8 0, Go.Value.int Go.IntKind.u8 0, Go.Value.int Go.IntKind.u8 0,
                Go.Value.int Go.IntKind.u8 0, Go.Value.int Go.IntKind.u8 0, Go.Value.int Go.IntKind.u8 0,
                Go.Value.int Go.IntKind.u8 0, Go.Value.int Go.IntKind.u8 0, Go.Value.int Go.IntKind.u8 0,
                Go.Value.int Go.IntKind.u8 0, Go.Value.int Go.IntKind.u8 0, Go.Value.int Go.IntKind.u8 0,
                Go.Value.int Go.IntKind.u8 0, Go.Value.int Go.IntKind.u8 0, Go.Value.int Go.IntKind.u8 0,
                Go.Value.int Go.IntKind.u8 0, Go.Value.int Go.IntKind.u8 0, Go.Value.int Go.IntKind.u8 0,
                Go.Value.int Go.IntKind.u8 0, Go.Value.int Go.IntKind.u8 0]),
          32, 32)),
  i233 :=
    Eq.refl
      (Option.some
        (Option.some
            (Go.Value.agg
              (let y :=
                  let y :=
                    let y :=
                      let y :=
                        [Go.Value.int Go.IntKind.u8 0, Go.Value.int Go.IntKind.u8 0, Go.Value.int Go.IntKind.u8 0,
                          Go.Value.int Go.IntKind.u8 0];
                      Go.Value.int Go.IntKind.u8 0 ::
                        Go.Value.int Go.IntKind.u8 0 ::
                          Go.Value.int Go.IntKind.u8 0 :: Go.Value.int Go.IntKind.u8 0 :: y;
                    let y :=
                      Go.Value.int Go.IntKind.u8 0 ::
                        Go.Value.int Go.IntKind.u8 0 ::
                          Go.Value.int Go.IntKind.u8 0 :: Go.Value.int Go.IntKind.u8 0 :: y;
                    Go.Value.int Go.IntKind.u8 0 ::
                      Go.Value.int Go.IntKind.u8 0 :: Go.Value.int Go.IntKind.u8 0 :: Go.Value.int Go.IntKind.u8 0 :: y;
                  let y :=
                    let y :=
                      Go.Value.int Go.IntKind.u8 0 ::
                        Go.Value.int Go.IntKind.u8 0 ::
                          Go.Value.int Go.IntKind.u8 0 :: Go.Value.int Go.IntKind.u8 0 :: y;
                    Go.Value.int Go.IntKind.u8 0 ::
                      Go.Value.int Go.IntKind.u8 0 :: Go.Value.int Go.IntKind.u8 0 :: Go.Value.int Go.IntKind.u8 0 :: y;
                  let y :=
                    Go.Value.int Go.IntKind.u8 0 ::
                      Go.Value.int Go.IntKind.u8 0 :: Go.Value.int Go.IntKind.u8 0 :: Go.Value.int Go.IntKind.u8 0 :: y;
                  Go.Value.int Go.IntKind.u8 0 ::
                    Go.Value.int Go.IntKind.u8 0 :: Go.Value.int Go.IntKind.u8 0 :: Go.Value.int Go.IntKind.u8 0 :: y;
                let y :=
                  let y :=
                    let y :=
                      Go.Value.int Go.IntKind.u8 0 ::
                        Go.Value.int Go.IntKind.u8 0 ::
                          Go.Value.int Go.IntKind.u8 0 :: Go.Value.int Go.IntKind.u8 0 :: y;
                    Go.Value.int Go.IntKind.u8 0 ::
                      Go.Value.int Go.IntKind.u8 0 :: Go.Value.int Go.IntKind.u8 0 :: Go.Value.int Go.IntKind.u8 0 :: y;
                  let y :=
                    Go.Value.int Go.IntKind.u8 0 ::
                      Go.Value.int Go.IntKind.u8 0 :: Go.Value.int Go.IntKind.u8 0 :: Go.Value.int Go.IntKind.u8 0 :: y;
                  Go.Value.int Go.IntKind.u8 0 ::
                    Go.Value.int Go.IntKind.u8 0 :: Go.Value.int Go.IntKind.u8 0 :: Go.Value.int Go.IntKind.u8 0 :: y;
                let y :=
                  let y :=
                    Go.Value.int Go.IntKind.u8 0 ::
                      Go.Value.int Go.IntKind.u8 0 :: Go.Value.int Go.IntKind.u8 0 :: Go.Value.int Go.IntKind.u8 0 :: y;
                  Go.Value.int Go.IntKind.u8 0 ::
                    Go.Value.int Go.IntKind.u8 0 :: Go.Value.int Go.IntKind.u8 0 :: Go.Value.int Go.IntKind.u8 0 :: y;
                let y :=
                  Go.Value.int Go.IntKind.u8 0 ::
                    Go.Value.int Go.IntKind.u8 0 :: Go.Value.int Go.IntKind.u8 0 :: Go.Value.int Go.IntKind.u8 0 :: y;
                Go.Value.int Go.IntKind.u8 0 ::
                  Go.Value.int Go.IntKind.u8 0 ::
                    Go.Value.int Go.IntKind.u8 0 :: Go.Value.int Go.IntKind.u8 0 :: y).toArray),
          64, 64)),
  m17 := by kernel_rfl,
  m18 := by kernel_rfl,
  m19 := by kernel_rfl }
end Go.Proofs.YthflejkkcnglgaaDoor
