/-
  A structure of the shelf, laid at this program: LaysM.n173.
-/
import Derived.Shelf.LaysM
import Derived.Shelf.Strconv.Itoa4
import Derived.KernelRfl
import Derived.Test.YtlpfnpcnidaijaaDoorProg
namespace Go.Proofs.YtlpfnpcnidaijaaDoor
open Go Go.Proofs Go.Shelf
set_option maxRecDepth 100000

def renFormatInt : Go.Shelf.Ren :=
{
  f := fun x ↦
    match x with
    | 173 => 32
    | 246 => 36
    | 283 => 40
    | 284 => 41
    | 285 => 42
    | 286 => 43
    | 129 => 54
    | 317 => 53
    | 318 => 55
    | 319 => 56
    | 320 => 57
    | 337 => 65
    | 338 => 66
    | n => n,
  t := fun x ↦
    match x with
    | 2 => 2
    | 3 => 3
    | 9 => 9
    | 4 => 4
    | 171 => 66
    | 0 => 0
    | 53 => 67
    | 37 => 22
    | 5 => 5
    | 173 => 70
    | 212 => 82
    | 51 => 83
    | 20 => 20
    | 213 => 84
    | 46 => 74
    | 232 => 100
    | 233 => 101
    | n => n,
  g := fun x ↦
    match x with
    | 17 => 1
    | 18 => 4
    | 19 => 5
    | n => n }
theorem laysFormatInt : Go.Proofs.LaysM.n173 Tryd.prog renFormatInt :=
{ mixed := Eq.refl Bool.true,
  f129 :=
    Eq.trans Tryd.func54
      (congrArg Option.some (Eq.refl (Go.Proofs.Body.n129 renFormatInt))),
  f173 :=
    Eq.trans Tryd.func32
      (congrArg Option.some (Eq.refl (Go.Proofs.Body.n173 renFormatInt))),
  f246 :=
    Eq.trans Tryd.func36
      (congrArg Option.some (Eq.refl (Go.Proofs.Body.n246 renFormatInt))),
  f283 :=
    Eq.trans Tryd.func40
      (congrArg Option.some (Eq.refl (Go.Proofs.Body.n283 renFormatInt))),
  f284 :=
    Eq.trans Tryd.func41
      (congrArg Option.some (Eq.refl (Go.Proofs.Body.n284 renFormatInt))),
  f285 :=
    Eq.trans Tryd.func42
      (congrArg Option.some (Eq.refl (Go.Proofs.Body.n285 renFormatInt))),
  f286 :=
    Eq.trans Tryd.func43
      (congrArg Option.some (Eq.refl (Go.Proofs.Body.n286 renFormatInt))),
  f317 :=
    Eq.trans Tryd.func53
      (congrArg Option.some (Eq.refl (Go.Proofs.Body.n317 renFormatInt))),
  f318 :=
    Eq.trans Tryd.func55
      (congrArg Option.some (Eq.refl (Go.Proofs.Body.n318 renFormatInt))),
  f319 :=
    Eq.trans Tryd.func56
      (congrArg Option.some (Eq.refl (Go.Proofs.Body.n319 renFormatInt))),
  f320 :=
    Eq.trans Tryd.func57
      (congrArg Option.some (Eq.refl (Go.Proofs.Body.n320 renFormatInt))),
  f337 :=
    Eq.trans Tryd.func65
      (congrArg Option.some (Eq.refl (Go.Proofs.Body.n337 renFormatInt))),
  f338 :=
    Eq.trans Tryd.func66
      (congrArg Option.some (Eq.refl (Go.Proofs.Body.n338 renFormatInt))),
  t0 := Tryd.underlying0, a0 := Tryd.isAgg0, z0 := Tryd.sizeOf0,
  v0 := Tryd.zeroValue0, t2 := Tryd.underlying2, a2 := Tryd.isAgg2,
  z2 := Tryd.sizeOf2, v2 := Tryd.zeroValue2, t3 := Tryd.underlying3,
  a3 := Tryd.isAgg3, z3 := Tryd.sizeOf3, v3 := Tryd.zeroValue3,
  t4 := Tryd.underlying4, a4 := Tryd.isAgg4, z4 := Tryd.sizeOf4,
  v4 := Tryd.zeroValue4, t5 := Tryd.underlying5, a5 := Tryd.isAgg5,
  z5 := Tryd.sizeOf5, v5 := Tryd.zeroValue5, t9 := Tryd.underlying9,
  a9 := Tryd.isAgg9, z9 := Tryd.sizeOf9, v9 := Tryd.zeroValue9,
  t20 := Tryd.underlying20, a20 := Tryd.isAgg20, z20 := Tryd.sizeOf20,
  v20 := Tryd.zeroValue20, t37 := Tryd.underlying22, a37 := Tryd.isAgg22,
  z37 := Tryd.sizeOf22, v37 := Tryd.zeroValue22, t46 := Tryd.underlying74,
  a46 := Tryd.isAgg74, z46 := Tryd.sizeOf74, v46 := Tryd.zeroValue74,
  t51 := Tryd.underlying83, a51 := Tryd.isAgg83, z51 := Tryd.sizeOf83,
  v51 := Tryd.zeroValue83, t53 := Tryd.underlying67, a53 := Tryd.isAgg67,
  z53 := Tryd.sizeOf67, v53 := Tryd.zeroValue67, t171 := Tryd.underlying66,
  a171 := Tryd.isAgg66, z171 := Tryd.sizeOf66, v171 := Tryd.zeroValue66,
  t173 := Tryd.underlying70, a173 := Tryd.isAgg70, z173 := Tryd.sizeOf70,
  v173 := Tryd.zeroValue70, t212 := Tryd.underlying82, a212 := Tryd.isAgg82,
  z212 := Tryd.sizeOf82, v212 := Tryd.zeroValue82, t213 := Tryd.underlying84,
  a213 := Tryd.isAgg84, z213 := Tryd.sizeOf84, t232 := Tryd.underlying100,
  a232 := Tryd.isAgg100, z232 := Tryd.sizeOf100, v232 := Tryd.zeroValue100,
  t233 := Tryd.underlying101, a233 := Tryd.isAgg101, z233 := Tryd.sizeOf101,
  v233 := Tryd.zeroValue101, g17 := by kernel_rfl,
  g18 := by kernel_rfl,
  g19 := by kernel_rfl,
  i0 := Eq.refl (Option.some (Option.some (Go.Value.tuple #[]), 1, 0)),
  i2 := Eq.refl (Option.some (Option.some (Go.Value.int Go.IntKind.i64 0), 1, 8)),
  i3 := Eq.refl (Option.some (Option.some (Go.Value.int Go.IntKind.i64 0), 1, 8)),
  i4 := Eq.refl (Option.some (Option.some (Go.Value.bool Bool.false), 1, 1)),
  i5 := Eq.refl (Option.some (Option.some (Go.Value.int Go.IntKind.u8 0), 1, 1)),
  i9 := Eq.refl (Option.some (Option.some (Go.Value.string { data := #[] }), 1, 16)),
  i20 := Eq.refl (Option.some (Option.some Go.Value.nilIface, 1, 16)),
  i37 := Eq.refl (Option.some (Option.some (Go.Value.slice Option.none 0 0), 1, 24)),
  i46 := Eq.refl (Option.some (Option.some (Go.Value.int Go.IntKind.u64 0), 1, 8)),
  i51 := Eq.refl (Option.some (Option.some (Go.Value.int Go.IntKind.u32 0), 1, 4)),
  i53 := Eq.refl (Option.some (Option.some (Go.Value.int Go.IntKind.u64 0), 1, 8)),
  i171 :=
    Eq.refl
      (Option.some
        (Option.some
            (Go.Value.agg
              #[Go.Value.int Go.IntKind.u8 0, Go.Value.int Go.IntKind.u8 0, Go.Value.int Go.IntKind.u8 0,
                Go.Value.int Go.IntKind.u8 0, Go.Value.int Go.IntKind.u8 0, Go.Value.int Go.IntKind.u8 0,
                Go.Value.int Go.IntKind.u8 0, Go.Value.int Go.IntKind.u8 0, Go.Value.int Go.IntKind.u8 0,
                Go.Value.int Go.IntKind.u8 0, Go.Value.int Go.IntKind.u8 0, Go.Value.int Go.IntKind.u8 0,
                Go.Value.int Go.IntKind.u8 0, Go.Value.int Go.IntKind.u8 0, Go.Value.int Go.IntKind.u8 0,
                Go.Value.int Go.IntKind.u8 0, Go.Value.int Go.IntKind.u8 0, Go.Value.int Go.IntKind.u8 0,
                Go.Value.int Go.IntKind.u8 0, Go.Value.int Go.IntKind.u8 0, Go.Value.int Go.IntKind.u8 0,
                Go.Value.int Go.IntKind.u8 0, Go.Value.int Go.IntKind.u8 0, Go.Value.int Go.IntKind.u8 0]),
          24, 24)),
  i173 :=
    Eq.refl
      (Option.some
        (Option.some (Go.Value.tuple #[Go.Value.slice Option.none 0 0, Go.Value.string { data := #[] }]), 1, 0)),
  i212 :=
    Eq.refl
      (Option.some
        (Option.some
            (Go.Value.agg
              #[Go.Value.int Go.IntKind.u64 0, Go.Value.int Go.IntKind.u64 0, Go.Value.int Go.IntKind.u64 0,
                Go.Value.int Go.IntKind.u64 0, Go.Value.int Go.IntKind.u64 0, Go.Value.int Go.IntKind.u64 0,
                Go.Value.int Go.IntKind.u64 0, Go.Value.int Go.IntKind.u64 0, Go.Value.int Go.IntKind.u64 0,
                Go.Value.int Go.IntKind.u64 0, Go.Value.int Go.IntKind.u64 0, Go.Value.int Go.IntKind.u64 0,
                Go.Value.int Go.IntKind.u64 0, Go.Value.int Go.IntKind.u64 0, Go.Value.int Go.IntKind.u64 0,
                Go.Value.int Go.IntKind.u64 0, Go.Value.int Go.IntKind.u64 0, Go.Value.int Go.IntKind.u64 0,
                Go.Value.int Go.IntKind.u64 0, Go.Value.int Go.IntKind.u64 0]),
          20, 160)),
  i232 :=
    Eq.refl
      (Option.some
        (Option.some
            (Go.Value.agg
              #[Go.Value.int Go.IntKind.u8 0, Go.Value.int Go.IntKind.u8 0, Go.Value.int Go.IntKind.u8 0,
                Go.Value.int Go.IntKind.u8 0, Go.Value.int Go.IntKind.u8 0, Go.Value.int Go.IntKind.u8 0,
                Go.Value.int Go.IntKind.u8 0, Go.Value.int Go.IntKind.u8 0, Go.Value.int Go.IntKind.u8 0,
                Go.Value.int Go.IntKind.u8 0, Go.Value.int Go.IntKind.u8 0, Go.Value.int Go.IntKind.u8 0,
                Go.Value.int Go.IntKind.u8 0, Go.Value.int Go.IntKind.u8 0, Go.Value.int Go.IntKind.u8 0,
                Go.Value.int Go.IntKind.u8 0, Go.Value.int Go.IntKind.u8 0, Go.Value.int Go.IntKind.u8 0,
                Go.Value.int Go.IntKind.u8 0, Go.Value.int Go.IntKind.u8 0, Go.Value.int Go.IntKind.u8 0,
                Go.Value.int Go.IntKind.u8 0, Go.Value.int Go.IntKind.u8 0, Go.Value.int Go.IntKind.u8 0,
                Go.Value.int Go.IntKind.u8 0, Go.Value.int Go.IntKind.u8 0, Go.Value.int Go.IntKind.u8 0,
                Go.Value.int Go.IntKind.u8 0, Go.Value.int Go.IntKind.u8 0, Go.Value.int Go.IntKind.u8 0,
                Go.Value.int Go.IntKind.u8 0, Go.Value.int Go.IntKind.u8 0]),
          32, 32)),
  i233 :=
    Eq.refl
      (Option.some
        (Option.some
            (Go.Value.agg
              (let y :=
                  let y :=
                    let y :=
                      let y :=
                        [Go.Value.int Go.IntKind.u8 0, Go.Value.int Go.IntKind.u8 0, Go.Value.int Go.IntKind.u8 0,
                          Go.Value.int Go.IntKind.u8 0];
                      Go.Value.int Go.IntKind.u8 0 ::
                        Go.Value.int Go.IntKind.u8 0 ::
                          Go.Value.int Go.IntKind.u8 0 :: Go.Value.int Go.IntKind.u8 0 :: y;
                    let y :=
                      Go.Value.int Go.IntKind.u8 0 ::
                        Go.Value.int Go.IntKind.u8 0 ::
                          Go.Value.int Go.IntKind.u8 0 :: Go.Value.int Go.IntKind.u8 0 :: y;
                    Go.Value.int Go.IntKind.u8 0 ::
                      Go.Value.int Go.IntKind.u8 0 :: Go.Value.int Go.IntKind.u8 0 :: Go.Value.int Go.IntKind.u8 0 :: y;
                  let y :=
                    let y :=
                      Go.Value.int Go.IntKind.u8 0 ::
                        Go.Value.int Go.IntKind.u8 0 ::
                          Go.Value.int Go.IntKind.u8 0 :: Go.Value.int Go.IntKind.u8 0 :: y;
                    Go.Value.int Go.IntKind.u8 0 ::
                      Go.Value.int Go.IntKind.u8 0 :: Go.Value.int Go.IntKind.u8 0 :: Go.Value.int Go.IntKind.u8 0 :: y;
                  let y :=
                    Go.Value.int Go.IntKind.u8 0 ::
                      Go.Value.int Go.IntKind.u8 0 :: Go.Value.int Go.IntKind.u8 0 :: Go.Value.int Go.IntKind.u8 0 :: y;
                  Go.Value.int Go.IntKind.u8 0 ::
                    Go.Value.int Go.IntKind.u8 0 :: Go.Value.int Go.IntKind.u8 0 :: Go.Value.int Go.IntKind.u8 0 :: y;
                let y :=
                  let y :=
                    let y :=
                      Go.Value.int Go.IntKind.u8 0 ::
                        Go.Value.int Go.IntKind.u8 0 ::
                          Go.Value.int Go.IntKind.u8 0 :: Go.Value.int Go.IntKind.u8 0 :: y;
                    Go.Value.int Go.IntKind.u8 0 ::
                      Go.Value.int Go.IntKind.u8 0 :: Go.Value.int Go.IntKind.u8 0 :: Go.Value.int Go.IntKind.u8 0 :: y;
                  let y :=
                    Go.Value.int Go.IntKind.u8 0 ::
                      Go.Value.int Go.IntKind.u8 0 :: Go.Value.int Go.IntKind.u8 0 :: Go.Value.int Go.IntKind.u8 0 :: y;
                  Go.Value.int Go.IntKind.u8 0 ::
                    Go.Value.int Go.IntKind.u8 0 :: Go.Value.int Go.IntKind.u8 0 :: Go.Value.int Go.IntKind.u8 0 :: y;
                let y :=
                  let y :=
                    Go.Value.int Go.IntKind.u8 0 ::
                      Go.Value.int Go.IntKind.u8 0 :: Go.Value.int Go.IntKind.u8 0 :: Go.Value.int Go.IntKind.u8 0 :: y;
                  Go.Value.int Go.IntKind.u8 0 ::
                    Go.Value.int Go.IntKind.u8 0 :: Go.Value.int Go.IntKind.u8 0 :: Go.Value.int Go.IntKind.u8 0 :: y;
                let y :=
                  Go.Value.int Go.IntKind.u8 0 ::
                    Go.Value.int Go.IntKind.u8 0 :: Go.Value.int Go.IntKind.u8 0 :: Go.Value.int Go.IntKind.u8 0 :: y;
                Go.Value.int Go.IntKind.u8 0 ::
                  Go.Value.int Go.IntKind.u8 0 ::
                    Go.Value.int Go.IntKind.u8 0 :: Go.Value.int Go.IntKind.u8 0 :: y).toArray),
          64, 64)),
  m17 := by kernel_rfl,
  m18 := by kernel_rfl,
  m19 := by kernel_rfl }
end Go.Proofs.YtlpfnpcnidaijaaDoor
