/-
  A structure of the shelf, laid at this program: LaysC.n245.
-/
import Derived.Shelf.LaysC
import Derived.Shelf.Strconv.ToError
import Derived.KernelRfl
import Derived.Test.YtnpccnhamohnkaaDoorProg
namespace Go.Proofs.YtnpccnhamohnkaaDoor
open Go Go.Proofs Go.Shelf
set_option maxRecDepth 100000

def renToErr : Go.Shelf.Ren :=
{
  f := fun x ↦
    match x with
    | 245 => 35
    | 279 => 48
    | 280 => 49
    | 281 => 50
    | 282 => 51
    | 316 => 61
    | 171 => 63
    | 205 => 62
    | 243 => 77
    | 246 => 52
    | 283 => 64
    | 284 => 65
    | 285 => 66
    | 286 => 67
    | 129 => 79
    | 317 => 78
    | 318 => 80
    | 319 => 81
    | 320 => 82
    | 337 => 91
    | 338 => 92
    | n => n,
  t := fun x ↦
    match x with
    | 9 => 9
    | 3 => 3
    | 75 => 47
    | 167 => 75
    | 4 => 4
    | 168 => 76
    | 210 => 87
    | 37 => 70
    | 0 => 0
    | 127 => 107
    | 145 => 110
    | 143 => 108
    | 2 => 2
    | 171 => 90
    | 53 => 63
    | 5 => 5
    | 173 => 93
    | 212 => 112
    | 51 => 67
    | 20 => 20
    | 213 => 113
    | 46 => 74
    | 232 => 126
    | 233 => 127
    | 80 => 106
    | n => n,
  g := fun x ↦
    match x with
    | 15 => 2
    | 16 => 3
    | 17 => 4
    | 18 => 5
    | 19 => 6
    | n => n }
theorem laysToErr : Go.Proofs.LaysC.n245 Tryd.prog renToErr :=
{ mixed := Eq.refl Bool.true,
  f129 :=
    Eq.trans Tryd.func79 (congrArg Option.some (Eq.refl (Go.Proofs.Body.n129 renToErr))),
  f171 :=
    Eq.trans Tryd.func63 (congrArg Option.some (Eq.refl (Go.Proofs.Body.n171 renToErr))),
  f205 :=
    Eq.trans Tryd.func62 (congrArg Option.some (Eq.refl (Go.Proofs.Body.n205 renToErr))),
  f243 :=
    Eq.trans Tryd.func77 (congrArg Option.some (Eq.refl (Go.Proofs.Body.n243 renToErr))),
  f245 :=
    Eq.trans Tryd.func35 (congrArg Option.some (Eq.refl (Go.Proofs.Body.n245 renToErr))),
  f246 :=
    Eq.trans Tryd.func52 (congrArg Option.some (Eq.refl (Go.Proofs.Body.n246 renToErr))),
  f279 :=
    Eq.trans Tryd.func48 (congrArg Option.some (Eq.refl (Go.Proofs.Body.n279 renToErr))),
  f280 :=
    Eq.trans Tryd.func49 (congrArg Option.some (Eq.refl (Go.Proofs.Body.n280 renToErr))),
  f281 :=
    Eq.trans Tryd.func50 (congrArg Option.some (Eq.refl (Go.Proofs.Body.n281 renToErr))),
  f282 :=
    Eq.trans Tryd.func51 (congrArg Option.some (Eq.refl (Go.Proofs.Body.n282 renToErr))),
  f283 :=
    Eq.trans Tryd.func64 (congrArg Option.some (Eq.refl (Go.Proofs.Body.n283 renToErr))),
  f284 :=
    Eq.trans Tryd.func65 (congrArg Option.some (Eq.refl (Go.Proofs.Body.n284 renToErr))),
  f285 :=
    Eq.trans Tryd.func66 (congrArg Option.some (Eq.refl (Go.Proofs.Body.n285 renToErr))),
  f286 :=
    Eq.trans Tryd.func67 (congrArg Option.some (Eq.refl (Go.Proofs.Body.n286 renToErr))),
  f316 :=
    Eq.trans Tryd.func61 (congrArg Option.some (Eq.refl (Go.Proofs.Body.n316 renToErr))),
  f317 :=
    Eq.trans Tryd.func78 (congrArg Option.some (Eq.refl (Go.Proofs.Body.n317 renToErr))),
  f318 :=
    Eq.trans Tryd.func80 (congrArg Option.some (Eq.refl (Go.Proofs.Body.n318 renToErr))),
  f319 :=
    Eq.trans Tryd.func81 (congrArg Option.some (Eq.refl (Go.Proofs.Body.n319 renToErr))),
  f320 :=
    Eq.trans Tryd.func82 (congrArg Option.some (Eq.refl (Go.Proofs.Body.n320 renToErr))),
  f337 :=
    Eq.trans Tryd.func91 (congrArg Option.some (Eq.refl (Go.Proofs.Body.n337 renToErr))),
  f338 :=
    Eq.trans Tryd.func92 (congrArg Option.some (Eq.refl (Go.Proofs.Body.n338 renToErr))),
  t0 := Tryd.underlying0, a0 := Tryd.isAgg0, z0 := Tryd.sizeOf0,
  v0 := Tryd.zeroValue0, t2 := Tryd.underlying2, a2 := Tryd.isAgg2,
  z2 := Tryd.sizeOf2, v2 := Tryd.zeroValue2, t3 := Tryd.underlying3,
  a3 := Tryd.isAgg3, z3 := Tryd.sizeOf3, v3 := Tryd.zeroValue3,
  t4 := Tryd.underlying4, a4 := Tryd.isAgg4, z4 := Tryd.sizeOf4,
  v4 := Tryd.zeroValue4, t5 := Tryd.underlying5, a5 := Tryd.isAgg5,
  z5 := Tryd.sizeOf5, v5 := Tryd.zeroValue5, t9 := Tryd.underlying9,
  a9 := Tryd.isAgg9, z9 := Tryd.sizeOf9, v9 := Tryd.zeroValue9,
  t20 := Tryd.underlying20, a20 := Tryd.isAgg20, z20 := Tryd.sizeOf20,
  v20 := Tryd.zeroValue20, t37 := Tryd.underlying70, a37 := Tryd.isAgg70,
  z37 := Tryd.sizeOf70, v37 := Tryd.zeroValue70, t46 := Tryd.underlying74,
  a46 := Tryd.isAgg74, z46 := Tryd.sizeOf74, v46 := Tryd.zeroValue74,
  t51 := Tryd.underlying67, a51 := Tryd.isAgg67, z51 := Tryd.sizeOf67,
  v51 := Tryd.zeroValue67, t53 := Tryd.underlying63, a53 := Tryd.isAgg63,
  z53 := Tryd.sizeOf63, v53 := Tryd.zeroValue63, t75 := Tryd.underlying47,
  a75 := Tryd.isAgg47, z75 := Tryd.sizeOf47, v75 := Tryd.zeroValue47,
  t127 := Tryd.underlying107, a127 := Tryd.isAgg107, z127 := Tryd.sizeOf107,
  v127 := Tryd.zeroValue107, t143 := Tryd.underlying108, a143 := Tryd.isAgg108,
  z143 := Tryd.sizeOf108, v143 := Tryd.zeroValue108, t145 := Tryd.underlying110,
  a145 := Tryd.isAgg110, z145 := Tryd.sizeOf110, v145 := Tryd.zeroValue110,
  t167 := Tryd.underlying75, a167 := Tryd.isAgg75, z167 := Tryd.sizeOf75,
  v167 := Tryd.zeroValue75, t168 := Tryd.underlying76, a168 := Tryd.isAgg76,
  z168 := Tryd.sizeOf76, v168 := Tryd.zeroValue76, t171 := Tryd.underlying90,
  a171 := Tryd.isAgg90, z171 := Tryd.sizeOf90, v171 := Tryd.zeroValue90,
  t173 := Tryd.underlying93, a173 := Tryd.isAgg93, z173 := Tryd.sizeOf93,
  v173 := Tryd.zeroValue93, t210 := Tryd.underlying87, a210 := Tryd.isAgg87,
  z210 := Tryd.sizeOf87, v210 := Tryd.zeroValue87, t212 := Tryd.underlying112,
  a212 := Tryd.isAgg112, z212 := Tryd.sizeOf112, v212 := Tryd.zeroValue112,
  t213 := Tryd.underlying113, a213 := Tryd.isAgg113, z213 := Tryd.sizeOf113,
  t232 := Tryd.underlying126, a232 := Tryd.isAgg126, z232 := Tryd.sizeOf126,
  v232 := Tryd.zeroValue126, t233 := Tryd.underlying127, a233 := Tryd.isAgg127,
  z233 := Tryd.sizeOf127, v233 := Tryd.zeroValue127,
  g15 := by kernel_rfl,
  g16 := by kernel_rfl,
  g17 := by kernel_rfl,
  g18 := by kernel_rfl,
  g19 := by kernel_rfl, t80 := Tryd.underlying106,
  a80 := Tryd.isAgg106, z80 := Tryd.sizeOf106, v80 := Tryd.zeroValue106,
  i0 := Eq.refl (Option.some (Option.some (Go.Value.tuple #[]), 1, 0)),
  i2 := Eq.refl (Option.some (Option.some (Go.Value.int Go.IntKind.i64 0), 1, 8)),
  i3 := Eq.refl (Option.some (Option.some (Go.Value.int Go.IntKind.i64 0), 1, 8)),
  i4 := Eq.refl (Option.some (Option.some (Go.Value.bool Bool.false), 1, 1)),
  i5 := Eq.refl (Option.some (Option.some (Go.Value.int Go.IntKind.u8 0), 1, 1)),
  i9 := Eq.refl (Option.some (Option.some (Go.Value.string { data := #[] }), 1, 16)),
  i20 := Eq.refl (Option.some (Option.some Go.Value.nilIface, 1, 16)),
  i37 := Eq.refl (Option.some (Option.some (Go.Value.slice Option.none 0 0), 1, 24)),
  i46 := Eq.refl (Option.some (Option.some (Go.Value.int Go.IntKind.u64 0), 1, 8)),
  i51 := Eq.refl (Option.some (Option.some (Go.Value.int Go.IntKind.u32 0), 1, 4)),
  i53 := Eq.refl (Option.some (Option.some (Go.Value.int Go.IntKind.u64 0), 1, 8)),
  i75 := Eq.refl (Option.some (Option.some Go.Value.nilIface, 1, 16)),
  i80 := Eq.refl (Option.some (Option.some Go.Value.nilFunc, 1, 8)),
  i127 := Eq.refl (Option.some (Option.some (Go.Value.pointer Option.none), 1, 8)),
  i143 := Eq.refl (Option.some (Option.some (Go.Value.pointer Option.none), 1, 8)),
  i145 := Eq.refl (Option.some (Option.some (Go.Value.agg #[Go.Value.string { data := #[] }]), 1, 16)),
  i167 := Eq.refl (Option.some (Option.some (Go.Value.int Go.IntKind.i64 0), 1, 8)),
  i168 := Eq.refl (Option.some (Option.some (Go.Value.pointer Option.none), 1, 8)),
  i171 :=
    Eq.refl
      (Option.some
        (Option.some
            (Go.Value.agg
              #[Go.Value.int Go.IntKind.u8 0, Go.Value.int Go.IntKind.u8 0, Go.Value.int Go.IntKind.u8 0,
                Go.Value.int Go.IntKind.u8 0, Go.Value.int Go.IntKind.u8 0, Go.Value.int Go.IntKind.u8 0,
                Go.Value.int Go.IntKind.u8 0, Go.Value.int Go.IntKind.u8 0, Go.Value.int Go.IntKind.u8 0,
                Go.Value.int Go.IntKind.u8 0, Go.Value.int Go.IntKind.u8 0, Go.Value.int Go.IntKind.u8 0,
                Go.Value.int Go.IntKind.u8 0, Go.Value.int Go.IntKind.u8 0, Go.Value.int Go.IntKind.u8 0,
                Go.Value.int Go.IntKind.u8 0, Go.Value.int Go.IntKind.u8 0, Go.Value.int Go.IntKind.u8 0,
                Go.Value.int Go.IntKind.u8 0, Go.Value.int Go.IntKind.u8 0, Go.Value.int Go.IntKind.u8 0,
                Go.Value.int Go.IntKind.u8 0, Go.Value.int Go.IntKind.u8 0, Go.Value.int Go.IntKind.u8 0]),
          24, 24)),
  i173 :=
    Eq.refl
      (Option.some
        (Option.some (Go.Value.tuple #[Go.Value.slice Option.none 0 0, Go.Value.string { data := #[] }]), 1, 0)),
  i210 :=
    Eq.refl
      (Option.some
        (Option.some
            (Go.Value.agg #[Go.Value.string { data := #[] }, Go.Value.string { data := #[] }, Go.Value.nilIface]),
          3, 48)),
  i212 :=
    Eq.refl
      (Option.some
        (Option.some
            (Go.Value.agg
              #[Go.Value.int Go.IntKind.u64 0, Go.Value.int Go.IntKind.u64 0, Go.Value.int Go.IntKind.u64 0,
                Go.Value.int Go.IntKind.u64 0, Go.Value.int Go.IntKind.u64 0, Go.Value.int Go.IntKind.u64 0,
                Go.Value.int Go.IntKind.u64 0, Go.Value.int Go.IntKind.u64 0, Go.Value.int Go.IntKind.u64 0,
                Go.Value.int Go.IntKind.u64 0, Go.Value.int Go.IntKind.u64 0, Go.Value.int Go.IntKind.u64 0,
                Go.Value.int Go.IntKind.u64 0, Go.Value.int Go.IntKind.u64 0, Go.Value.int Go.IntKind.u64 0,
                Go.Value.int Go.IntKind.u64 0, Go.Value.int Go.IntKind.u64 0, Go.Value.int Go.IntKind.u64 0,
                Go.Value.int Go.IntKind.u64 0, Go.Value.int Go.IntKind.u64 0]),
          20, 160)),
  i232 :=
    Eq.refl
      (Option.some
        (Option.some
            (Go.Value.agg
              #[Go.Value.int Go.IntKind.u8 0, Go.Value.int Go.IntKind.u8 0, Go.Value.int Go.IntKind.u8 0,
                Go.Value.int Go.IntKind.u8 0, Go.Value.int Go.IntKind.u8 0, Go.Value.int Go.IntKind.u8 0,
                Go.Value.int Go.IntKind.u8 0, Go.Value.int Go.IntKind.u8 0, Go.Value.int Go.IntKind.u8 0,
                Go.Value.int Go.IntKind.u8 0, Go.Value.int Go.IntKind.u8 0, Go.Value.int Go.IntKind.u8 0,
                Go.Value.int Go.IntKind.u8 0, Go.Value.int Go.IntKind.u8 0, Go.Value.int Go.IntKind.u8 0,
                Go.Value.int Go.IntKind.u8 0, Go.Value.int Go.IntKind.u8 0, Go.Value.int Go.IntKind.u8 0,
                Go.Value.int Go.IntKind.u8 0, Go.Value.int Go.IntKind.u8 0, Go.Value.int Go.IntKind.u8 0,
                Go.Value.int Go.IntKind.u8 0, Go.Value.int Go.IntKind.u8 0, Go.Value.int Go.IntKind.u8 0,
                Go.Value.int Go.IntKind.u8 0, Go.Value.int Go.IntKind.u8 0, Go.Value.int Go.IntKind.u8 0,
                Go.Value.int Go.IntKind.u8 0, Go.Value.int Go.IntKind.u8 0, Go.Value.int Go.IntKind.u8 0,
                Go.Value.int Go.IntKind.u8 0, Go.Value.int Go.IntKind.u8 0]),
          32, 32)),
  i233 :=
    Eq.refl
      (Option.some
        (Option.some
            (Go.Value.agg
              (let y :=
                  let y :=
                    let y :=
                      let y :=
                        [Go.Value.int Go.IntKind.u8 0, Go.Value.int Go.IntKind.u8 0, Go.Value.int Go.IntKind.u8 0,
                          Go.Value.int Go.IntKind.u8 0];
                      Go.Value.int Go.IntKind.u8 0 ::
                        Go.Value.int Go.IntKind.u8 0 ::
                          Go.Value.int Go.IntKind.u8 0 :: Go.Value.int Go.IntKind.u8 0 :: y;
                    let y :=
                      Go.Value.int Go.IntKind.u8 0 ::
                        Go.Value.int Go.IntKind.u8 0 ::
                          Go.Value.int Go.IntKind.u8 0 :: Go.Value.int Go.IntKind.u8 0 :: y;
                    Go.Value.int Go.IntKind.u8 0 ::
                      Go.Value.int Go.IntKind.u8 0 :: Go.Value.int Go.IntKind.u8 0 :: Go.Value.int Go.IntKind.u8 0 :: y;
                  let y :=
                    let y :=
                      Go.Value.int Go.IntKind.u8 0 ::
                        Go.Value.int Go.IntKind.u8 0 ::
                          Go.Value.int Go.IntKind.u8 0 :: Go.Value.int Go.IntKind.u8 0 :: y;
                    Go.Value.int Go.IntKind.u8 0 ::
                      Go.Value.int Go.IntKind.u8 0 :: Go.Value.int Go.IntKind.u8 0 :: Go.Value.int Go.IntKind.u8 0 :: y;
                  let y :=
                    Go.Value.int Go.IntKind.u8 0 ::
                      Go.Value.int Go.IntKind.u8 0 :: Go.Value.int Go.IntKind.u8 0 :: Go.Value.int Go.IntKind.u8 0 :: y;
                  Go.Value.int Go.IntKind.u8 0 ::
                    Go.Value.int Go.IntKind.u8 0 :: Go.Value.int Go.IntKind.u8 0 :: Go.Value.int Go.IntKind.u8 0 :: y;
                let y :=
                  let y :=
                    let y :=
                      Go.Value.int Go.IntKind.u8 0 ::
                        Go.Value.int Go.IntKind.u8 0 ::
                          Go.Value.int Go.IntKind.u8 0 :: Go.Value.int Go.IntKind.u8 0 :: y;
                    Go.Value.int Go.IntKind.u8 0 ::
                      Go.Value.int Go.IntKind.u8 0 :: Go.Value.int Go.IntKind.u8 0 :: Go.Value.int Go.IntKind.u8 0 :: y;
                  let y :=
                    Go.Value.int Go.IntKind.u8 0 ::
                      Go.Value.int Go.IntKind.u8 0 :: Go.Value.int Go.IntKind.u8 0 :: Go.Value.int Go.IntKind.u8 0 :: y;
                  Go.Value.int Go.IntKind.u8 0 ::
                    Go.Value.int Go.IntKind.u8 0 :: Go.Value.int Go.IntKind.u8 0 :: Go.Value.int Go.IntKind.u8 0 :: y;
                let y :=
                  let y :=
                    Go.Value.int Go.IntKind.u8 0 ::
                      Go.Value.int Go.IntKind.u8 0 :: Go.Value.int Go.IntKind.u8 0 :: Go.Value.int Go.IntKind.u8 0 :: y;
                  Go.Value.int Go.IntKind.u8 0 ::
                    Go.Value.int Go.IntKind.u8 0 :: Go.Value.int Go.IntKind.u8 0 :: Go.Value.int Go.IntKind.u8 0 :: y;
                let y :=
                  Go.Value.int Go.IntKind.u8 0 ::
                    Go.Value.int Go.IntKind.u8 0 :: Go.Value.int Go.IntKind.u8 0 :: Go.Value.int Go.IntKind.u8 0 :: y;
                Go.Value.int Go.IntKind.u8 0 ::
                  Go.Value.int Go.IntKind.u8 0 ::
                    Go.Value.int Go.IntKind.u8 0 :: Go.Value.int Go.IntKind.u8 0 :: y).toArray),
          64, 64)),
  m15 := by kernel_rfl,
  m16 := by kernel_rfl,
  m17 := by kernel_rfl,
  m18 := by kernel_rfl,
  m19 := by kernel_rfl, c0 := Eq.refl (Option.some Bool.false),
  c2 := Eq.refl (Option.some Bool.true), c3 := Eq.refl (Option.some Bool.true), c4 := Eq.refl (Option.some Bool.true),
  c5 := Eq.refl (Option.some Bool.true), c9 := Eq.refl (Option.some Bool.true), c20 := Eq.refl (Option.some Bool.true),
  c37 := Eq.refl (Option.some Bool.false), c46 := Eq.refl (Option.some Bool.true),
  c51 := Eq.refl (Option.some Bool.true), c53 := Eq.refl (Option.some Bool.true),
  c75 := Eq.refl (Option.some Bool.true), c80 := Eq.refl (Option.some Bool.false),
  c127 := Eq.refl (Option.some Bool.true), c143 := Eq.refl (Option.some Bool.true),
  c145 := Eq.refl (Option.some Bool.true), c167 := Eq.refl (Option.some Bool.true),
  c168 := Eq.refl (Option.some Bool.true), c171 := Eq.refl (Option.some Bool.true),
  c173 := Eq.refl (Option.some Bool.false), c210 := Eq.refl (Option.some Bool.true),
  c212 := Eq.refl (Option.some Bool.true), c213 := Eq.refl (Option.some Bool.true),
  c232 := Eq.refl (Option.some Bool.true), c233 := Eq.refl (Option.some Bool.true) }
end Go.Proofs.YtnpccnhamohnkaaDoor
