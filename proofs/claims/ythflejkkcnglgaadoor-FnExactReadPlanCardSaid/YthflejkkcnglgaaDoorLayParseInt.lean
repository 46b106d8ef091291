/-
  A structure of the shelf, laid at this program: LaysC.n174.
-/
import Derived.Shelf.LaysC
import Derived.Shelf.Strconv.ErrVarParseInt
import Derived.KernelRfl
import Derived.Test.YthflejkkcnglgaaDoorProg
namespace Go.Proofs.YthflejkkcnglgaaDoor
open Go Go.Proofs Go.Shelf
set_option maxRecDepth 100000

def renParseInt : Go.Shelf.Ren :=
{
  f := fun x ↦
    match x with
    | 174 => 30
    | 247 => 37
    | 245 => 38
    | 287 => 44
    | 279 => 45
    | 280 => 46
    | 281 => 47
    | 282 => 48
    | 321 => 54
    | 322 => 55
    | 316 => 56
    | 171 => 58
    | 205 => 57
    | 243 => 64
    | 246 => 40
    | 283 => 49
    | 284 => 50
    | 285 => 51
    | 286 => 52
    | 129 => 60
    | 317 => 59
    | 318 => 61
    | 319 => 62
    | 320 => 63
    | 337 => 65
    | 338 => 66
    | n => n,
  t := fun x ↦
    match x with
    | 9 => 9
    | 3 => 3
    | 2 => 2
    | 75 => 54
    | 85 => 55
    | 4 => 4
    | 167 => 64
    | 5 => 5
    | 53 => 65
    | 175 => 66
    | 46 => 63
    | 168 => 68
    | 37 => 49
    | 0 => 0
    | 210 => 82
    | 21 => 21
    | 127 => 89
    | 145 => 92
    | 143 => 90
    | 171 => 71
    | 173 => 74
    | 212 => 85
    | 51 => 76
    | 20 => 20
    | 213 => 86
    | 232 => 94
    | 233 => 95
    | 80 => 96
    | n => n,
  g := fun x ↦
    match x with
    | 15 => 1
    | 16 => 2
    | 17 => 3
    | 18 => 4
    | 19 => 5
    | n => n }
theorem laysParseInt : Go.Proofs.LaysC.n174 Tryd.prog renParseInt :=
{ mixed := Eq.refl Bool.true,
  f129 :=
    Eq.trans Tryd.func60
      (congrArg Option.some (Eq.refl (Go.Proofs.Body.n129 renParseInt))),
  f171 :=
    Eq.trans Tryd.func58
      (congrArg Option.some (Eq.refl (Go.Proofs.Body.n171 renParseInt))),
  f174 :=
    Eq.trans Tryd.func30
      (congrArg Option.some (Eq.refl (Go.Proofs.Body.n174 renParseInt))),
  f205 :=
    Eq.trans Tryd.func57
      (congrArg Option.some (Eq.refl (Go.Proofs.Body.n205 renParseInt))),
  f243 :=
    Eq.trans Tryd.func64
      (congrArg Option.some (Eq.refl (Go.Proofs.Body.n243 renParseInt))),
  f245 :=
    Eq.trans Tryd.func38
      (congrArg Option.some (Eq.refl (Go.Proofs.Body.n245 renParseInt))),
  f246 :=
    Eq.trans Tryd.func40
      (congrArg Option.some (Eq.refl (Go.Proofs.Body.n246 renParseInt))),
  f247 :=
    Eq.trans Tryd.func37
      (congrArg Option.some (Eq.refl (Go.Proofs.Body.n247 renParseInt))),
  f279 :=
    Eq.trans Tryd.func45
      (congrArg Option.some (Eq.refl (Go.Proofs.Body.n279 renParseInt))),
  f280 :=
    Eq.trans Tryd.func46
      (congrArg Option.some (Eq.refl (Go.Proofs.Body.n280 renParseInt))),
  f281 :=
    Eq.trans Tryd.func47
      (congrArg Option.some (Eq.refl (Go.Proofs.Body.n281 renParseInt))),
  f282 :=
    Eq.trans Tryd.func48
      (congrArg Option.some (Eq.refl (Go.Proofs.Body.n282 renParseInt))),
  f283 :=
    Eq.trans Tryd.func49
      (congrArg Option.some (Eq.refl (Go.Proofs.Body.n283 renParseInt))),
  f284 :=
    Eq.trans Tryd.func50
      (congrArg Option.some (Eq.refl (Go.Proofs.Body.n284 renParseInt))),
  f285 :=
    Eq.trans Tryd.func51
      (congrArg Option.some (Eq.refl (Go.Proofs.Body.n285 renParseInt))),
  f286 :=
    Eq.trans Tryd.func52
      (congrArg Option.some (Eq.refl (Go.Proofs.Body.n286 renParseInt))),
  f287 :=
    Eq.trans Tryd.func44
      (congrArg Option.some (Eq.refl (Go.Proofs.Body.n287 renParseInt))),
  f316 :=
    Eq.trans Tryd.func56
      (congrArg Option.some (Eq.refl (Go.Proofs.Body.n316 renParseInt))),
  f317 :=
    Eq.trans Tryd.func59
      (congrArg Option.some (Eq.refl (Go.Proofs.Body.n317 renParseInt))),
  f318 :=
    Eq.trans Tryd.func61
      (congrArg Option.some (Eq.refl (Go.Proofs.Body.n318 renParseInt))),
  f319 :=
    Eq.trans Tryd.func62
      (congrArg Option.some (Eq.refl (Go.Proofs.Body.n319 renParseInt))),
  f320 :=
    Eq.trans Tryd.func63
      (congrArg Option.some (Eq.refl (Go.Proofs.Body.n320 renParseInt))),
  f321 :=
    Eq.trans Tryd.func54
      (congrArg Option.some (Eq.refl (Go.Proofs.Body.n321 renParseInt))),
  f322 :=
    Eq.trans Tryd.func55
      (congrArg Option.some (Eq.refl (Go.Proofs.Body.n322 renParseInt))),
  f337 :=
    Eq.trans Tryd.func65
      (congrArg Option.some (Eq.refl (Go.Proofs.Body.n337 renParseInt))),
  f338 :=
    Eq.trans Tryd.func66
      (congrArg Option.some (Eq.refl (Go.Proofs.Body.n338 renParseInt))),
  t0 := Tryd.underlying0, a0 := Tryd.isAgg0, z0 := Tryd.sizeOf0,
  v0 := Tryd.zeroValue0, t2 := Tryd.underlying2, a2 := Tryd.isAgg2,
  z2 := Tryd.sizeOf2, v2 := Tryd.zeroValue2, t3 := Tryd.underlying3,
  a3 := Tryd.isAgg3, z3 := Tryd.sizeOf3, v3 := Tryd.zeroValue3,
  t4 := Tryd.underlying4, a4 := Tryd.isAgg4, z4 := Tryd.sizeOf4,
  v4 := Tryd.zeroValue4, t5 := Tryd.underlying5, a5 := Tryd.isAgg5,
  z5 := Tryd.sizeOf5, v5 := Tryd.zeroValue5, t9 := Tryd.underlying9,
  a9 := Tryd.isAgg9, z9 := Tryd.sizeOf9, v9 := Tryd.zeroValue9,
  t20 := Tryd.underlying20, a20 := Tryd.isAgg20, z20 := Tryd.sizeOf20,
  v20 := Tryd.zeroValue20, t21 := Tryd.underlying21, a21 := Tryd.isAgg21,
  z21 := Tryd.sizeOf21, v21 := Tryd.zeroValue21, t37 := Tryd.underlying49,
  a37 := Tryd.isAgg49, z37 := Tryd.sizeOf49, v37 := Tryd.zeroValue49,
  t46 := Tryd.underlying63, a46 := Tryd.isAgg63, z46 := Tryd.sizeOf63,
  v46 := Tryd.zeroValue63, t51 := Tryd.underlying76, a51 := Tryd.isAgg76,
  z51 := Tryd.sizeOf76, v51 := Tryd.zeroValue76, t53 := Tryd.underlying65,
  a53 := Tryd.isAgg65, z53 := Tryd.sizeOf65, v53 := Tryd.zeroValue65,
  t75 := Tryd.underlying54, a75 := Tryd.isAgg54, z75 := Tryd.sizeOf54,
  v75 := Tryd.zeroValue54, t85 := Tryd.underlying55, a85 := Tryd.isAgg55,
  z85 := Tryd.sizeOf55, v85 := Tryd.zeroValue55, t127 := Tryd.underlying89,
  a127 := Tryd.isAgg89, z127 := Tryd.sizeOf89, v127 := Tryd.zeroValue89,
  t143 := Tryd.underlying90, a143 := Tryd.isAgg90, z143 := Tryd.sizeOf90,
  v143 := Tryd.zeroValue90, t145 := Tryd.underlying92, a145 := Tryd.isAgg92,
  z145 := Tryd.sizeOf92, v145 := Tryd.zeroValue92, t167 := Tryd.underlying64,
  a167 := Tryd.isAgg64, z167 := Tryd.sizeOf64, v167 := Tryd.zeroValue64,
  t168 := Tryd.underlying68, a168 := Tryd.isAgg68, z168 := Tryd.sizeOf68,
  v168 := Tryd.zeroValue68, t171 := Tryd.underlying71, a171 := Tryd.isAgg71,
  z171 := Tryd.sizeOf71, v171 := Tryd.zeroValue71, t173 := Tryd.underlying74,
  a173 := Tryd.isAgg74, z173 := Tryd.sizeOf74, v173 := Tryd.zeroValue74,
  t175 := Tryd.underlying66, a175 := Tryd.isAgg66, z175 := Tryd.sizeOf66,
  v175 := Tryd.zeroValue66, t210 := Tryd.underlying82, a210 := Tryd.isAgg82,
  z210 := Tryd.sizeOf82, v210 := Tryd.zeroValue82, t212 := Tryd.underlying85,
  a212 := Tryd.isAgg85, z212 := Tryd.sizeOf85, v212 := Tryd.zeroValue85,
  t213 := Tryd.underlying86, a213 := Tryd.isAgg86, z213 := Tryd.sizeOf86,
  t232 := Tryd.underlying94, a232 := Tryd.isAgg94, z232 := Tryd.sizeOf94,
  v232 := Tryd.zeroValue94, t233 := Tryd.underlying95, a233 := Tryd.isAgg95,
  z233 := Tryd.sizeOf95, v233 := Tryd.zeroValue95,
  g15 := by kernel_rfl,
  g16 := by kernel_rfl,
  g17 := by kernel_rfl,
  g18 := by kernel_rfl,
  g19 := by kernel_rfl, t80 := Tryd.underlying96,
  a80 := Tryd.isAgg96, z80 := Tryd.sizeOf96, v80 := Tryd.zeroValue96,
  i0 := Eq.refl (Option.some (Option.some (Go.Value.tuple #[]), 1, 0)),
  i2 := Eq.refl (Option.some (Option.some (Go.Value.int Go.IntKind.i64 0), 1, 8)),
  i3 := Eq.refl (Option.some (Option.some (Go.Value.int Go.IntKind.i64 0), 1, 8)),
  i4 := Eq.refl (Option.some (Option.some (Go.Value.bool Bool.false), 1, 1)),
  i5 := Eq.refl (Option.some (Option.some (Go.Value.int Go.IntKind.u8 0), 1, 1)),
  i9 := Eq.refl (Option.some (Option.some (Go.Value.string { data := #[] }), 1, 16)),
  i20 := Eq.refl (Option.some (Option.some Go.Value.nilIface, 1, 16)),
  i21 := Eq.refl (Option.some (Option.some (Go.Value.int Go.IntKind.i32 0), 1, 4)),
  i37 := Eq.refl (Option.some (Option.some (Go.Value.slice Option.none 0 0), 1, 24)),
  i46 := Eq.refl (Option.some (Option.some (Go.Value.int Go.IntKind.u64 0), 1, 8)),
  i51 := Eq.refl (Option.some (Option.some (Go.Value.int Go.IntKind.u32 0), 1, 4)),
  i53 := Eq.refl (Option.some (Option.some (Go.Value.int Go.IntKind.u64 0), 1, 8)),
  i75 := Eq.refl (Option.some (Option.some Go.Value.nilIface, 1, 16)),
  i80 := Eq.refl (Option.some (Option.some Go.Value.nilFunc, 1, 8)),
  i85 := Eq.refl (Option.some (Option.some (Go.Value.tuple #[Go.Value.int Go.IntKind.i64 0, Go.Value.nilIface]), 1, 0)),
  i127 := Eq.refl (Option.some (Option.some (Go.Value.pointer Option.none), 1, 8)),
  i143 := Eq.refl (Option.some (Option.some (Go.Value.pointer Option.none), 1, 8)),
  i145 := Eq.refl (Option.some (Option.some (Go.Value.agg #[Go.Value.string { data := #[] }]), 1, 16)),
  i167 := Eq.refl (Option.some (Option.some (Go.Value.int Go.IntKind.i64 0), 1, 8)),
  i168 := Eq.refl (Option.some (Option.some (Go.Value.pointer Option.none), 1, 8)),
  i171 :=
    Eq.refl
      (Option.some
        (Option.some
            (Go.Value.agg
              #[Go.Value.int Go.IntKind.u8 0, Go.Value.int Go.IntKind.u8 0, Go.Value.int Go.IntKind.u8 0,
                Go.Value.int Go.IntKind.u8 0, Go.Value.int Go.IntKind.u8 0, Go.Value.int Go.IntKind.u8 0,
                Go.Value.int Go.IntKind.u8 0, Go.Value.int Go.IntKind.u8 0, Go.Value.int Go.IntKind.u8 0,
                Go.Value.int Go.IntKind.u8 0, Go.Value.int Go.IntKind.u8 0, Go.Value.int Go.IntKind.u8 0,
                Go.Value.int Go.IntKind.u8 0, Go.Value.int Go.IntKind.u8 0, Go.Value.int Go.IntKind.u8 0,
                Go.Value.int Go.IntKind.u8 0, Go.Value.int Go.IntKind.u8 0, Go.Value.int Go.IntKind.u8 0,
                Go.Value.int Go.IntKind.u8 0, Go.Value.int Go.IntKind.u8 0, Go.Value.int Go.IntKind.u8 0,
                Go.Value.int Go.IntKind.u8 0, Go.Value.int Go.IntKind.u8 0, Go.Value.int Go.IntKind.u8 0]),
          24, 24)),
  i173 :=
    Eq.refl
      (Option.some
        (Option.some (Go.Value.tuple #[Go.Value.slice Option.none 0 0, Go.Value.string { data := #[] }]), 1, 0)),
  i175 :=
    Eq.refl (Option.some (Option.some (Go.Value.tuple #[Go.Value.int Go.IntKind.u64 0, Go.Value.nilIface]), 1, 0)),
  i210 :=
    Eq.refl
      (Option.some
        (Option.some
            (Go.Value.agg #[Go.Value.string { data := #[] }, Go.Value.string { data := #[] }, Go.Value.nilIface]),
          3, 48)),
  i212 :=
    Eq.refl
      (Option.some
        (Option.some
            (Go.Value.agg
              #[Go.Value.int Go.IntKind.u64 0, Go.Value.int Go.IntKind.u64 0, Go.Value.int Go.IntKind.u64 0,
                Go.Value.int Go.IntKind.u64 0, Go.Value.int Go.IntKind.u64 0, Go.Value.int Go.IntKind.u64 0,
                Go.Value.int Go.IntKind.u64 0, Go.Value.int Go.IntKind.u64 0, Go.Value.int Go.IntKind.u64 0,
                Go.Value.int Go.IntKind.u64 0, Go.Value.int Go.IntKind.u64 0, Go.Value.int Go.IntKind.u64 0,
                Go.Value.int Go.IntKind.u64 0, Go.Value.int Go.IntKind.u64 0, Go.Value.int Go.IntKind.u64 0,
                Go.Value.int Go.IntKind.u64 0, Go.Value.int Go.IntKind.u64 0, Go.Value.int Go.IntKind.u64 0,
                Go.Value.int Go.IntKind.u64 0, Go.Value.int Go.IntKind.u64 0]),
          20, 160)),
  i232 :=
    Eq.refl
      (Option.some
        (Option.some
            (Go.Value.agg
              #[Go.Value.int Go.IntKind.u8 0, Go.Value.int Go.IntKind.u8 0, Go.Value.int Go.IntKind.u8 0,
                Go.Value.int Go.IntKind.u8 0, Go.Value.int Go.IntKind.u8 0, Go.Value.int Go.IntKind.u8 0,
                Go.Value.int Go.IntKind.u8 0, Go.Value.int Go.IntKind.u8 0, Go.Value.int Go.IntKind.u8 0,
                Go.Value.int Go.IntKind.u8 0, Go.Value.int Go.IntKind.u8 0, Go.Value.int Go.IntKind.u8 0,
                Go.Value.int Go.IntKind.u8 0, Go.Value.int Go.IntKind.u8 0, Go.Value.int Go.IntKind.u8 0,
                Go.Value.int Go.IntKind.u8 0, Go.Value.int Go.IntKind.u8 0, Go.Value.int Go.IntKind.u8 0,
                Go.Value.int Go.IntKind.u8 0, Go.Value.int Go.IntKind.u8 0, Go.Value.int Go.IntKind.u8 0,
                Go.Value.int Go.IntKind.u8 0, Go.Value.int Go.IntKind.u8 0, Go.Value.int Go.IntKind.u8 0,
                Go.Value.int Go.IntKind.u8 0, Go.Value.int Go.IntKind.u8 0, Go.Value.int Go.IntKind.u8 0,
                Go.Value.int Go.IntKind.u8 0, Go.Value.int Go.IntKind.u8 0, Go.Value.int Go.IntKind.u8 0,
                Go.Value.int Go.IntKind.u8 0, Go.Value.int Go.IntKind.u8 0]),
          32, 32)),
  i233 :=
    Eq.refl
      (Option.some
        (Option.some
            (Go.Value.agg
              (let y :=
                  let y :=
                    let y :=
                      let y :=
                        [Go.Value.int Go.IntKind.u8 0, Go.Value.int Go.IntKind.u8 0, Go.Value.int Go.IntKind.u8 0,
                          Go.Value.int Go.IntKind.u8 0];
                      Go.Value.int Go.IntKind.u8 0 ::
                        Go.Value.int Go.IntKind.u8 0 ::
                          Go.Value.int Go.IntKind.u8 0 :: Go.Value.int Go.IntKind.u8 0 :: y;
                    let y :=
                      Go.Value.int Go.IntKind.u8 0 ::
                        Go.Value.int Go.IntKind.u8 0 ::
                          Go.Value.int Go.IntKind.u8 0 :: Go.Value.int Go.IntKind.u8 0 :: y;
                    Go.Value.int Go.IntKind.u8 0 ::
                      Go.Value.int Go.IntKind.u8 0 :: Go.Value.int Go.IntKind.u8 0 :: Go.Value.int Go.IntKind.u8 0 :: y;
                  let y :=
                    let y :=
                      Go.Value.int Go.IntKind.u8 0 ::
                        Go.Value.int Go.IntKind.u8 0 ::
                          Go.Value.int Go.IntKind.u8 0 :: Go.Value.int Go.IntKind.u8 0 :: y;
                    Go.Value.int Go.IntKind.u8 0 ::
                      Go.Value.int Go.IntKind.u8 0 :: Go.Value.int Go.IntKind.u8 0 :: Go.Value.int Go.IntKind.u8 0 :: y;
                  let y :=
                    Go.Value.int Go.IntKind.u8 0 ::
                      Go.Value.int Go.IntKind.u8 0 :: Go.Value.int Go.IntKind.u8 0 :: Go.Value.int Go.IntKind.u8 0 :: y;
                  Go.Value.int Go.IntKind.u8 0 ::
                    Go.Value.int Go.IntKind.u8 0 :: Go.Value.int Go.IntKind.u8 0 :: Go.Value.int Go.IntKind.u8 0 :: y;
                let y :=
                  let y :=
                    let y :=
                      Go.Value.int Go.IntKind.u8 0 ::
                        Go.Value.int Go.IntKind.u8 0 ::
                          Go.Value.int Go.IntKind.u8 0 :: Go.Value.int Go.IntKind.u8 0 :: y;
                    Go.Value.int Go.IntKind.u8 0 ::
                      Go.Value.int Go.IntKind.u8 0 :: Go.Value.int Go.IntKind.u8 0 :: Go.Value.int Go.IntKind.u8 0 :: y;
                  let y :=
                    Go.Value.int Go.IntKind.u8 0 ::
                      Go.Value.int Go.IntKind.u8 0 :: Go.Value.int Go.IntKind.u8 0 :: Go.Value.int Go.IntKind.u8 0 :: y;
                  Go.Value.int Go.IntKind.u8 0 ::
                    Go.Value.int Go.IntKind.u8 0 :: Go.Value.int Go.IntKind.u8 0 :: Go.Value.int Go.IntKind.u8 0 :: y;
                let y :=
                  let y :=
                    Go.Value.int Go.IntKind.u8 0 ::
                      Go.Value.int Go.IntKind.u8 0 :: Go.Value.int Go.IntKind.u8 0 :: Go.Value.int Go.IntKind.u8 0 :: y;
                  Go.Value.int Go.IntKind.u8 0 ::
                    Go.Value.int Go.IntKind.u8 0 :: Go.Value.int Go.IntKind.u8 0 :: Go.Value.int Go.IntKind.u8 0 :: y;
                let y :=
                  Go.Value.int Go.IntKind.u8 0 ::
                    Go.Value.int Go.IntKind.u8 0 :: Go.Value.int Go.IntKind.u8 0 :: Go.Value.int Go.IntKind.u8 0 :: y;
                Go.Value.int Go.IntKind.u8 0 ::
                  Go.Value.int Go.IntKind.u8 0 ::
                    Go.Value.int Go.IntKind.u8 0 :: Go.Value.int Go.IntKind.u8 0 :: y).toArray),
          64, 64)),
  m15 := by kernel_rfl,
  m16 := by kernel_rfl,
  m17 := by kernel_rfl,
  m18 := by kernel_rfl,
  m19 := by kernel_rfl, c0 := Eq.refl (Option.some Bool.false),
  c2 := Eq.refl (Option.some Bool.true), c3 := Eq.refl (Option.some Bool.true), c4 := Eq.refl (Option.some Bool.true),
  c5 := Eq.refl (Option.some Bool.true), c9 := Eq.refl (Option.some Bool.true), c20 := Eq.refl (Option.some Bool.true),
  c21 := Eq.refl (Option.some Bool.true), c37 := Eq.refl (Option.some Bool.false),
  c46 := Eq.refl (Option.some Bool.true), c51 := Eq.refl (Option.some Bool.true),
  c53 := Eq.refl (Option.some Bool.true), c75 := Eq.refl (Option.some Bool.true),
  c80 := Eq.refl (Option.some Bool.false), c85 := Eq.refl (Option.some Bool.false),
  c127 := Eq.refl (Option.some Bool.true), c143 := Eq.refl (Option.some Bool.true),
  c145 := Eq.refl (Option.some Bool.true), c167 := Eq.refl (Option.some Bool.true),
  c168 := Eq.refl (Option.some Bool.true), c171 := Eq.refl (Option.some Bool.true),
  c173 := Eq.refl (Option.some Bool.false), c175 := Eq.refl (Option.some Bool.false),
  c210 := Eq.refl (Option.some Bool.true), c212 := Eq.refl (Option.some Bool.true),
  c213 := Eq.refl (Option.some Bool.true), c232 := Eq.refl (Option.some Bool.true),
  c233 := Eq.refl (Option.some Bool.true) }
end Go.Proofs.YthflejkkcnglgaaDoor
