/-
  A structure of the shelf, laid at this program: LaysC.n245.
-/
import Derived.Shelf.LaysC
import Derived.Shelf.Strconv.ToError
import Derived.KernelRfl
import Derived.Test.YtnpccnhamohnkaaGreatDoorProg
namespace Go.Proofs.YtnpccnhamohnkaaGreatDoor
open Go Go.Proofs Go.Shelf
set_option maxRecDepth 100000

def renToErr : Go.Shelf.Ren :=
{
  f := fun x ↦
    match x with
    | 245 => 208
    | 279 => 248
    | 280 => 249
    | 281 => 250
    | 282 => 251
    | 316 => 270
    | 171 => 272
    | 205 => 271
    | 243 => 274
    | 246 => 130
    | 283 => 187
    | 284 => 188
    | 285 => 189
    | 286 => 190
    | 129 => 220
    | 317 => 219
    | 318 => 221
    | 319 => 222
    | 320 => 223
    | 337 => 257
    | 338 => 258
    | n => n,
  t := fun x ↦
    match x with
    | 9 => 9
    | 3 => 3
    | 75 => 111
    | 167 => 269
    | 4 => 4
    | 168 => 270
    | 210 => 286
    | 37 => 35
    | 0 => 0
    | 127 => 178
    | 145 => 292
    | 143 => 290
    | 2 => 2
    | 171 => 220
    | 53 => 164
    | 5 => 5
    | 173 => 223
    | 212 => 244
    | 51 => 210
    | 20 => 20
    | 213 => 245
    | 46 => 184
    | 232 => 288
    | 233 => 289
    | 80 => 115
    | n => n,
  g := fun x ↦
    match x with
    | 15 => 5
    | 16 => 6
    | 17 => 2
    | 18 => 7
    | 19 => 8
    | n => n }
theorem laysToErr : Go.Proofs.LaysC.n245 Tryz.prog renToErr :=
{ mixed := Eq.refl Bool.true,
  f129 :=
    Eq.trans Tryz.func220 (congrArg Option.some (Eq.refl (Go.Proofs.Body.n129 renToErr))),
  f171 :=
    Eq.trans Tryz.func272 (congrArg Option.some (Eq.refl (Go.Proofs.Body.n171 renToErr))),
  f205 :=
    Eq.trans Tryz.func271 (congrArg Option.some (Eq.refl (Go.Proofs.Body.n205 renToErr))),
  f243 :=
    Eq.trans Tryz.func274 (congrArg Option.some (Eq.refl (Go.Proofs.Body.n243 renToErr))),
  f245 :=
    Eq.trans Tryz.func208 (congrArg Option.some (Eq.refl (Go.Proofs.Body.n245 renToErr))),
  f246 :=
    Eq.trans Tryz.func130 (congrArg Option.some (Eq.refl (Go.Proofs.Body.n246 renToErr))),
  f279 :=
    Eq.trans Tryz.func248 (congrArg Option.some (Eq.refl (Go.Proofs.Body.n279 renToErr))),
  f280 :=
    Eq.trans Tryz.func249 (congrArg Option.some (Eq.refl (Go.Proofs.Body.n280 renToErr))),
  f281 :=
    Eq.trans Tryz.func250 (congrArg Option.some (Eq.refl (Go.Proofs.Body.n281 renToErr))),
  f282 :=
    Eq.trans Tryz.func251 (congrArg Option.some (Eq.refl (Go.Proofs.Body.n282 renToErr))),
  f283 :=
    Eq.trans Tryz.func187 (congrArg Option.some (Eq.refl (Go.Proofs.Body.n283 renToErr))),
  f284 :=
    Eq.trans Tryz.func188 (congrArg Option.some (Eq.refl (Go.Proofs.Body.n284 renToErr))),
  f285 :=
    Eq.trans Tryz.func189 (congrArg Option.some (Eq.refl (Go.Proofs.Body.n285 renToErr))),
  f286 :=
    Eq.trans Tryz.func190 (congrArg Option.some (Eq.refl (Go.Proofs.Body.n286 renToErr))),
  f316 :=
    Eq.trans Tryz.func270 (congrArg Option.some (Eq.refl (Go.Proofs.Body.n316 renToErr))),
  f317 :=
    Eq.trans Tryz.func219 (congrArg Option.some (Eq.refl (Go.Proofs.Body.n317 renToErr))),
  f318 :=
    Eq.trans Tryz.func221 (congrArg Option.some (Eq.refl (Go.Proofs.Body.n318 renToErr))),
  f319 :=
    Eq.trans Tryz.func222 (congrArg Option.some (Eq.refl (Go.Proofs.Body.n319 renToErr))),
  f320 :=
    Eq.trans Tryz.func223 (congrArg Option.some (Eq.refl (Go.Proofs.Body.n320 renToErr))),
  f337 :=
    Eq.trans Tryz.func257 (congrArg Option.some (Eq.refl (Go.Proofs.Body.n337 renToErr))),
  f338 :=
    Eq.trans Tryz.func258 (congrArg Option.some (Eq.refl (Go.Proofs.Body.n338 renToErr))),
  t0 := Tryz.underlying0, a0 := Tryz.isAgg0, z0 := Tryz.sizeOf0,
  v0 := Tryz.zeroValue0, t2 := Tryz.underlying2, a2 := Tryz.isAgg2,
  z2 := Tryz.sizeOf2, v2 := Tryz.zeroValue2, t3 := Tryz.underlying3,
  a3 := Tryz.isAgg3, z3 := Tryz.sizeOf3, v3 := Tryz.zeroValue3,
  t4 := Tryz.underlying4, a4 := Tryz.isAgg4, z4 := Tryz.sizeOf4,
  v4 := Tryz.zeroValue4, t5 := Tryz.underlying5, a5 := Tryz.isAgg5,
  z5 := Tryz.sizeOf5, v5 := Tryz.zeroValue5, t9 := Tryz.underlying9,
  a9 := Tryz.isAgg9, z9 := Tryz.sizeOf9, v9 := Tryz.zeroValue9,
  t20 := Tryz.underlying20, a20 := Tryz.isAgg20, z20 := Tryz.sizeOf20,
  v20 := Tryz.zeroValue20, t37 := Tryz.underlying35, a37 := Tryz.isAgg35,
  z37 := Tryz.sizeOf35, v37 := Tryz.zeroValue35, t46 := Tryz.underlying184,
  a46 := Tryz.isAgg184, z46 := Tryz.sizeOf184, v46 := Tryz.zeroValue184,
  t51 := Tryz.underlying210, a51 := Tryz.isAgg210, z51 := Tryz.sizeOf210,
  v51 := Tryz.zeroValue210, t53 := Tryz.underlying164, a53 := Tryz.isAgg164,
  z53 := Tryz.sizeOf164, v53 := Tryz.zeroValue164, t75 := Tryz.underlying111,
  a75 := Tryz.isAgg111, z75 := Tryz.sizeOf111, v75 := Tryz.zeroValue111,
  t127 := Tryz.underlying178, a127 := Tryz.isAgg178, z127 := Tryz.sizeOf178,
  v127 := Tryz.zeroValue178, t143 := Tryz.underlying290, a143 := Tryz.isAgg290,
  z143 := Tryz.sizeOf290, v143 := Tryz.zeroValue290, t145 := Tryz.underlying292,
  a145 := Tryz.isAgg292, z145 := Tryz.sizeOf292, v145 := Tryz.zeroValue292,
  t167 := Tryz.underlying269, a167 := Tryz.isAgg269, z167 := Tryz.sizeOf269,
  v167 := Tryz.zeroValue269, t168 := Tryz.underlying270, a168 := Tryz.isAgg270,
  z168 := Tryz.sizeOf270, v168 := Tryz.zeroValue270, t171 := Tryz.underlying220,
  a171 := Tryz.isAgg220, z171 := Tryz.sizeOf220, v171 := Tryz.zeroValue220,
  t173 := Tryz.underlying223, a173 := Tryz.isAgg223, z173 := Tryz.sizeOf223,
  v173 := Tryz.zeroValue223, t210 := Tryz.underlying286, a210 := Tryz.isAgg286,
  z210 := Tryz.sizeOf286, v210 := Tryz.zeroValue286, t212 := Tryz.underlying244,
  a212 := Tryz.isAgg244, z212 := Tryz.sizeOf244, v212 := Tryz.zeroValue244,
  t213 := Tryz.underlying245, a213 := Tryz.isAgg245, z213 := Tryz.sizeOf245,
  t232 := Tryz.underlying288, a232 := Tryz.isAgg288, z232 := Tryz.sizeOf288,
  v232 := Tryz.zeroValue288, t233 := Tryz.underlying289, a233 := Tryz.isAgg289,
  z233 := Tryz.sizeOf289, v233 := Tryz.zeroValue289,
  g15 := by kernel_rfl,
  g16 := by kernel_rfl,
  g17 := by kernel_rfl,
  g18 := by kernel_rfl,
  g19 := by kernel_rfl, t80 := Tryz.underlying115,
  a80 := Tryz.isAgg115, z80 := Tryz.sizeOf115, v80 := Tryz.zeroValue115,
  i0 := Eq.refl (Option.some (Option.some (Go.Value.tuple #[]), 1, 0)),
  i2 := Eq.refl (Option.some (Option.some (Go.Value.int Go.IntKind.i64 0), 1, 8)),
  i3 := Eq.refl (Option.some (Option.some (Go.Value.int Go.IntKind.i64 0), 1, 8)),
  i4 := Eq.refl (Option.some (Option.some (Go.Value.bool Bool.false), 1, 1)),
  i5 := Eq.refl (Option.some (Option.some (Go.Value.int Go.IntKind.u8 0), 1, 1)),
  i9 := Eq.refl (Option.some (Option.some (Go.Value.string { data := #[] }), 1, 16)),
  i20 := Eq.refl (Option.some (Option.some Go.Value.nilIface, 1, 16)),
  i37 := Eq.refl (Option.some (Option.some (Go.Value.slice Option.none 0 0), 1, 24)),
  i46 := Eq.refl (Option.some (Option.some (Go.Value.int Go.IntKind.u64 0), 1, 8)),
  i51 := Eq.refl (Option.some (Option.some (Go.Value.int Go.IntKind.u32 0), 1, 4)),
  i53 := Eq.refl (Option.some (Option.some (Go.Value.int Go.IntKind.u64 0), 1, 8)),
  i75 := Eq.refl (Option.some (Option.some Go.Value.nilIface, 1, 16)),
  i80 := Eq.refl (Option.some (Option.some Go.Value.nilFunc, 1, 8)),
  i127 := Eq.refl (Option.some (Option.some (Go.Value.pointer Option.none), 1, 8)),
  i143 := Eq.refl (Option.some (Option.some (Go.Value.pointer Option.none), 1, 8)),
  i145 := Eq.refl (Option.some (Option.some (Go.Value.agg #[Go.Value.string { data := #[] }]), 1, 16)),
  i167 := Eq.refl (Option.some (Option.some (Go.Value.int Go.IntKind.i64 0), 1, 8)),
  i168 := Eq.refl (Option.some (Option.some (Go.Value.pointer Option.none), 1, 8)),
  i171 :=
    Eq.refl
      (Option.some
        (Option.some
            (Go.Value.agg
              #[Go.Value.int Go.IntKind.u8 0, Go.Value.int Go.IntKind.u8 0, Go.Value.int Go.IntKind.u8 0,
                Go.Value.int Go.IntKind.u8 0, Go.Value.int Go.IntKind.u8 0, Go.Value.int Go.IntKind.u8 0,
                Go.Value.int Go.IntKind.u8 0, Go.Value.int Go.IntKind.u8 0, Go.Value.int Go.IntKind.u8 0,
                Go.Value.int Go.IntKind.u8 0, Go.Value.int Go.IntKind.u8 0, Go.Value.int Go.IntKind.u8 0,
                Go.Value.int Go.IntKind.u8 0, Go.Value.int Go.IntKind.u8 0, Go.Value.int Go.IntKind.u8 0,
                Go.Value.int Go.IntKind.u8 0, Go.Value.int Go.IntKind.u8 0, Go.Value.int Go.IntKind.u8 0,
                Go.Value.int Go.IntKind.u8 0, Go.Value.int Go.IntKind.u8 0, Go.Value.int Go.IntKind.u8 0,
                Go.Value.int Go.IntKind.u8 0, Go.Value.int Go.IntKind.u8 0, Go.Value.int Go.IntKind.u8 0]),
          24, 24)),
  i173 :=
    Eq.refl
      (Option.some
        (Option.some (Go.Value.tuple #[Go.Value.slice Option.none 0 0, Go.Value.string { data := #[] }]), 1, 0)),
  i210 :=
    Eq.refl
      (Option.some
        (Option.some
            (Go.Value.agg #[Go.Value.string { data := #[] }, Go.Value.string { data := #[] }, Go.Value.nilIface]),
          3, 48)),
  i212 :=
    Eq.refl
      (Option.some
        (Option.some
            (Go.Value.agg
              #[Go.Value.int Go.IntKind.u64 0, Go.Value.int Go.IntKind.u64 0, Go.Value.int Go.IntKind.u64 0,
                Go.Value.int Go.IntKind.u64 0, Go.Value.int Go.IntKind.u64 0, Go.Value.int Go.IntKind.u64 0,
                Go.Value.int Go.IntKind.u64 0, Go.Value.int Go.IntKind.u64 0, Go.Value.int Go.IntKind.u64 0,
                Go.Value.int Go.IntKind.u64 0, Go.Value.int Go.IntKind.u64 0, Go.Value.int Go.IntKind.u64 0,
                Go.Value.int Go.IntKind.u64 0, Go.Value.int Go.IntKind.u64 0, Go.Value.int Go.IntKind.u64 0,
                Go.Value.int Go.IntKind.u64 0, Go.Value.int Go.IntKind.u64 0, Go.Value.int Go.IntKind.u64 0,
                Go.Value.int Go.IntKind.u64 0, Go.Value.int Go.IntKind.u64 0]),
          20, 160)),
  i232 :=
    Eq.refl
      (Option.some
        (Option.some
            (Go.Value.agg
              #[Go.Value.int Go.IntKind.u8 0, Go.Value.int Go.IntKind.u8 0, Go.Value.int Go.IntKind.u8 0,
                Go.Value.int Go.IntKind.u8 0, Go.Value.int Go.IntKind.u8 0, Go.Value.int Go.IntKind.u8 0,
                Go.Value.int Go.IntKind.u8 0, Go.Value.int Go.IntKind.u8 0, Go.Value.int Go.IntKind.u8 0,
                Go.Value.int Go.IntKind.u8 0, Go.Value.int Go.IntKind.u8 0, Go.Value.int Go.IntKind.u8 0,
                Go.Value.int Go.IntKind.u8 0, Go.Value.int Go.IntKind.u8 0, Go.Value.int Go.IntKind.u8 0,
                Go.Value.int Go.IntKind.u8 0, Go.Value.int Go.IntKind.u8 0, Go.Value.int Go.IntKind.u8 0,
                Go.Value.int Go.IntKind.u8 0, Go.Value.int Go.IntKind.u8 0, Go.Value.int Go.IntKind.u8 0,
                Go.Value.int Go.IntKind.u8 0, Go.Value.int Go.IntKind.u8 0, Go.Value.int Go.IntKind.u8 0,
                Go.Value.int Go.IntKind.u8 0, Go.Value.int Go.IntKind.u8 0, Go.Value.int Go.IntKind.u8 0,
                Go.Value.int Go.IntKind.u8 0, Go.Value.int Go.IntKind.u8 0, Go.Value.int Go.IntKind.u8 0,
                Go.Value.int Go.IntKind.u8 0, Go.Value.int Go.IntKind.u8 0]),
          32, 32)),
  i233 :=
    Eq.refl
      (Option.some
        (Option.some
            (Go.Value.agg
              (let y :=
                  let y :=
                    let y :=
                      let y :=
                        [Go.Value.int Go.IntKind.u8 0, Go.Value.int Go.IntKind.u8 0, Go.Value.int Go.IntKind.u8 0,
                          Go.Value.int Go.IntKind.u8 0];
                      Go.Value.int Go.IntKind.u8 0 ::
                        Go.Value.int Go.IntKind.u8 0 ::
                          Go.Value.int Go.IntKind.u8 0 :: Go.Value.int Go.IntKind.u8 0 :: y;
                    let y :=
                      Go.Value.int Go.IntKind.u8 0 ::
                        Go.Value.int Go.IntKind.u8 0 ::
                          Go.Value.int Go.IntKind.u8 0 :: Go.Value.int Go.IntKind.u8 0 :: y;
                    Go.Value.int Go.IntKind.u8 0 ::
                      Go.Value.int Go.IntKind.u8 0 :: Go.Value.int Go.IntKind.u8 0 :: Go.Value.int Go.IntKind.u8 0 :: y;
                  let y :=
                    let y :=
                      Go.Value.int Go.IntKind.u8 0 ::
                        Go.Value.int Go.IntKind.u8 0 ::
                          Go.Value.int Go.IntKind.u8 0 :: Go.Value.int Go.IntKind.u8 0 :: y;
                    Go.Value.int Go.IntKind.u8 0 ::
                      Go.Value.int Go.IntKind.u8 0 :: Go.Value.int Go.IntKind.u8 0 :: Go.Value.int Go.IntKind.u8 0 :: y;
                  let y :=
                    Go.Value.int Go.IntKind.u8 0 ::
                      Go.Value.int Go.IntKind.u8 0 :: Go.Value.int Go.IntKind.u8 0 :: Go.Value.int Go.IntKind.u8 0 :: y;
                  Go.Value.int Go.IntKind.u8 0 ::
                    Go.Value.int Go.IntKind.u8 0 :: Go.Value.int Go.IntKind.u8 0 :: Go.Value.int Go.IntKind.u8 0 :: y;
                let y :=
                  let y :=
                    let y :=
                      Go.Value.int Go.IntKind.u8 0 ::
                        Go.Value.int Go.IntKind.u8 0 ::
                          Go.Value.int Go.IntKind.u8 0 :: Go.Value.int Go.IntKind.u8 0 :: y;
                    Go.Value.int Go.IntKind.u8 0 ::
                      Go.Value.int Go.IntKind.u8 0 :: Go.Value.int Go.IntKind.u8 0 :: Go.Value.int Go.IntKind.u8 0 :: y;
                  let y :=
                    Go.Value.int Go.IntKind.u8 0 ::
                      Go.Value.int Go.IntKind.u8 0 :: Go.Value.int Go.IntKind.u8 0 :: Go.Value.int Go.IntKind.u8 0 :: y;
                  Go.Value.int Go.IntKind.u8 0 ::
                    Go.Value.int Go.IntKind.u8 0 :: Go.Value.int Go.IntKind.u8 0 :: Go.Value.int Go.IntKind.u8 0 :: y;
                let y :=
                  let y :=
                    Go.Value.int Go.IntKind.u8 0 ::
                      Go.Value.int Go.IntKind.u8 0 :: Go.Value.int Go.IntKind.u8 0 :: Go.Value.int Go.IntKind.u8 0 :: y;
                  Go.Value.int Go.IntKind.u8 0 ::
                    Go.Value.int Go.IntKind.u8 0 :: Go.Value.int Go.IntKind.u8 0 :: Go.Value.int Go.IntKind.u8 0 :: y;
                let y :=
                  Go.Value.int Go.IntKind.u8 0 ::
                    Go.Value.int Go.IntKind.u8 0 :: Go.Value.int Go.IntKind.u8 0 :: Go.Value.int Go.IntKind.u8 0 :: y;
                Go.Value.int Go.IntKind.u8 0 ::
                  Go.Value.int Go.IntKind.u8 0 ::
                    Go.Value.int Go.IntKind.u8 0 :: Go.Value.int Go.IntKind.u8 0 :: y).toArray),
          64, 64)),
  m15 := by kernel_rfl,
  m16 := by kernel_rfl,
  m17 := by kernel_rfl,
  m18 := by kernel_rfl,
  m19 := by kernel_rfl, c0 := Eq.refl (Option.some Bool.false),
  c2 := Eq.refl (Option.some Bool.true), c3 := Eq.refl (Option.some Bool.true), c4 := Eq.refl (Option.some Bool.true),
  c5 := Eq.refl (Option.some Bool.true), c9 := Eq.refl (Option.some Bool.true), c20 := Eq.refl (Option.some Bool.true),
  c37 := Eq.refl (Option.some Bool.false), c46 := Eq.refl (Option.some Bool.true),
  c51 := Eq.refl (Option.some Bool.true), c53 := Eq.refl (Option.some Bool.true),
  c75 := Eq.refl (Option.some Bool.true), c80 := Eq.refl (Option.some Bool.false),
  c127 := Eq.refl (Option.some Bool.true), c143 := Eq.refl (Option.some Bool.true),
  c145 := Eq.refl (Option.some Bool.true), c167 := Eq.refl (Option.some Bool.true),
  c168 := Eq.refl (Option.some Bool.true), c171 := Eq.refl (Option.some Bool.true),
  c173 := Eq.refl (Option.some Bool.false), c210 := Eq.refl (Option.some Bool.true),
  c212 := Eq.refl (Option.some Bool.true), c213 := Eq.refl (Option.some Bool.true),
  c232 := Eq.refl (Option.some Bool.true), c233 := Eq.refl (Option.some Bool.true) }
end Go.Proofs.YtnpccnhamohnkaaGreatDoor
