/-
  A structure of the shelf, laid at this program: LaysC.n245.
-/
import Derived.Test.YtjmpldcnhjgpkaaGreatDoorProg
import Derived.Test.YtjmpldcnhjgpkaaGreatDoorVal
import Derived.Shelf.LaysC
import Derived.Shelf.Strconv.ToError
import Derived.KernelRfl
import Derived.Lib.ConvBytes
import Derived.Laws.Closers25
import Derived.Laws.Closers25b
import Derived.Lib.Hide
namespace Go.Proofs.YtjmpldcnhjgpkaaGreatDoor
open Go Go.Proofs Go.Shelf
set_option maxRecDepth 100000

def renToErr : Go.Shelf.Ren :=
{
  f := fun x ↦
    match x with
    | 245 => 203
    | 279 => 213
    | 280 => 214
    | 281 => 215
    | 282 => 216
    | 316 => 221
    | 171 => 223
    | 205 => 222
    | 243 => 226
    | 246 => 77
    | 283 => 112
    | 284 => 113
    | 285 => 114
    | 286 => 115
    | 129 => 133
    | 317 => 132
    | 318 => 134
    | 319 => 135
    | 320 => 136
    | 337 => 167
    | 338 => 168
    | n => n,
  t := fun x ↦
    match x with
    | 9 => 9
    | 3 => 3
    | 75 => 86
    | 167 => 253
    | 4 => 4
    | 168 => 254
    | 210 => 262
    | 37 => 22
    | 0 => 0
    | 127 => 133
    | 145 => 267
    | 143 => 265
    | 2 => 2
    | 171 => 160
    | 53 => 115
    | 5 => 5
    | 173 => 163
    | 212 => 183
    | 51 => 154
    | 20 => 20
    | 213 => 184
    | 46 => 139
    | 232 => 233
    | 233 => 234
    | 80 => 90
    | n => n,
  g := fun x ↦
    match x with
    | 15 => 7
    | 16 => 8
    | 17 => 1
    | 18 => 3
    | 19 => 4
    | n => n }
theorem laysToErr : Go.Proofs.LaysC.n245 Tryz.prog renToErr :=
{ mixed := Eq.refl Bool.true,
  f129 :=
    Eq.trans Tryz.func133 (congrArg Option.some (Eq.refl (Go.Proofs.Body.n129 renToErr))),
  f171 :=
    Eq.trans Tryz.func223 (congrArg Option.some (Eq.refl (Go.Proofs.Body.n171 renToErr))),
  f205 :=
    Eq.trans Tryz.func222 (congrArg Option.some (Eq.refl (Go.Proofs.Body.n205 renToErr))),
  f243 :=
    Eq.trans Tryz.func226 (congrArg Option.some (Eq.refl (Go.Proofs.Body.n243 renToErr))),
  f245 :=
    Eq.trans Tryz.func203 (congrArg Option.some (Eq.refl (Go.Proofs.Body.n245 renToErr))),
  f246 :=
    Eq.trans Tryz.func77 (congrArg Option.some (Eq.refl (Go.Proofs.Body.n246 renToErr))),
  f279 :=
    Eq.trans Tryz.func213 (congrArg Option.some (Eq.refl (Go.Proofs.Body.n279 renToErr))),
  f280 :=
    Eq.trans Tryz.func214 (congrArg Option.some (Eq.refl (Go.Proofs.Body.n280 renToErr))),
  f281 :=
    Eq.trans Tryz.func215 (congrArg Option.some (Eq.refl (Go.Proofs.Body.n281 renToErr))),
  f282 :=
    Eq.trans Tryz.func216 (congrArg Option.some (Eq.refl (Go.Proofs.Body.n282 renToErr))),
  f283 :=
    Eq.trans Tryz.func112 (congrArg Option.some (Eq.refl (Go.Proofs.Body.n283 renToErr))),
  f284 :=
    Eq.trans Tryz.func113 (congrArg Option.some (Eq.refl (Go.Proofs.Body.n284 renToErr))),
  f285 :=
    Eq.trans Tryz.func114 (congrArg Option.some (Eq.refl (Go.Proofs.Body.n285 renToErr))),
  f286 :=
    Eq.trans Tryz.func115 (congrArg Option.some (Eq.refl (Go.Proofs.Body.n286 renToErr))),
  f316 :=
    Eq.trans Tryz.func221 (congrArg Option.some (Eq.refl (Go.Proofs.Body.n316 renToErr))),
  f317 :=
    Eq.trans Tryz.func132 (congrArg Option.some (Eq.refl (Go.Proofs.Body.n317 renToErr))),
  f318 :=
    Eq.trans Tryz.func134 (congrArg Option.some (Eq.refl (Go.Proofs.Body.n318 renToErr))),
  f319 :=
    Eq.trans Tryz.func135 (congrArg Option.some (Eq.refl (Go.Proofs.Body.n319 renToErr))),
  f320 :=
    Eq.trans Tryz.func136 (congrArg Option.some (Eq.refl (Go.Proofs.Body.n320 renToErr))),
  f337 :=
    Eq.trans Tryz.func167 (congrArg Option.some (Eq.refl (Go.Proofs.Body.n337 renToErr))),
  f338 :=
    Eq.trans Tryz.func168 (congrArg Option.some (Eq.refl (Go.Proofs.Body.n338 renToErr))),
  t0 := Tryz.underlying0, a0 := Tryz.isAgg0, z0 := Tryz.sizeOf0,
  v0 := Tryz.zeroValue0, t2 := Tryz.underlying2, a2 := Tryz.isAgg2,
  z2 := Tryz.sizeOf2, v2 := Tryz.zeroValue2, t3 := Tryz.underlying3,
  a3 := Tryz.isAgg3, z3 := Tryz.sizeOf3, v3 := Tryz.zeroValue3,
  t4 := Tryz.underlying4, a4 := Tryz.isAgg4, z4 := Tryz.sizeOf4,
  v4 := Tryz.zeroValue4, t5 := Tryz.underlying5, a5 := Tryz.isAgg5,
  z5 := Tryz.sizeOf5, v5 := Tryz.zeroValue5, t9 := Tryz.underlying9,
  a9 := Tryz.isAgg9, z9 := Tryz.sizeOf9, v9 := Tryz.zeroValue9,
  t20 := Tryz.underlying20, a20 := Tryz.isAgg20, z20 := Tryz.sizeOf20,
  v20 := Tryz.zeroValue20, t37 := Tryz.underlying22, a37 := Tryz.isAgg22,
  z37 := Tryz.sizeOf22, v37 := Tryz.zeroValue22, t46 := Tryz.underlying139,
  a46 := Tryz.isAgg139, z46 := Tryz.sizeOf139, v46 := Tryz.zeroValue139,
  t51 := Tryz.underlying154, a51 := Tryz.isAgg154, z51 := Tryz.sizeOf154,
  v51 := Tryz.zeroValue154, t53 := Tryz.underlying115, a53 := Tryz.isAgg115,
  z53 := Tryz.sizeOf115, v53 := Tryz.zeroValue115, t75 := Tryz.underlying86,
  a75 := Tryz.isAgg86, z75 := Tryz.sizeOf86, v75 := Tryz.zeroValue86,
  t127 := Tryz.underlying133, a127 := Tryz.isAgg133, z127 := Tryz.sizeOf133,
  v127 := Tryz.zeroValue133, t143 := Tryz.underlying265, a143 := Tryz.isAgg265,
  z143 := Tryz.sizeOf265, v143 := Tryz.zeroValue265, t145 := Tryz.underlying267,
  a145 := Tryz.isAgg267, z145 := Tryz.sizeOf267, v145 := Tryz.zeroValue267,
  t167 := Tryz.underlying253, a167 := Tryz.isAgg253, z167 := Tryz.sizeOf253,
  v167 := Tryz.zeroValue253, t168 := Tryz.underlying254, a168 := Tryz.isAgg254,
  z168 := Tryz.sizeOf254, v168 := Tryz.zeroValue254, t171 := Tryz.underlying160,
  a171 := Tryz.isAgg160, z171 := Tryz.sizeOf160, v171 := Tryz.zeroValue160,
  t173 := Tryz.underlying163, a173 := Tryz.isAgg163, z173 := Tryz.sizeOf163,
  v173 := Tryz.zeroValue163, t210 := Tryz.underlying262, a210 := Tryz.isAgg262,
  z210 := Tryz.sizeOf262, v210 := Tryz.zeroValue262, t212 := Tryz.underlying183,
  a212 := Tryz.isAgg183, z212 := Tryz.sizeOf183, v212 := Tryz.zeroValue183,
  t213 := Tryz.underlying184, a213 := Tryz.isAgg184, z213 := Tryz.sizeOf184,
  t232 := Tryz.underlying233, a232 := Tryz.isAgg233, z232 := Tryz.sizeOf233,
  v232 := Tryz.zeroValue233, t233 := Tryz.underlying234, a233 := Tryz.isAgg234,
  z233 := Tryz.sizeOf234, v233 := Tryz.zeroValue234,
  g15 := by kernel_rfl,
  g16 := by kernel_rfl,
  g17 := by kernel_rfl,
  g18 := by kernel_rfl,
  g19 := by kernel_rfl, t80 := Tryz.underlying90,
  a80 := Tryz.isAgg90, z80 := Tryz.sizeOf90, v80 := Tryz.zeroValue90,
  i0 := Eq.refl (Option.some (Option.some (Go.Value.tuple #[]), 1, 0)),
  i2 := Eq.refl (Option.some (Option.some (Go.Value.int Go.IntKind.i64 0), 1, 8)),
  i3 := Eq.refl (Option.some (Option.some (Go.Value.int Go.IntKind.i64 0), 1, 8)),
  i4 := Eq.refl (Option.some (Option.some (Go.Value.bool Bool.false), 1, 1)),
  i5 := Eq.refl (Option.some (Option.some (Go.Value.int Go.IntKind.u8 0), 1, 1)),
  i9 := Eq.refl (Option.some (Option.some (Go.Value.string { data := #[] }), 1, 16)),
  i20 := Eq.refl (Option.some (Option.some Go.Value.nilIface, 1, 16)),
  i37 := Eq.refl (Option.some (Option.some (Go.Value.slice Option.none 0 0), 1, 24)),
  i46 := Eq.refl (Option.some (Option.some (Go.Value.int Go.IntKind.u64 0), 1, 8)),
  i51 := Eq.refl (Option.some (Option.some (Go.Value.int Go.IntKind.u32 0), 1, 4)),
  i53 := Eq.refl (Option.some (Option.some (Go.Value.int Go.IntKind.u64 0), 1, 8)),
  i75 := Eq.refl (Option.some (Option.some Go.Value.nilIface, 1, 16)),
  i80 := Eq.refl (Option.some (Option.some Go.Value.nilFunc, 1, 8)),
  i127 := Eq.refl (Option.some (Option.some (Go.Value.pointer Option.none), 1, 8)),
  i143 := Eq.refl (Option.some (Option.some (Go.Value.pointer Option.none), 1, 8)),
  i145 := Eq.refl (Option.some (Option.some (Go.Value.agg #[Go.Value.string { data := #[] }]), 1, 16)),
  i167 := Eq.refl (Option.some (Option.some (Go.Value.int Go.IntKind.i64 0), 1, 8)),
  i168 := Eq.refl (Option.some (Option.some (Go.Value.pointer Option.none), 1, 8)),
  i171 :=
    Eq.refl
      (Option.some
        (Option.some
            (Go.Value.agg
              #[Go.Value.int Go.IntKind.u8 0, Go.Value.int Go.IntKind.u8 0, Go.Value.int Go.IntKind.u8 0,
                Go.Value.int Go.IntKind.u8 0, Go.Value.int Go.IntKind.u8 0, Go.Value.int Go.IntKind.u8 0,
                Go.Value.int Go.IntKind.u8 0, Go.Value.int Go.IntKind.u8 0, Go.Value.int Go.IntKind.u8 0,
                Go.Value.int Go.IntKind.u8 0, Go.Value.int Go.IntKind.u8 0, Go.Value.int Go.IntKind.u8 0,
                Go.Value.int Go.IntKind.u8 0, Go.Value.int Go.IntKind.u8 0, Go.Value.int Go.IntKind.u8 0,
                Go.Value.int Go.IntKind.u8 0, Go.Value.int Go.IntKind.u8 0, Go.Value.int Go.IntKind.u8 0,
                Go.Value.int Go.IntKind.u8 0, Go.Value.int Go.IntKind.u8 0, Go.Value.int Go.IntKind.u8 0,
                Go.Value.int Go.IntKind.u8 0, Go.Value.int Go.IntKind.u8 0, Go.Value.int Go.IntKind.u8 0]),
          24, 24)),
  i173 :=
    Eq.refl
      (Option.some
        (Option.some (Go.Value.tuple #[Go.Value.slice Option.none 0 0, Go.Value.string { data := #[] }]), 1, 0)),
  i210 :=
    Eq.refl
      (Option.some
        (Option.some
            (Go.Value.agg #[Go.Value.string { data := #[] }, Go.Value.string { data := #[] }, Go.Value.nilIface]),
          3, 48)),
  i212 :=
    Eq.refl
      (Option.some
        (Option.some
            (Go.Value.agg
              #[Go.Value.int Go.IntKind.u64 0, Go.Value.int Go.IntKind.u64 0, Go.Value.int Go.IntKind.u64 0,
                Go.Value.int Go.IntKind.u64 0, Go.Value.int Go.IntKind.u64 0, Go.Value.int Go.IntKind.u64 0,
                Go.Value.int Go.IntKind.u64 0, Go.Value.int Go.IntKind.u64 0, Go.Value.int Go.IntKind.u64 0,
                Go.Value.int Go.IntKind.u64 0, Go.Value.int Go.IntKind.u64 0, Go.Value.int Go.IntKind.u64 0,
                Go.Value.int Go.IntKind.u64 0, Go.Value.int Go.IntKind.u64 0, Go.Value.int Go.IntKind.u64 0,
                Go.Value.int Go.IntKind.u64 0, Go.Value.int Go.IntKind.u64 0, Go.Value.int Go.IntKind.u64 0,
                Go.Value.int Go.IntKind.u64 0, Go.Value.int Go.IntKind.u64 0]),
          20, 160)),
  i232 :=
    Eq.refl
      (Option.some
        (Option.some
            (Go.Value.agg
              #[Go.Value.int Go.IntKind.u8 0, Go.Value.int Go.IntKind.u8 0, Go.Value.int Go.IntKind.u8 0,
                Go.Value.int Go.IntKind.u8 0, Go.Value.int Go.IntKind.u8 0, Go.Value.int Go.IntKind.u8 0,
                Go.Value.int Go.IntKind.u8 0, Go.Value.int Go.IntKind.u8 0, Go.Value.int Go.IntKind.u8 0,
                Go.Value.int Go.IntKind.u8 0, Go.Value.int Go.IntKind.u8 0, Go.Value.int Go.IntKind.u8 0,
                Go.Value.int Go.IntKind.u8 0, Go.Value.int Go.IntKind.u8 0, Go.Value.int Go.IntKind.u8 0,
                Go.Value.int Go.IntKind.u8 0, Go.Value.int Go.IntKind.u8 0, Go.Value.int Go.IntKind.u8 0,
                Go.Value.int Go.IntKind.u8 0, Go.Value.int Go.IntKind.u8 0, Go.Value.int Go.IntKind.u8 0,
                Go.Value.int Go.IntKind.u8 0, Go.Value.int Go.IntKind.u8 0, Go.Value.int Go.IntKind.u8 0,
                Go.Value.int Go.IntKind.u8 0, Go.Value.int Go.IntKind.u8 0, Go.Value.int Go.IntKind.u8 0,
                Go.Value.int Go.IntKind.u8 0, Go.Value.int Go.IntKind.u8 0, Go.Value.int Go.IntKind.u8 0,
                Go.Value.int Go.IntKind.u8 0, Go.Value.int Go.IntKind.u8 0]),
          32, 32)),
  i233 :=
    Eq.refl
      (Option.some
        (Option.some
            (Go.Value.agg
              (let y :=
                  let y :=
                    let y :=
                      let y :=
                        [Go.Value.int Go.IntKind.u8 0, Go.Value.int Go.IntKind.u8 0, Go.Value.int Go.IntKind.u8 0,
                          Go.Value.int Go.IntKind.u8 0];
                      Go.Value.int Go.IntKind.u8 0 ::
                        Go.Value.int Go.IntKind.u8 0 ::
                          Go.Value.int Go.IntKind.u8 0 :: Go.Value.int Go.IntKind.u8 0 :: y;
                    let y :=
                      Go.Value.int Go.IntKind.u8 0 ::
                        Go.Value.int Go.IntKind.u8 0 ::
                          Go.Value.int Go.IntKind.u8 0 :: Go.Value.int Go.IntKind.u8 0 :: y;
                    Go.Value.int Go.IntKind.u8 0 ::
                      Go.Value.int Go.IntKind.u8 0 :: Go.Value.int Go.IntKind.u8 0 :: Go.Value.int Go.IntKind.u8 0 :: y;
                  let y :=
                    let y :=
                      Go.Value.int Go.IntKind.u8 0 ::
                        Go.Value.int Go.IntKind.u8 0 ::
                          Go.Value.int Go.IntKind.u8 0 :: Go.Value.int Go.IntKind.u8 0 :: y;
                    Go.Value.int Go.IntKind.u8 0 ::
                      Go.Value.int Go.IntKind.u8 0 :: Go.Value.int Go.IntKind.u8 0 :: Go.Value.int Go.IntKind.u8 0 :: y;
                  let y :=
                    Go.Value.int Go.IntKind.u8 0 ::
                      Go.Value.int Go.IntKind.u8 0 :: Go.Value.int Go.IntKind.u8 0 :: Go.Value.int Go.IntKind.u8 0 :: y;
                  Go.Value.int Go.IntKind.u8 0 ::
                    Go.Value.int Go.IntKind.u8 0 :: Go.Value.int Go.IntKind.u8 0 :: Go.Value.int Go.IntKind.u8 0 :: y;
                let y :=
                  let y :=
                    let y :=
                      Go.Value.int Go.IntKind.u8 0 ::
                        Go.Value.int Go.IntKind.u8 0 ::
                          Go.Value.int Go.IntKind.u8 0 :: Go.Value.int Go.IntKind.u8 0 :: y;
                    Go.Value.int Go.IntKind.u8 0 ::
                      Go.Value.int Go.IntKind.u8 0 :: Go.Value.int Go.IntKind.u8 0 :: Go.Value.int Go.IntKind.u8 0 :: y;
                  let y :=
                    Go.Value.int Go.IntKind.u8 0 ::
                      Go.Value.int Go.IntKind.u8 0 :: Go.Value.int Go.IntKind.u8 0 :: Go.Value.int Go.IntKind.u8 0 :: y;
                  Go.Value.int Go.IntKind.u8 0 ::
                    Go.Value.int Go.IntKind.u8 0 :: Go.Value.int Go.IntKind.u8 0 :: Go.Value.int Go.IntKind.u8 0 :: y;
                let y :=
                  let y :=
                    Go.Value.int Go.IntKind.u8 0 ::
                      Go.Value.int Go.IntKind.u8 0 :: Go.Value.int Go.IntKind.u8 0 :: Go.Value.int Go.IntKind.u8 0 :: y;
                  Go.Value.int Go.IntKind.u8 0 ::
                    Go.Value.int Go.IntKind.u8 0 :: Go.Value.int Go.IntKind.u8 0 :: Go.Value.int Go.IntKind.u8 0 :: y;
                let y :=
                  Go.Value.int Go.IntKind.u8 0 ::
                    Go.Value.int Go.IntKind.u8 0 :: Go.Value.int Go.IntKind.u8 0 :: Go.Value.int Go.IntKind.u8 0 :: y;
                Go.Value.int Go.IntKind.u8 0 ::
                  Go.Value.int Go.IntKind.u8 0 ::
                    Go.Value.int Go.IntKind.u8 0 :: Go.Value.int Go.IntKind.u8 0 :: y).toArray),
          64, 64)),
  m15 := by kernel_rfl,
  m16 := by kernel_rfl,
  m17 := by kernel_rfl,
  m18 := by kernel_rfl,
  m19 := by kernel_rfl, c0 := Eq.refl (Option.some Bool.false),
  c2 := Eq.refl (Option.some Bool.true), c3 := Eq.refl (Option.some Bool.true), c4 := Eq.refl (Option.some Bool.true),
  c5 := Eq.refl (Option.some Bool.true), c9 := Eq.refl (Option.some Bool.true), c20 := Eq.refl (Option.some Bool.true),
  c37 := Eq.refl (Option.some Bool.false), c46 := Eq.refl (Option.some Bool.true),
  c51 := Eq.refl (Option.some Bool.true), c53 := Eq.refl (Option.some Bool.true),
  c75 := Eq.refl (Option.some Bool.true), c80 := Eq.refl (Option.some Bool.false),
  c127 := Eq.refl (Option.some Bool.true), c143 := Eq.refl (Option.some Bool.true),
  c145 := Eq.refl (Option.some Bool.true), c167 := Eq.refl (Option.some Bool.true),
  c168 := Eq.refl (Option.some Bool.true), c171 := Eq.refl (Option.some Bool.true),
  c173 := Eq.refl (Option.some Bool.false), c210 := Eq.refl (Option.some Bool.true),
  c212 := Eq.refl (Option.some Bool.true), c213 := Eq.refl (Option.some Bool.true),
  c232 := Eq.refl (Option.some Bool.true), c233 := Eq.refl (Option.some Bool.true) }
end Go.Proofs.YtjmpldcnhjgpkaaGreatDoor

/-
  The text of eight hexadecimal digits is read: the library's ParseUint at base 16 and 32 bits.
-/
namespace Go.Proofs.YtjmpldcnhjgpkaaGreatDoor
open Go.RowKit Mem Go.Shelf
set_option linter.unusedVariables false
set_option maxRecDepth 100000

/-- The number of a digit as the program writes it. -/
def lowd (c : UInt8) : Option Nat := if 48 ≤ c.toNat ∧ c.toNat ≤ 57 then some (c.toNat - 48) else if 97 ≤ c.toNat ∧ c.toNat ≤ 102 then some (c.toNat - 87) else none
def hexF : Nat → List UInt8 → Option Nat
  | acc, [] => some acc
  | acc, c :: l => match lowd c with
    | some d => hexF (16 * acc + d) l
    | none => none
theorem lowd_lt {c : UInt8} {d : Nat} (h : lowd c = some d) : d < 16 := by
  unfold lowd at h
  split at h
  · injection h with h; omega
  · split at h
    · injection h with h; omega
    · cases h
theorem low_tab : ∀ k : Fin 256, (97 ≤ k.val → k.val ≤ 102 → bits .or .u8 (k.val : Int) 32 = (k.val : Int)) ∧ 0 ≤ bits .or .u8 (k.val : Int) 32 ∧ bits .or .u8 (k.val : Int) 32 ≤ 255 ∧ (k.val = 95 → bits .or .u8 (k.val : Int) 32 = 127) := by decide +kernel
theorem lower_calls {c : Int} {w : World} : Calls Tryz.prog 219 #[.int .u8 c] w fun e w' => e = .returned (.int .u8 (bits .or .u8 c 32)) ∧ w' = w := by
  go_enter Tryz.func219, Tryz.ntmps219
  go_wp2
  go_ret
  exact ⟨rfl, rfl⟩
/-- What the loop holds of the first k bytes. -/
def Hx (l : List UInt8) (k : Nat) (a : Int) : Prop := 0 ≤ a ∧ a < (16 : Int) ^ k ∧ ∀ n, hexF 0 l = some n → ∃ acc : Nat, a = acc ∧ hexF acc (l.drop k) = some n
theorem hx_zero (l : List UInt8) : Hx l 0 0 := ⟨by omega, by simp, fun n h => ⟨0, rfl, by simpa using h⟩⟩
theorem hx_bd {l : List UInt8} {k : Nat} {a : Int} (h : Hx l k a) (hk : k ≤ 7) : a < 268435456 := by
  have : (16 : Int) ^ k ≤ 16 ^ 7 := by exact_mod_cast Nat.pow_le_pow_right (by decide : 0 < 16) hk
  have h2 := h.2.1
  have h3 : (16 : Int) ^ 7 = 268435456 := by decide
  omega
theorem hx_succ {l : List UInt8} {k : Nat} {a d : Int} {c : UInt8} (h : Hx l k a) (hc : l[k]? = some c) (d0 : 0 ≤ d) (d1 : d < 16) (hd : ∀ e, lowd c = some e → d = e) : Hx l (k + 1) (a * 16 + d) := by
  obtain ⟨h0, h1, h2⟩ := h
  refine ⟨by omega, ?_, fun n hn => ?_⟩
  · rw [Int.pow_succ]; omega
  · obtain ⟨acc, rfl, h3⟩ := h2 n hn
    have hk : k < l.length := by
      rcases Nat.lt_or_ge k l.length with h | h
      · exact h
      · rw [List.getElem?_eq_none h] at hc; cases hc
    have hdr : l.drop k = c :: l.drop (k + 1) := by
      rw [List.drop_eq_getElem_cons hk]
      rw [List.getElem?_eq_getElem hk] at hc
      injection hc with hc
      rw [hc]
    rw [hdr] at h3
    unfold hexF at h3
    cases hl : lowd c with
    | none => rw [hl] at h3; cases h3
    | some e =>
      rw [hl] at h3
      have := hd e hl
      exact ⟨16 * acc + e, by rw [this]; omega, h3⟩
theorem hx_none {l : List UInt8} {k : Nat} {a : Int} {c : UInt8} (h : Hx l k a) (hc : l[k]? = some c) (hd : lowd c = none) : hexF 0 l = none := by
  cases hn : hexF 0 l with
  | none => rfl
  | some n =>
    obtain ⟨acc, _, h3⟩ := h.2.2 n hn
    have hk : k < l.length := by
      rcases Nat.lt_or_ge k l.length with h | h
      · exact h
      · rw [List.getElem?_eq_none h] at hc; cases hc
    rw [List.drop_eq_getElem_cons hk] at h3
    rw [List.getElem?_eq_getElem hk] at hc
    injection hc with hc
    rw [hc] at h3
    unfold hexF at h3
    rw [hd] at h3; cases h3
def hexV (p : ByteArray) : Option Nat := hexF 0 p.data.toList
set_option maxHeartbeats 8000000 in
theorem parse16 {p : ByteArray} {w : World} (hp : p.size = 8) :
    Calls Tryz.prog 212 #[.string p, .int .i64 16, .int .i64 32] w fun e w' => w' = Lib.bytesWorld w 5 p ∧
      ((∃ a : Int, 0 ≤ a ∧ a < 4294967296 ∧ (∀ n, hexV p = some n → a = n) ∧ e = .returned (.tuple #[.int .u64 a, .nilIface])) ∨
       (hexV p = none ∧ e = .returned (.tuple #[.int .u64 0, .iface 253 (.int .i64 2)]))) := by
  have hemp : p.toList.isEmpty = false := by
    rw [← decide_eq_emptyBytes]
    exact decide_eq_false (fun h => by rw [h] at hp; cases hp)
  have hcv := Lib.run_convert_string_bytes (P := Tryz.prog) w 9 22 5 p (u := .string) Tryz.underlying9 Tryz.underlying22 Tryz.underlying5
  have hB : ∀ j, j < p.size → (Lib.bytesWorld w 5 p).cell? ⟨w.heap.size, j, none⟩ = some (.int .u8 (p.data.toList.getD j 0).toNat) := fun j hj => Lib.bytesWorld_cell w 5 p j hj
  obtain ⟨W1, hW1⟩ : ∃ W1, W1 = Lib.bytesWorld w 5 p := ⟨_, rfl⟩
  rw [← hW1] at hcv hB ⊢
  clear hW1
  obtain ⟨bs, hL⟩ : ∃ bs, bs = p.data.toList := ⟨_, rfl⟩
  have hLn : bs.length = 8 := by rw [hL, Lib.size_eq] at *; exact hp
  unfold hexV
  rw [← hL] at hB ⊢
  rw [hp] at hB
  clear hL
  have hmv : IntKind.u64.wrap (IntKind.u64.wrap 4294967296 - 1) = 4294967295 := by
    rw [IntKind.wrap_u64, IntKind.wrap_u64]
    decide
  go_enter Tryz.func212, Tryz.ntmps212
  go_wp2
  go_loop [12, 13, 101] (fun vu vn vi => ∃ (k : Nat) (a : Int), vu = .bool false ∧ vn = .int .u64 a ∧ vi = .int .i64 k ∧ k ≤ 8 ∧ Hid (Hx bs k a)) (fun _ _ vi => 8 - (intOf vi).toNat)
  case atStart => exact ⟨0, 0, rfl, rfl, rfl, by omega, hide (hx_zero _)⟩
  case round =>
    obtain ⟨k, a, rfl, rfl, rfl, hk, hh⟩ := hrel
    by_cases hkn : k < 8
    · have hc := hB k hkn
      have hget : bs[k]? = some (bs.getD k 0) := by simp [List.getD, List.getElem?_eq_getElem (show k < bs.length by omega)]
      generalize bs.getD k 0 = c at hc hget
      have a0 : 0 ≤ a := hh.out.1
      have a1 : a < 268435456 := hx_bd hh.out (by omega)
      have c0 : (0 : Int) ≤ (c.toNat : Int) := by omega
      have c1 : (c.toNat : Int) ≤ 255 := by have := c.toNat_lt; omega
      have hnx : ∀ d : Int, 0 ≤ d → d < 16 → (∀ e, lowd c = some e → d = e) → Hx bs (k + 1) (a * 16 + d) := fun d d0 d1 hd => hx_succ hh.out hget d0 d1 hd
      have hno : lowd c = none → hexF 0 bs = none := fun hd => hx_none hh.out hget hd
      clear hB hget hh
      by_cases hdig : 48 ≤ c.toNat ∧ c.toNat ≤ 57
      · have i0 : (48 : Int) ≤ (c.toNat : Int) := by omega
        have i1 : (c.toNat : Int) ≤ 57 := by omega
        have HN := hide (hnx ((c.toNat : Int) - 48) (by omega) (by omega) (fun e he => by unfold lowd at he; rw [if_pos hdig] at he; injection he with he; omega))
        clear hdig hno hnx
        go_wp2
        refine ⟨⟨k + 1, _, rfl, rfl, by go_num, by omega, HN⟩, by simp [intOf]; omega⟩
      · obtain ⟨t1, t2, t3, t4⟩ := low_tab ⟨c.toNat, c.toNat_lt⟩
        have hlow : ∀ W, Calls Tryz.prog 219 #[.int .u8 (c.toNat : Int)] W fun e w' => e = .returned (.int .u8 (bits .or .u8 (c.toNat : Int) 32)) ∧ w' = W := fun W => lower_calls
        simp only at t1 t2 t3 t4
        generalize bits .or .u8 (c.toNat : Int) 32 = v at hlow t1 t2 t3 t4
        replace hlow := hide hlow
        have i0 : (c.toNat : Int) < 48 ∨ 57 < (c.toNat : Int) := by omega
        by_cases hv : 97 ≤ v ∧ v ≤ 102
        · obtain ⟨v0, v1⟩ := hv
          have HN := hide (hnx (v - 97 + 10) (by omega) (by omega) (fun e he => by
            unfold lowd at he; rw [if_neg hdig] at he
            split at he
            · rename_i h2; injection he with he; have := t1 h2.1 h2.2; omega
            · cases he))
          have i9 : ¬ (c.toNat : Int) = 95 := by intro h; have := t4 (by omega); omega
          clear hdig hno hnx t1 t2 t3 t4
          rcases i0 with i0 | i0
          all_goals
            go_wp2_with ((go_at_call 219; refine (hlow.out _).mono ?_; rintro e w' ⟨rfl, rfl⟩))
            refine ⟨⟨k + 1, _, rfl, rfl, by go_num, by omega, HN⟩, by simp [intOf]; omega⟩
        · have HN : Hid (hexF 0 bs = none) := hide (hno (by
            unfold lowd; rw [if_neg hdig, if_neg]
            rintro ⟨h1, h2⟩
            have := t1 h1 h2
            omega))
          clear hdig hno hnx t1
          by_cases h9 : c.toNat = 95
          · have hv9 := t4 h9
            have h9' : (c.toNat : Int) = 95 := by omega
            rw [h9'] at hc hlow
            subst hv9
            clear i0 t2 t3 t4 hv c0 c1 h9 h9'
            go_wp2_with ((go_at_call 219; refine (hlow.out _).mono ?_; rintro e w' ⟨rfl, rfl⟩))
            go_ret2
            exact ⟨rfl, .inr ⟨HN.out, rfl⟩⟩
          · have i9 : ¬ (c.toNat : Int) = 95 := by omega
            clear t4 h9
            rcases i0 with i0 | i0
            all_goals
              rcases (show v < 97 ∨ (103 ≤ v ∧ v ≤ 122) ∨ 122 < v by omega) with hv | ⟨hv1, hv2⟩ | hv
              all_goals
                go_wp2_with ((go_at_call 219; refine (hlow.out _).mono ?_; rintro e w' ⟨rfl, rfl⟩))
                all_goals (go_ret2; exact ⟨rfl, .inr ⟨HN.out, rfl⟩⟩)
    · obtain rfl : k = 8 := by omega
      have a0 := hh.out.1
      have a1 : a < 4294967296 := by have := hh.out.2.1; have h3 : (16 : Int) ^ 8 = 4294967296 := by decide
                                     omega
      have HV : Hid (∀ n, hexF 0 bs = some n → a = n) := hide (fun n hn => by
        obtain ⟨acc, h1, h2⟩ := hh.out.2.2 n hn
        rw [List.drop_eq_nil_of_le (by omega)] at h2
        unfold hexF at h2; injection h2 with h2
        rw [h1, h2])
      clear hh hB
      go_wp2
      go_ret2
      exact ⟨rfl, .inl ⟨_, a0, a1, HV.out, rfl⟩⟩
theorem toError_calls {fn s : ByteArray} {base bits : Int} {w : World} (hs : s.size ≤ 1048576) (he : Errs w) :
    Calls Tryz.prog 203 #[.string fn, .string s, .int .i64 base, .int .i64 bits, .iface 253 (.int .i64 2)] w fun e w' => (∃ te pe, e = .returned (.iface te pe)) ∧ Below w.heap.size w w' := by
  obtain ⟨⟨a, b, h1⟩, c, d, h2⟩ := he
  refine (Any.strconv_toError_syntax laysToErr fn s base bits _ w (by omega) h1 (Or.inr ⟨_, _, rfl⟩)).mono ?_
  rintro e w' ⟨N, rfl, _, _, hb⟩
  exact ⟨⟨_, _, rfl⟩, hb⟩
theorem parse16_calls {p : ByteArray} {w : World} (hp : p.size = 8) (he : Errs w) :
    Calls Tryz.prog 204 #[.string p, .int .i64 16, .int .i64 32] w fun e w' => Below w.heap.size w w' ∧ ∃ (a : Int) (v : Value), 0 ≤ a ∧ a < 4294967296 ∧ (∀ n, hexV p = some n → a = n) ∧ e = .returned (.tuple #[.int .u64 a, v]) := by
  go_enter Tryz.func204, Tryz.ntmps204
  go_wp2_with fail
  refine (parse16 hp).mono ?_
  rintro e w1 ⟨hw1, h⟩
  have hb := below_bytes (.inr ⟨_, hw1⟩)
  clear hw1
  rcases h with ⟨a, a0, a1, h, rfl⟩ | ⟨h, rfl⟩
  · replace h := hide h
    go_wp2
    go_ret2
    exact ⟨hb, _, _, a0, a1, h.out, rfl⟩
  · have hno : Hid (∀ n : Nat, hexV p = some n → (0 : Int) = n) := hide (fun n hn => by rw [h] at hn; cases hn)
    clear h
    go_wp2_with fail
    refine (toError_calls (by omega) (he.below hb)).mono ?_
    rintro e w2 ⟨⟨te, pe, rfl⟩, hb2⟩
    have hb3 := hb.trans (hb2.mono hb.size)
    go_wp2
    go_ret2
    exact ⟨hb3, 0, _, by omega, by omega, hno.out, rfl⟩
section
variable {P : Program} {f : FuncId} {fn : Func}
theorem run_call_frombits32 (hf : P.funcs[f]? = some fn) (hname : (fn.name == "runtime.NumGoroutine") = false) (hb : fn.body.isNone = true) (hn : Extern.findNext fn = none) (he : Extern.find fn = some Extern.MathFloatBits.float32frombits) (y : Nat) (w : World) :
    (callFunc f #[.int .u32 (y : Int)]).run P w = .ok (.value (.float .f32 y)) w := by
  rw [run_callFunc_extern hf hname hb hn he]
  rfl
end
theorem i_readHex {p : ByteArray} {w : World} (hp : p.size = 8) (he : Errs w) :
    Calls Tryz.prog 182 #[.string p] w fun e w' => Below w.heap.size w w' ∧ ∃ a : Nat, a < 4294967296 ∧ (∀ n, hexV p = some n → a = n) ∧ e = .returned (.float .f32 a) := by
  have hs := fun (y : Nat) (w : World) => run_call_frombits32 (P := Tryz.prog) (f := 205) Tryz.func205 (by kernel_rfl) (by kernel_rfl) (by kernel_rfl) (by rfl) y w
  go_enter Tryz.func182, Tryz.ntmps182
  go_wp2_with fail
  refine (parse16_calls hp he).mono ?_
  rintro e w1 ⟨hb, a, v, a0, a1, h, rfl⟩
  obtain ⟨m, rfl⟩ := Int.eq_ofNat_of_zero_le a0
  have h2 : Hid (∀ n, hexV p = some n → m = n) := hide (fun n hn => by have := h n hn; omega)
  clear h
  have mI : (m : Int) < 4294967296 := by omega
  go_wp2
  go_ret
  exact ⟨hb, m, by omega, h2.out, rfl⟩
end Go.Proofs.YtjmpldcnhjgpkaaGreatDoor
