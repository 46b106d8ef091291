/-
  RecoverJournal: the plain law.
-/
import Derived.Test.YtjmpldcnhjgpkaaGreatDoorLayIndexByte
import Derived.Test.YtjmpldcnhjgpkaaGreatDoorProg
import Derived.Lib.IndexMore
import Derived.Clock
import Derived.Shelf.LaysC
import Derived.Shelf.Strconv.ErrVarParseInt
import Derived.KernelRfl
import Derived.Lib.ParseIntBTie
import Derived.Lib.AtoiTie
namespace Go.Proofs.YtjmpldcnhjgpkaaGreatDoor
open Go.RowKit Mem Go.Shelf
set_option linter.unusedVariables false
set_option maxRecDepth 100000

def rword (x : ByteArray) : ByteArray := ⟨(Lib.cut x.data.toList [32]).1.toArray⟩
def rline (x : ByteArray) : ByteArray := ⟨(Lib.cut x.data.toList [32]).2.1.toArray⟩
def rhas (x : ByteArray) : Bool := (Lib.cut x.data.toList [32]).2.2
def rok (c : Nat) (x : ByteArray) : Bool := rhas x && decide (rword x = numS (chk c (rline x) : Nat))
/-- The lines of the longest journal, and its length. -/
def rres : Nat → List ByteArray → List ByteArray × Nat
  | _, [] => ([], 0)
  | c, x :: xs => if rok c x = true then (rline x :: (rres (chk c (rline x)) xs).1, x.size + 1 + (rres (chk c (rline x)) xs).2) else ([], 0)
theorem rres_yes {c : Nat} {x : ByteArray} {xs : List ByteArray} (h : rok c x = true) : rres c (x :: xs) = (rline x :: (rres (chk c (rline x)) xs).1, x.size + 1 + (rres (chk c (rline x)) xs).2) := by
  rw [rres, if_pos h]
theorem rres_no {c : Nat} {x : ByteArray} {xs : List ByteArray} (h : rok c x = false) : rres c (x :: xs) = ([], 0) := by
  rw [rres, if_neg (by rw [h]; decide)]
/-- The lines of a text, each ended by a newline. -/
def linesL (s : ByteArray) : List ByteArray := (splitS s 10).dropLast
theorem splitS_ne (s : ByteArray) (m : UInt8) : splitS s m ≠ [] := by
  have : (splitS s m).length = Lib.countB s (markB m) + 1 := Lib.splitB_all (markB m) (Nat.le_refl 1) 0 _ s rfl
  intro h; rw [h] at this; simp at this
theorem linesL_miss {s : ByteArray} (h : ∀ i : Nat, s.data.toList[i]? ≠ some 10) : linesL s = [] := by unfold linesL; rw [splitS_miss h]; rfl
theorem linesL_hit {s : ByteArray} {j : Nat} (h : s.data.toList[j]? = some 10) (hn : ∀ i : Nat, i < j → s.data.toList[i]? ≠ some 10) :
    linesL s = s.extract 0 j :: linesL (s.extract (j + 1) s.size) := by
  unfold linesL
  rw [splitS_hit h hn, List.dropLast_cons_of_ne_nil (splitS_ne _ _)]
theorem indexByte_cases (c : UInt8) : ∀ l : List UInt8, (Lib.indexByte l c = -1 ∧ ∀ i : Nat, l[i]? ≠ some c) ∨ ∃ j : Nat, Lib.indexByte l c = (j : Int) ∧ l[j]? = some c ∧ ∀ i : Nat, i < j → l[i]? ≠ some c
  | [] => .inl ⟨rfl, by simp⟩
  | b :: l => by
    by_cases hb : b = c
    · subst hb
      exact .inr ⟨0, by rw [Lib.indexByte]; simp, rfl, fun i hi => absurd hi (by omega)⟩
    · have e : Lib.indexByte (b :: l) c = if Lib.indexByte l c == -1 then -1 else Lib.indexByte l c + 1 := by
        rw [Lib.indexByte, if_neg (by simpa using hb)]
      rcases indexByte_cases c l with ⟨h1, h2⟩ | ⟨j, h1, h2, h3⟩
      · left
        refine ⟨by first | (rw [e, h1]; done) | (rw [e, h1]; rfl), fun i => ?_⟩
        cases i with
        | zero => simpa using hb
        | succ i => simpa using h2 i
      · right
        refine ⟨j + 1, by rw [e, h1, if_neg (by simp; try omega)]; rfl, by simpa using h2, fun i hi => ?_⟩
        cases i with
        | zero => simpa using hb
        | succ i => simpa using h3 i (by omega)
theorem indexByte_calls {s : ByteArray} {w : World} : Calls Tryz.prog 224 #[.string s, .int .u8 10] w fun e w' => e = .returned (.int .i64 (Lib.indexByte s.data.toList 10)) ∧ w' = w :=
  Any.strings_IndexByte laysIndexByte s 10 w
theorem cut_calls {s : ByteArray} {b : Int} {w : World} (hs : s.size < 4294967281) (hm : w.cell? ⟨renCutF.g 1, 0, none⟩ = some (.int .i64 b)) :
    Calls Tryz.prog 176 #[.string s, .string ⟨#[32]⟩] w fun e w' => e = .returned (.tuple #[.string (rword s), .string (rline s), .bool (rhas s)]) ∧ ∃ n, w' = w.drewN n :=
  Any.strings_Cut { laysCutF with } s ⟨#[32]⟩ b w hs hm
theorem rline_size (x : ByteArray) : (rline x).size ≤ x.size := by
  show (Lib.cut x.data.toList [32]).2.1.toArray.size ≤ x.size
  rw [List.size_toArray]
  have hl : x.data.toList.length = x.size := Array.length_toList
  unfold Lib.cut
  split
  · simp; try omega
  · simp
theorem cut_hit {x : ByteArray} {j : Nat} (h : x.data.toList[j]? = some 32) (hn : ∀ i : Nat, i < j → x.data.toList[i]? ≠ some 32) : rhas x = true ∧ rword x = x.extract 0 j ∧ rline x = x.extract (j + 1) x.size := by
  have hi := index_hit _ _ h hn
  have hc : Lib.cut x.data.toList [32] = (x.data.toList.take j, x.data.toList.drop (j + 1), true) := by
    unfold Lib.cut
    rw [hi, if_pos (by omega)]; rfl
  have hl : x.data.toList.length = x.size := Array.length_toList
  have hj : j < x.size := by rw [← hl]; exact (List.getElem?_eq_some_iff.1 h).1
  refine ⟨by unfold rhas; rw [hc], ?_, ?_⟩
  · apply ba_ext
    unfold rword; rw [hc, Lib.extract_data]
    simp
  · apply ba_ext
    unfold rline; rw [hc, Lib.extract_data]
    simp only [List.take_of_length_le (show (x.data.toList.drop (j + 1)).length ≤ x.size - (j + 1) by simp; try omega)]
theorem cut_miss {x : ByteArray} (h : ∀ i : Nat, x.data.toList[i]? ≠ some 32) : rhas x = false := by
  unfold rhas Lib.cut
  rw [index_miss _ h]; rfl
end Go.Proofs.YtjmpldcnhjgpkaaGreatDoor

/-
  RecoverJournal: the program's walk.
-/
namespace Go.Proofs.YtjmpldcnhjgpkaaGreatDoor
open Go.RowKit Mem Go.Shelf
set_option linter.unusedVariables false
set_option maxRecDepth 100000

theorem linesL_size (s : ByteArray) : (linesL s).length ≤ s.size := by
  have : (splitS s 10).length = Lib.countB s (markB 10) + 1 := Lib.splitB_all (markB 10) (Nat.le_refl 1) 0 _ s rfl
  have h2 := Lib.countB_le (markB 10) (Nat.le_refl 1) s.size s (Nat.le_refl _)
  unfold linesL
  rw [List.length_dropLast]
  omega
theorem rres_len (c : Nat) (xs : List ByteArray) : (rres c xs).1.length ≤ xs.length := by
  induction xs generalizing c with
  | nil => simp [rres]
  | cons x xs ih =>
    rw [rres]
    split
    · have := ih (chk c (rline x)); simp; omega
    · simp
theorem ext_all (t : ByteArray) : t.extract 0 t.size = t := by
  apply ba_ext; rw [Lib.extract_data]
  have hl : t.data.toList.length = t.size := Array.length_toList
  rw [List.drop_zero, List.take_of_length_le (by omega)]
theorem index_calls {s : ByteArray} {w : World} {r : Int} (h : Lib.indexByte s.data.toList 10 = r) : Calls Tryz.prog 224 #[.string s, .int .u8 10] w fun e w' => e = .returned (.int .i64 r) ∧ w' = w := by
  subst h; exact indexByte_calls
theorem str_eq (a b : ByteArray) : (a.toList == b.toList) = decide (a = b) := by
  by_cases h : a = b
  · subst h; simp
  · rw [decide_eq_false h]
    simp only [Lib.toList_data, beq_eq_false_iff_ne]
    exact fun e => h (ba_ext e)
theorem str_ne (a b : ByteArray) : (!a.toList == b.toList) = !decide (a = b) := by rw [str_eq]
end Go.Proofs.YtjmpldcnhjgpkaaGreatDoor

/-
  A structure of the shelf, laid at this program: LaysC.n174.
-/
namespace Go.Proofs.YtjmpldcnhjgpkaaGreatDoor
open Go Go.Proofs Go.Shelf
set_option maxRecDepth 100000

def renParseInt : Go.Shelf.Ren :=
{
  f := fun x ↦
    match x with
    | 174 => 179
    | 247 => 202
    | 245 => 203
    | 287 => 212
    | 279 => 213
    | 280 => 214
    | 281 => 215
    | 282 => 216
    | 321 => 219
    | 322 => 220
    | 316 => 221
    | 171 => 223
    | 205 => 222
    | 243 => 226
    | 246 => 77
    | 283 => 112
    | 284 => 113
    | 285 => 114
    | 286 => 115
    | 129 => 133
    | 317 => 132
    | 318 => 134
    | 319 => 135
    | 320 => 136
    | 337 => 167
    | 338 => 168
    | n => n,
  t := fun x ↦
    match x with
    | 9 => 9
    | 3 => 3
    | 2 => 2
    | 75 => 86
    | 85 => 228
    | 4 => 4
    | 167 => 253
    | 5 => 5
    | 53 => 115
    | 175 => 243
    | 46 => 139
    | 168 => 254
    | 37 => 22
    | 0 => 0
    | 210 => 262
    | 21 => 21
    | 127 => 133
    | 145 => 267
    | 143 => 265
    | 171 => 160
    | 173 => 163
    | 212 => 183
    | 51 => 154
    | 20 => 20
    | 213 => 184
    | 232 => 233
    | 233 => 234
    | 80 => 90
    | n => n,
  g := fun x ↦
    match x with
    | 15 => 7
    | 16 => 8
    | 17 => 1
    | 18 => 3
    | 19 => 4
    | n => n }
theorem laysParseInt : Go.Proofs.LaysC.n174 Tryz.prog renParseInt :=
{ mixed := Eq.refl Bool.true,
  f129 :=
    Eq.trans Tryz.func133
      (congrArg Option.some (Eq.refl (Go.Proofs.Body.n129 renParseInt))),
  f171 :=
    Eq.trans Tryz.func223
      (congrArg Option.some (Eq.refl (Go.Proofs.Body.n171 renParseInt))),
  f174 :=
    Eq.trans Tryz.func179
      (congrArg Option.some (Eq.refl (Go.Proofs.Body.n174 renParseInt))),
  f205 :=
    Eq.trans Tryz.func222
      (congrArg Option.some (Eq.refl (Go.Proofs.Body.n205 renParseInt))),
  f243 :=
    Eq.trans Tryz.func226
      (congrArg Option.some (Eq.refl (Go.Proofs.Body.n243 renParseInt))),
  f245 :=
    Eq.trans Tryz.func203
      (congrArg Option.some (Eq.refl (Go.Proofs.Body.n245 renParseInt))),
  f246 :=
    Eq.trans Tryz.func77
      (congrArg Option.some (Eq.refl (Go.Proofs.Body.n246 renParseInt))),
  f247 :=
    Eq.trans Tryz.func202
      (congrArg Option.some (Eq.refl (Go.Proofs.Body.n247 renParseInt))),
  f279 :=
    Eq.trans Tryz.func213
      (congrArg Option.some (Eq.refl (Go.Proofs.Body.n279 renParseInt))),
  f280 :=
    Eq.trans Tryz.func214
      (congrArg Option.some (Eq.refl (Go.Proofs.Body.n280 renParseInt))),
  f281 :=
    Eq.trans Tryz.func215
      (congrArg Option.some (Eq.refl (Go.Proofs.Body.n281 renParseInt))),
  f282 :=
    Eq.trans Tryz.func216
      (congrArg Option.some (Eq.refl (Go.Proofs.Body.n282 renParseInt))),
  f283 :=
    Eq.trans Tryz.func112
      (congrArg Option.some (Eq.refl (Go.Proofs.Body.n283 renParseInt))),
  f284 :=
    Eq.trans Tryz.func113
      (congrArg Option.some (Eq.refl (Go.Proofs.Body.n284 renParseInt))),
  f285 :=
    Eq.trans Tryz.func114
      (congrArg Option.some (Eq.refl (Go.Proofs.Body.n285 renParseInt))),
  f286 :=
    Eq.trans Tryz.func115
      (congrArg Option.some (Eq.refl (Go.Proofs.Body.n286 renParseInt))),
  f287 :=
    Eq.trans Tryz.func212
      (congrArg Option.some (Eq.refl (Go.Proofs.Body.n287 renParseInt))),
  f316 :=
    Eq.trans Tryz.func221
      (congrArg Option.some (Eq.refl (Go.Proofs.Body.n316 renParseInt))),
  f317 :=
    Eq.trans Tryz.func132
      (congrArg Option.some (Eq.refl (Go.Proofs.Body.n317 renParseInt))),
  f318 :=
    Eq.trans Tryz.func134
      (congrArg Option.some (Eq.refl (Go.Proofs.Body.n318 renParseInt))),
  f319 :=
    Eq.trans Tryz.func135
      (congrArg Option.some (Eq.refl (Go.Proofs.Body.n319 renParseInt))),
  f320 :=
    Eq.trans Tryz.func136
      (congrArg Option.some (Eq.refl (Go.Proofs.Body.n320 renParseInt))),
  f321 :=
    Eq.trans Tryz.func219
      (congrArg Option.some (Eq.refl (Go.Proofs.Body.n321 renParseInt))),
  f322 :=
    Eq.trans Tryz.func220
      (congrArg Option.some (Eq.refl (Go.Proofs.Body.n322 renParseInt))),
  f337 :=
    Eq.trans Tryz.func167
      (congrArg Option.some (Eq.refl (Go.Proofs.Body.n337 renParseInt))),
  f338 :=
    Eq.trans Tryz.func168
      (congrArg Option.some (Eq.refl (Go.Proofs.Body.n338 renParseInt))),
  t0 := Tryz.underlying0, a0 := Tryz.isAgg0, z0 := Tryz.sizeOf0,
  v0 := Tryz.zeroValue0, t2 := Tryz.underlying2, a2 := Tryz.isAgg2,
  z2 := Tryz.sizeOf2, v2 := Tryz.zeroValue2, t3 := Tryz.underlying3,
  a3 := Tryz.isAgg3, z3 := Tryz.sizeOf3, v3 := Tryz.zeroValue3,
  t4 := Tryz.underlying4, a4 := Tryz.isAgg4, z4 := Tryz.sizeOf4,
  v4 := Tryz.zeroValue4, t5 := Tryz.underlying5, a5 := Tryz.isAgg5,
  z5 := Tryz.sizeOf5, v5 := Tryz.zeroValue5, t9 := Tryz.underlying9,
  a9 := Tryz.isAgg9, z9 := Tryz.sizeOf9, v9 := Tryz.zeroValue9,
  t20 := Tryz.underlying20, a20 := Tryz.isAgg20, z20 := Tryz.sizeOf20,
  v20 := Tryz.zeroValue20, t21 := Tryz.underlying21, a21 := Tryz.isAgg21,
  z21 := Tryz.sizeOf21, v21 := Tryz.zeroValue21, t37 := Tryz.underlying22,
  a37 := Tryz.isAgg22, z37 := Tryz.sizeOf22, v37 := Tryz.zeroValue22,
  t46 := Tryz.underlying139, a46 := Tryz.isAgg139, z46 := Tryz.sizeOf139,
  v46 := Tryz.zeroValue139, t51 := Tryz.underlying154, a51 := Tryz.isAgg154,
  z51 := Tryz.sizeOf154, v51 := Tryz.zeroValue154, t53 := Tryz.underlying115,
  a53 := Tryz.isAgg115, z53 := Tryz.sizeOf115, v53 := Tryz.zeroValue115,
  t75 := Tryz.underlying86, a75 := Tryz.isAgg86, z75 := Tryz.sizeOf86,
  v75 := Tryz.zeroValue86, t85 := Tryz.underlying228, a85 := Tryz.isAgg228,
  z85 := Tryz.sizeOf228, v85 := Tryz.zeroValue228, t127 := Tryz.underlying133,
  a127 := Tryz.isAgg133, z127 := Tryz.sizeOf133, v127 := Tryz.zeroValue133,
  t143 := Tryz.underlying265, a143 := Tryz.isAgg265, z143 := Tryz.sizeOf265,
  v143 := Tryz.zeroValue265, t145 := Tryz.underlying267, a145 := Tryz.isAgg267,
  z145 := Tryz.sizeOf267, v145 := Tryz.zeroValue267, t167 := Tryz.underlying253,
  a167 := Tryz.isAgg253, z167 := Tryz.sizeOf253, v167 := Tryz.zeroValue253,
  t168 := Tryz.underlying254, a168 := Tryz.isAgg254, z168 := Tryz.sizeOf254,
  v168 := Tryz.zeroValue254, t171 := Tryz.underlying160, a171 := Tryz.isAgg160,
  z171 := Tryz.sizeOf160, v171 := Tryz.zeroValue160, t173 := Tryz.underlying163,
  a173 := Tryz.isAgg163, z173 := Tryz.sizeOf163, v173 := Tryz.zeroValue163,
  t175 := Tryz.underlying243, a175 := Tryz.isAgg243, z175 := Tryz.sizeOf243,
  v175 := Tryz.zeroValue243, t210 := Tryz.underlying262, a210 := Tryz.isAgg262,
  z210 := Tryz.sizeOf262, v210 := Tryz.zeroValue262, t212 := Tryz.underlying183,
  a212 := Tryz.isAgg183, z212 := Tryz.sizeOf183, v212 := Tryz.zeroValue183,
  t213 := Tryz.underlying184, a213 := Tryz.isAgg184, z213 := Tryz.sizeOf184,
  t232 := Tryz.underlying233, a232 := Tryz.isAgg233, z232 := Tryz.sizeOf233,
  v232 := Tryz.zeroValue233, t233 := Tryz.underlying234, a233 := Tryz.isAgg234,
  z233 := Tryz.sizeOf234, v233 := Tryz.zeroValue234,
  g15 := by kernel_rfl,
  g16 := by kernel_rfl,
  g17 := by kernel_rfl,
  g18 := by kernel_rfl,
  g19 := by kernel_rfl, t80 := Tryz.underlying90,
  a80 := Tryz.isAgg90, z80 := Tryz.sizeOf90, v80 := Tryz.zeroValue90,
  i0 := Eq.refl (Option.some (Option.some (Go.Value.tuple #[]), 1, 0)),
  i2 := Eq.refl (Option.some (Option.some (Go.Value.int Go.IntKind.i64 0), 1, 8)),
  i3 := Eq.refl (Option.some (Option.some (Go.Value.int Go.IntKind.i64 0), 1, 8)),
  i4 := Eq.refl (Option.some (Option.some (Go.Value.bool Bool.false), 1, 1)),
  i5 := Eq.refl (Option.some (Option.some (Go.Value.int Go.IntKind.u8 0), 1, 1)),
  i9 := Eq.refl (Option.some (Option.some (Go.Value.string { data := #[] }), 1, 16)),
  i20 := Eq.refl (Option.some (Option.some Go.Value.nilIface, 1, 16)),
  i21 := Eq.refl (Option.some (Option.some (Go.Value.int Go.IntKind.i32 0), 1, 4)),
  i37 := Eq.refl (Option.some (Option.some (Go.Value.slice Option.none 0 0), 1, 24)),
  i46 := Eq.refl (Option.some (Option.some (Go.Value.int Go.IntKind.u64 0), 1, 8)),
  i51 := Eq.refl (Option.some (Option.some (Go.Value.int Go.IntKind.u32 0), 1, 4)),
  i53 := Eq.refl (Option.some (Option.some (Go.Value.int Go.IntKind.u64 0), 1, 8)),
  i75 := Eq.refl (Option.some (Option.some Go.Value.nilIface, 1, 16)),
  i80 := Eq.refl (Option.some (Option.some Go.Value.nilFunc, 1, 8)),
  i85 := Eq.refl (Option.some (Option.some (Go.Value.tuple #[Go.Value.int Go.IntKind.i64 0, Go.Value.nilIface]), 1, 0)),
  i127 := Eq.refl (Option.some (Option.some (Go.Value.pointer Option.none), 1, 8)),
  i143 := Eq.refl (Option.some (Option.some (Go.Value.pointer Option.none), 1, 8)),
  i145 := Eq.refl (Option.some (Option.some (Go.Value.agg #[Go.Value.string { data := #[] }]), 1, 16)),
  i167 := Eq.refl (Option.some (Option.some (Go.Value.int Go.IntKind.i64 0), 1, 8)),
  i168 := Eq.refl (Option.some (Option.some (Go.Value.pointer Option.none), 1, 8)),
  i171 :=
    Eq.refl
      (Option.some
        (Option.some
            (Go.Value.agg
              #[Go.Value.int Go.IntKind.u8 0, Go.Value.int Go.IntKind.u8 0, Go.Value.int Go.IntKind.u8 0,
                Go.Value.int Go.IntKind.u8 0, Go.Value.int Go.IntKind.u8 0, Go.Value.int Go.IntKind.u8 0,
                Go.Value.int Go.IntKind.u8 0, Go.Value.int Go.IntKind.u8 0, Go.Value.int Go.IntKind.u8 0,
                Go.Value.int Go.IntKind.u8 0, Go.Value.int Go.IntKind.u8 0, Go.Value.int Go.IntKind.u8 0,
                Go.Value.int Go.IntKind.u8 0, Go.Value.int Go.IntKind.u8 0, Go.Value.int Go.IntKind.u8 0,
                Go.Value.int Go.IntKind.u8 0, Go.Value.int Go.IntKind.u8 0, Go.Value.int Go.IntKind.u8 0,
                Go.Value.int Go.IntKind.u8 0, Go.Value.int Go.IntKind.u8 0, Go.Value.int Go.IntKind.u8 0,
                Go.Value.int Go.IntKind.u8 0, Go.Value.int Go.IntKind.u8 0, Go.Value.int Go.IntKind.u8 0]),
          24, 24)),
  i173 :=
    Eq.refl
      (Option.some
        (Option.some (Go.Value.tuple #[Go.Value.slice Option.none 0 0, Go.Value.string { data := #[] }]), 1, 0)),
  i175 :=
    Eq.refl (Option.some (Option.some (Go.Value.tuple #[Go.Value.int Go.IntKind.u64 0, Go.Value.nilIface]), 1, 0)),
  i210 :=
    Eq.refl
      (Option.some
        (Option.some
            (Go.Value.agg #[Go.Value.string { data := #[] }, Go.Value.string { data := #[] }, Go.Value.nilIface]),
          3, 48)),
  i212 :=
    Eq.refl
      (Option.some
        (Option.some
            (Go.Value.agg
              #[Go.Value.int Go.IntKind.u64 0, Go.Value.int Go.IntKind.u64 0, Go.Value.int Go.IntKind.u64 0,
                Go.Value.int Go.IntKind.u64 0, Go.Value.int Go.IntKind.u64 0, Go.Value.int Go.IntKind.u64 0,
                Go.Value.int Go.IntKind.u64 0, Go.Value.int Go.IntKind.u64 0, Go.Value.int Go.IntKind.u64 0,
                Go.Value.int Go.IntKind.u64 0, Go.Value.int Go.IntKind.u64 0, Go.Value.int Go.IntKind.u64 0,
                Go.Value.int Go.IntKind.u64 0, Go.Value.int Go.IntKind.u64 0, Go.Value.int Go.IntKind.u64 0,
                Go.Value.int Go.IntKind.u64 0, Go.Value.int Go.IntKind.u64 0, Go.Value.int Go.IntKind.u64 0,
                Go.Value.int Go.IntKind.u64 0, Go.Value.int Go.IntKind.u64 0]),
          20, 160)),
  i232 :=
    Eq.refl
      (Option.some
        (Option.some
            (Go.Value.agg
              #[Go.Value.int Go.IntKind.u8 0, Go.Value.int Go.IntKind.u8 0, Go.Value.int Go.IntKind.u8 0,
                Go.Value.int Go.IntKind.u8 0, Go.Value.int Go.IntKind.u8 0, Go.Value.int Go.IntKind.u8 0,
                Go.Value.int Go.IntKind.u8 0, Go.Value.int Go.IntKind.u8 0, Go.Value.int Go.IntKind.u8 0,
                Go.Value.int Go.IntKind.u8 0, Go.Value.int Go.IntKind.u8 0, Go.Value.int Go.IntKind.u8 0,
                Go.Value.int Go.IntKind.u8 0, Go.Value.int Go.IntKind.u8 0, Go.Value.int Go.IntKind.u8 0,
                Go.Value.int Go.IntKind.u8 0, Go.Value.int Go.IntKind.u8 0, Go.Value.int Go.IntKind.u8 0,
                Go.Value.int Go.IntKind.u8 0, Go.Value.int Go.IntKind.u8 0, Go.Value.int Go.IntKind.u8 0,
                Go.Value.int Go.IntKind.u8 0, Go.Value.int Go.IntKind.u8 0, Go.Value.int Go.IntKind.u8 0,
                Go.Value.int Go.IntKind.u8 0, Go.Value.int Go.IntKind.u8 0, Go.Value.int Go.IntKind.u8 0,
                Go.Value.int Go.IntKind.u8 0, Go.Value.int Go.IntKind.u8 0, Go.Value.int Go.IntKind.u8 0,
                Go.Value.int Go.IntKind.u8 0, Go.Value.int Go.IntKind.u8 0]),
          32, 32)),
  i233 :=
    Eq.refl
      (Option.some
        (Option.some
            (Go.Value.agg
              (let y :=
                  let y :=
                    let y :=
                      let y :=
                        [Go.Value.int Go.IntKind.u8 0, Go.Value.int Go.IntKind.u8 0, Go.Value.int Go.IntKind.u8 0,
                          Go.Value.int Go.IntKind.u8 0];
                      Go.Value.int Go.IntKind.u8 0 ::
                        Go.Value.int Go.IntKind.u8 0 ::
                          Go.Value.int Go.IntKind.u8 0 :: Go.Value.int Go.IntKind.u8 0 :: y;
                    let y :=
                      Go.Value.int Go.IntKind.u8 0 ::
                        Go.Value.int Go.IntKind.u8 0 ::
                          Go.Value.int Go.IntKind.u8 0 :: Go.Value.int Go.IntKind.u8 0 :: y;
                    Go.Value.int Go.IntKind.u8 0 ::
                      Go.Value.int Go.IntKind.u8 0 :: Go.Value.int Go.IntKind.u8 0 :: Go.Value.int Go.IntKind.u8 0 :: y;
                  let y :=
                    let y :=
                      Go.Value.int Go.IntKind.u8 0 ::
                        Go.Value.int Go.IntKind.u8 0 ::
                          Go.Value.int Go.IntKind.u8 0 :: Go.Value.int Go.IntKind.u8 0 :: y;
                    Go.Value.int Go.IntKind.u8 0 ::
                      Go.Value.int Go.IntKind.u8 0 :: Go.Value.int Go.IntKind.u8 0 :: Go.Value.int Go.IntKind.u8 0 :: y;
                  let y :=
                    Go.Value.int Go.IntKind.u8 0 ::
                      Go.Value.int Go.IntKind.u8 0 :: Go.Value.int Go.IntKind.u8 0 :: Go.Value.int Go.IntKind.u8 0 :: y;
                  Go.Value.int Go.IntKind.u8 0 ::
                    Go.Value.int Go.IntKind.u8 0 :: Go.Value.int Go.IntKind.u8 0 :: Go.Value.int Go.IntKind.u8 0 :: y;
                let y :=
                  let y :=
                    let y :=
                      Go.Value.int Go.IntKind.u8 0 ::
                        Go.Value.int Go.IntKind.u8 0 ::
                          Go.Value.int Go.IntKind.u8 0 :: Go.Value.int Go.IntKind.u8 0 :: y;
                    Go.Value.int Go.IntKind.u8 0 ::
                      Go.Value.int Go.IntKind.u8 0 :: Go.Value.int Go.IntKind.u8 0 :: Go.Value.int Go.IntKind.u8 0 :: y;
                  let y :=
                    Go.Value.int Go.IntKind.u8 0 ::
                      Go.Value.int Go.IntKind.u8 0 :: Go.Value.int Go.IntKind.u8 0 :: Go.Value.int Go.IntKind.u8 0 :: y;
                  Go.Value.int Go.IntKind.u8 0 ::
                    Go.Value.int Go.IntKind.u8 0 :: Go.Value.int Go.IntKind.u8 0 :: Go.Value.int Go.IntKind.u8 0 :: y;
                let y :=
                  let y :=
                    Go.Value.int Go.IntKind.u8 0 ::
                      Go.Value.int Go.IntKind.u8 0 :: Go.Value.int Go.IntKind.u8 0 :: Go.Value.int Go.IntKind.u8 0 :: y;
                  Go.Value.int Go.IntKind.u8 0 ::
                    Go.Value.int Go.IntKind.u8 0 :: Go.Value.int Go.IntKind.u8 0 :: Go.Value.int Go.IntKind.u8 0 :: y;
                let y :=
                  Go.Value.int Go.IntKind.u8 0 ::
                    Go.Value.int Go.IntKind.u8 0 :: Go.Value.int Go.IntKind.u8 0 :: Go.Value.int Go.IntKind.u8 0 :: y;
                Go.Value.int Go.IntKind.u8 0 ::
                  Go.Value.int Go.IntKind.u8 0 ::
                    Go.Value.int Go.IntKind.u8 0 :: Go.Value.int Go.IntKind.u8 0 :: y).toArray),
          64, 64)),
  m15 := by kernel_rfl,
  m16 := by kernel_rfl,
  m17 := by kernel_rfl,
  m18 := by kernel_rfl,
  m19 := by kernel_rfl, c0 := Eq.refl (Option.some Bool.false),
  c2 := Eq.refl (Option.some Bool.true), c3 := Eq.refl (Option.some Bool.true), c4 := Eq.refl (Option.some Bool.true),
  c5 := Eq.refl (Option.some Bool.true), c9 := Eq.refl (Option.some Bool.true), c20 := Eq.refl (Option.some Bool.true),
  c21 := Eq.refl (Option.some Bool.true), c37 := Eq.refl (Option.some Bool.false),
  c46 := Eq.refl (Option.some Bool.true), c51 := Eq.refl (Option.some Bool.true),
  c53 := Eq.refl (Option.some Bool.true), c75 := Eq.refl (Option.some Bool.true),
  c80 := Eq.refl (Option.some Bool.false), c85 := Eq.refl (Option.some Bool.false),
  c127 := Eq.refl (Option.some Bool.true), c143 := Eq.refl (Option.some Bool.true),
  c145 := Eq.refl (Option.some Bool.true), c167 := Eq.refl (Option.some Bool.true),
  c168 := Eq.refl (Option.some Bool.true), c171 := Eq.refl (Option.some Bool.true),
  c173 := Eq.refl (Option.some Bool.false), c175 := Eq.refl (Option.some Bool.false),
  c210 := Eq.refl (Option.some Bool.true), c212 := Eq.refl (Option.some Bool.true),
  c213 := Eq.refl (Option.some Bool.true), c232 := Eq.refl (Option.some Bool.true),
  c233 := Eq.refl (Option.some Bool.true) }
end Go.Proofs.YtjmpldcnhjgpkaaGreatDoor

/-
  Decimal texts are read: the plain law, and both sides' ReadDecimal.
-/
namespace Go.Proofs.YtjmpldcnhjgpkaaGreatDoor
open Go.RowKit Mem Go.Shelf
set_option linter.unusedVariables false
set_option maxRecDepth 100000

theorem dig_of (k : Nat) (h : k < 10) : (UInt8.ofNat (48 + k)).toNat = 48 + k := by simp [UInt8.toNat_ofNat']; omega
theorem digitVal_of (k : Nat) (h : k < 10) : Lib.digitVal (UInt8.ofNat (48 + k)) = some k := by
  unfold Lib.digitVal
  rw [dig_of k h, if_pos (by omega)]; congr 1; omega
theorem decFrom_digits (u : Nat) : Lib.decFrom 0 (Lib.decDigits u) = some u := by
  induction u using Nat.strongRecOn with
  | _ u ih =>
    by_cases h : u < 10
    · rw [Lib.decDigits_one h]
      have := digitVal_of u h
      simp only [Lib.decFrom, this]; congr 1; omega
    · rw [decDigits_split u h]
      have h1 := ih (u / 10) (by omega)
      have h2 := digitVal_of (u % 10) (by omega)
      have := Lib.decFrom_take (Lib.decDigits (u / 10) ++ [UInt8.ofNat (48 + u % 10)]) (Lib.decDigits (u / 10)).length 0 (u / 10) (UInt8.ofNat (48 + u % 10)) (u % 10) (by simpa using h1) (by simp) h2
      rw [List.take_of_length_le (by simp)] at this
      rw [this]; congr 1; omega
theorem dec_head (u : Nat) : ∀ b ∈ Lib.decDigits u, 48 ≤ b.toNat ∧ b.toNat ≤ 57 := by
  induction u using Nat.strongRecOn with
  | _ u ih =>
    intro b hb
    by_cases h : u < 10
    · rw [Lib.decDigits_one h] at hb
      rw [List.mem_singleton] at hb; subst hb
      rw [dig_of u h]; omega
    · rw [decDigits_split u h] at hb
      rcases List.mem_append.1 hb with hb | hb
      · exact ih (u / 10) (by omega) b hb
      · rw [List.mem_singleton] at hb; subst hb
        rw [dig_of _ (by omega)]; omega
theorem nDig_le {u k : Nat} (h : u < 10 ^ (k + 1)) : Lib.nDigits u ≤ k + 1 := by
  induction k generalizing u with
  | zero => rw [Lib.nDigits_small (by simpa using h)]; omega
  | succ k ih =>
    by_cases hs : u < 10
    · rw [Lib.nDigits_small hs]; omega
    · rw [Lib.nDigits_big hs]
      have := ih (u := u / 10) (by rw [Nat.pow_succ] at h; omega)
      omega
theorem atoi_itoa (n : Int) : Lib.atoi (Lib.itoa n) = some n := by
  rw [itoa_of]
  have hd := decFrom_digits n.natAbs
  have hn := dec_pos n.natAbs
  have hdn : Lib.decNat (Lib.decDigits n.natAbs) = some n.natAbs := by
    unfold Lib.decNat; rw [if_neg (by simpa using hn), hd]
  split
  · rename_i h
    simp [Lib.atoi, hdn]; omega
  · rename_i h
    obtain ⟨b, r, hbr⟩ : ∃ b r, Lib.decDigits n.natAbs = b :: r := by
      cases hc : Lib.decDigits n.natAbs with
      | nil => exact absurd hc hn
      | cons b r => exact ⟨b, r, rfl⟩
    have hb := dec_head n.natAbs b (by rw [hbr]; simp)
    rw [hbr] at hdn ⊢
    have e3 : b ≠ 43 := by rintro rfl; exact absurd hb.1 (by decide)
    have e4 : b ≠ 45 := by rintro rfl; exact absurd hb.1 (by decide)
    simp [Lib.atoi, hdn, e3, e4]; omega
theorem itoa_len {n : Int} (h : n.natAbs ≤ 1000000000000000) : 1 ≤ (Lib.itoa n).length ∧ (Lib.itoa n).length ≤ 17 := by
  have h1 := nDig_le (u := n.natAbs) (k := 15) (by omega)
  have h2 := Lib.nDigits_pos n.natAbs
  rw [itoa_of]
  split <;> simp only [List.length_cons, Lib.decDigits_length] <;> omega
theorem parse_itoa {n : Int} (h : n.natAbs ≤ 1000000000000000) : Lib.parseIntB 64 (Lib.itoa n) = .ok n := by
  rw [Lib.parseIntB_64, Lib.atoiAll_short _ (by have := itoa_len h; omega), atoi_itoa]; rfl
def digN (acc : Nat) (l : List UInt8) : Nat := l.foldl (fun a b => if 48 ≤ b.toNat ∧ b.toNat ≤ 57 then 10 * a + (b.toNat - 48) else a) acc
theorem digN_of : ∀ (l : List UInt8) (acc n : Nat), Lib.decFrom acc l = some n → digN acc l = n
  | [], acc, n, h => by simp [Lib.decFrom] at h; exact h
  | b :: l, acc, n, h => by
    simp only [Lib.decFrom] at h
    unfold digN
    rw [List.foldl_cons]
    unfold Lib.digitVal at h
    split at h
    · rename_i hx; split at hx
      · rename_i d hd
        injection hx with hx
        have := digN_of l _ n h
        rw [if_pos hd]
        unfold digN at this
        rw [← this, ← hx]; congr 1; omega
      · cases hx
    · cases h
theorem digN_lt : ∀ (l : List UInt8) (acc : Nat), digN acc l < (acc + 1) * 10 ^ l.length
  | [], acc => by simp [digN]
  | b :: l, acc => by
    unfold digN
    rw [List.foldl_cons, List.length_cons, Nat.pow_succ]
    have ih := digN_lt l
    unfold digN at ih
    split
    · have := ih (10 * acc + (b.toNat - 48))
      have h2 : (10 * acc + (b.toNat - 48) + 1) * 10 ^ l.length ≤ ((acc + 1) * 10) * 10 ^ l.length := Nat.mul_le_mul_right _ (by omega)
      rw [show (acc + 1) * (10 ^ l.length * 10) = ((acc + 1) * 10) * 10 ^ l.length by rw [Nat.mul_assoc, Nat.mul_comm 10]]
      omega
    · have := ih acc
      have h2 : (acc + 1) * 10 ^ l.length ≤ (acc + 1) * (10 ^ l.length * 10) := Nat.mul_le_mul_left _ (by omega)
      omega
def sgnV (s : ByteArray) : Int := if s.data.toList.head? = some 45 then -(digN 0 s.data.toList : Int) else (digN 0 s.data.toList : Int)
theorem sgn_itoa (n : Int) : sgnV (numS n) = n := by
  have hd := digN_of _ _ _ (decFrom_digits n.natAbs)
  have e : (numS n).data.toList = Lib.itoa n := rfl
  unfold sgnV
  rw [e, itoa_of]
  by_cases h : n < 0
  · rw [if_pos h]
    have : digN 0 (45 :: Lib.decDigits n.natAbs) = n.natAbs := by
      unfold digN; rw [List.foldl_cons]; unfold digN at hd; exact hd
    rw [this]; simp; omega
  · rw [if_neg h, hd]
    have : (Lib.decDigits n.natAbs).head? ≠ some 45 := by
      intro hh
      have hm := List.mem_of_mem_head? (by rw [hh]; rfl)
      have := dec_head n.natAbs 45 hm
      simp at this
    rw [if_neg this]; omega
/-- The number with a decimal text, if there is one. -/
def valV (s : ByteArray) : Option Int := if (sgnV s).natAbs ≤ 1000000000000000 ∧ numS (sgnV s) = s then some (sgnV s) else none
theorem valV_iff {s : ByteArray} {n : Int} : valV s = some n ↔ n.natAbs ≤ 1000000000000000 ∧ numS n = s := by
  unfold valV
  constructor
  · intro h
    split at h
    · rename_i hh; injection h with h; subst h; exact hh
    · cases h
  · rintro ⟨h1, rfl⟩
    rw [sgn_itoa, if_pos ⟨h1, rfl⟩]

theorem valV_len {s : ByteArray} {n : Int} (h : valV s = some n) : 1 ≤ s.size ∧ s.size ≤ 17 := by
  obtain ⟨h1, rfl⟩ := valV_iff.1 h
  have := itoa_len h1
  show 1 ≤ (Lib.itoa n).toArray.size ∧ (Lib.itoa n).toArray.size ≤ 17
  rw [List.size_toArray]; exact this
theorem valV_no {s : ByteArray} (h : ∀ n : Int, n.natAbs ≤ 1000000000000000 → numS n ≠ s) : valV s = none := by
  cases hv : valV s with
  | none => rfl
  | some n => obtain ⟨h1, h2⟩ := valV_iff.1 hv; exact absurd h2 (h n h1)
/-- What a number's text is read as. -/
def rdV (s : ByteArray) : Value := .tuple #[.int .i64 ((valV s).getD 0), .bool (valV s).isSome]
theorem rdV_some {s : ByteArray} {n : Int} (h : valV s = some n) : rdV s = .tuple #[.int .i64 n, .bool true] := by unfold rdV; rw [h]; rfl
theorem rdV_none {s : ByteArray} (h : valV s = none) : rdV s = .tuple #[.int .i64 0, .bool false] := by unfold rdV; rw [h]; rfl

/-- The library's two errors lie in their variables. -/
def Errs (w : World) : Prop := (∃ te pe, w.cell? ⟨7, 0, none⟩ = some (.iface te pe)) ∧ (∃ te pe, w.cell? ⟨8, 0, none⟩ = some (.iface te pe))
theorem Errs.below {w w' : World} (h : Errs w) (hb : Below w.heap.size w w') : Errs w' := by
  obtain ⟨⟨a, b, h1⟩, c, d, h2⟩ := h
  exact ⟨⟨a, b, (hb.cell (p := ⟨7, 0, none⟩) (Go.Clock.block_lt h1)).trans h1⟩, c, d, (hb.cell (p := ⟨8, 0, none⟩) (Go.Clock.block_lt h2)).trans h2⟩
theorem below_bytes {w w' : World} {e : TypeId} (h : w' = w ∨ ∃ t, w' = Lib.bytesWorld w e t) : Below w.heap.size w w' := by
  rcases h with rfl | ⟨t, rfl⟩
  · exact Below.refl _ _
  · exact Lib.bytesWorld_below _ _ _
/-- How the program's parse ends. -/
theorem parse_calls {s : ByteArray} {w : World} (hs : s.size ≤ 1048576) (he : Errs w) :
    Calls Tryz.prog 179 #[.string s, .int .i64 10, .int .i64 64] w fun e w' => Below w.heap.size w w' ∧
      ((∃ v, Lib.parseIntB 64 s.data.toList = .ok v ∧ e = .returned (.tuple #[.int .i64 v, .nilIface])) ∨
       (∃ v te pe, (∀ n, Lib.parseIntB 64 s.data.toList ≠ .ok n) ∧ e = .returned (.tuple #[.int .i64 v, .iface te pe]))) := by
  obtain ⟨⟨a, b, h1⟩, c, d, h2⟩ := he
  cases h : Lib.parseIntB 64 s.data.toList with
  | ok v =>
    refine (Any.strconv_ParseInt_10_at64_ok laysParseInt s (by omega) v h w).mono ?_
    rintro e w' ⟨rfl, hb⟩
    exact ⟨below_bytes hb, .inl ⟨v, rfl, rfl⟩⟩
  | «syntax» =>
    refine (Any.strconv_ParseInt_10_at64_syntax laysParseInt s (by omega) h _ w h1 (Or.inr ⟨_, _, rfl⟩)).mono ?_
    rintro e w' ⟨N, rfl, _, _, hb⟩
    exact ⟨hb, .inr ⟨_, _, _, (fun n hn => by cases hn), rfl⟩⟩
  | range =>
    refine (Any.strconv_ParseInt_10_at64_range laysParseInt s (by omega) h _ w h2 (Or.inr ⟨_, _, rfl⟩)).mono ?_
    rintro e w' ⟨N, rfl, _, _, hb⟩
    exact ⟨hb, .inr ⟨_, _, _, (fun n hn => by cases hn), rfl⟩⟩
theorem i_isValue {n : Int} {w : World} : Calls Tryz.prog 92 #[.int .i64 n] w fun e w' => e = .returned (.bool (inB n (-1000000000000000) 1000000000000000)) ∧ w' = w := by
  go_enter Tryz.func92, Tryz.ntmps92
  go_wp2_with fail
  refine (i_within _ _ _ _).mono ?_
  rintro e w' ⟨rfl, rfl⟩
  go_wp2
  go_ret
  exact ⟨rfl, rfl⟩
set_option maxHeartbeats 1000000 in
theorem i_ReadDecimal {s : ByteArray} {w : World} (hs : s.size ≤ 1048576) (he : Errs w) (htab : Lib.TabIs Tryz.prog w "internal/strconv.uint64pow10" .u64 Lib.pow10Tab) :
    Calls Tryz.prog 150 #[.string s] w fun e w' => e = .returned (rdV s) ∧ Below w.heap.size w w' := by
  go_enter Tryz.func150, Tryz.ntmps150
  go_wp2_with fail
  refine (parse_calls hs he).mono ?_
  rintro e w1 ⟨hb1, ⟨v, hv, rfl⟩ | ⟨v, te, pe, hv, rfl⟩⟩
  · have hbd := Lib.parseIntB_bounds hv
    have hvb : -9223372036854775808 ≤ v ∧ v ≤ 9223372036854775807 := by have := hbd.1; have := hbd.2; simp at *; omega
    clear hbd
    cases hin : inB v (-1000000000000000) 1000000000000000 with
    | false =>
      have HR := hide (rdV_none (s := s) (valV_no (fun n hn hns => by
        subst hns
        have h1 := parse_itoa hn
        rw [show (numS n).data.toList = Lib.itoa n from rfl, h1] at hv
        injection hv with hv; subst hv
        unfold inB at hin; simp at hin; omega)))
      clear hv
      go_wp2_with fail
      refine i_isValue.mono ?_
      rintro e w2 ⟨rfl, rfl⟩
      rw [hin]
      go_wp2
      go_ret2
      exact ⟨by rw [HR.out]; rfl, hb1⟩
    | true =>
      have hva : v.natAbs ≤ 1000000000000000 := by unfold inB at hin; simp at hin; omega
      go_wp2_with fail
      refine i_isValue.mono ?_
      rintro e w2 ⟨rfl, rfl⟩
      rw [hin]
      go_wp2_with fail
      refine (i_DecimalA hvb.1 hvb.2 (pow_kept htab hb1)).mono ?_
      rintro e w3 ⟨rfl, hb3⟩
      replace hb1 := hb1.trans (hb3.mono hb1.size)
      clear hb3
      by_cases hq : numS v = s
      · have HR := hide (rdV_some (valV_iff.2 ⟨hva, hq⟩))
        have hs1 : (!(numS v).toList == s.toList) = false := by rw [str_ne, decide_eq_true hq]; rfl
        clear hv hq
        go_wp2
        go_ret2
        exact ⟨by rw [HR.out]; rfl, hb1⟩
      · have HR := hide (rdV_none (s := s) (valV_no (fun n hn hns => by
          subst hns
          have h1 := parse_itoa hn
          rw [show (numS n).data.toList = Lib.itoa n from rfl, h1] at hv
          injection hv with hv; subst hv
          exact hq rfl)))
        have hs1 : (!(numS v).toList == s.toList) = true := by rw [str_ne, decide_eq_false hq]; rfl
        clear hv hq
        go_wp2
        go_ret2
        exact ⟨by rw [HR.out]; rfl, hb1⟩
  · have HR := hide (rdV_none (s := s) (valV_no (fun n hn hns => by
      subst hns
      exact hv n (parse_itoa hn))))
    clear hv
    go_wp2
    go_ret2
    exact ⟨by rw [HR.out]; rfl, hb1⟩
end Go.Proofs.YtjmpldcnhjgpkaaGreatDoor
