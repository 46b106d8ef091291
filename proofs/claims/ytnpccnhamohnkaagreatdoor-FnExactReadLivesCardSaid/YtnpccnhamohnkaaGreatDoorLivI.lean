/-
  A structure of the shelf, laid at this program: Lays.n160.
-/
import Derived.Shelf.Lays
import Derived.Shelf.Strings.SlTrimAscii
import Derived.KernelRfl
import Derived.Test.YtnpccnhamohnkaaGreatDoorProg
import Derived.Test.YtnpccnhamohnkaaGreatDoorReadCI
import Derived.Test.YtnpccnhamohnkaaGreatDoorCopy
namespace Go.Proofs.YtnpccnhamohnkaaGreatDoor
open Go Go.Proofs Go.Shelf
set_option maxRecDepth 100000

def renTrim : Go.Shelf.Ren :=
{
  f := fun x ↦
    match x with
    | 160 => 56
    | 232 => 114
    | 231 => 113
    | 227 => 115
    | 234 => 117
    | 233 => 116
    | 236 => 119
    | 235 => 118
    | 228 => 175
    | 271 => 178
    | 151 => 177
    | 197 => 176
    | 120 => 216
    | 152 => 215
    | 260 => 214
    | 137 => 162
    | 119 => 255
    | 224 => 211
    | 225 => 210
    | 217 => 205
    | 266 => 247
    | n => n,
  t := fun x ↦
    match x with
    | 9 => 9
    | 4 => 4
    | 3 => 3
    | 5 => 5
    | 117 => 158
    | 116 => 157
    | 0 => 0
    | 124 => 161
    | 21 => 21
    | 105 => 212
    | 46 => 184
    | 119 => 275
    | 139 => 278
    | 138 => 277
    | n => n,
  g := fun x ↦
    match x with
    | 3 => 3
    | 4 => 4
    | n => n }
theorem laysTrim : Go.Proofs.Lays.n160 Tryz.prog renTrim :=
{ mixed := Eq.refl Bool.true,
  f119 :=
    Eq.trans Tryz.func255 (congrArg Option.some (Eq.refl (Go.Proofs.Body.n119 renTrim))),
  f120 :=
    Eq.trans Tryz.func216 (congrArg Option.some (Eq.refl (Go.Proofs.Body.n120 renTrim))),
  f137 :=
    Eq.trans Tryz.func162 (congrArg Option.some (Eq.refl (Go.Proofs.Body.n137 renTrim))),
  f151 :=
    Eq.trans Tryz.func177 (congrArg Option.some (Eq.refl (Go.Proofs.Body.n151 renTrim))),
  f152 :=
    Eq.trans Tryz.func215 (congrArg Option.some (Eq.refl (Go.Proofs.Body.n152 renTrim))),
  f160 :=
    Eq.trans Tryz.func56 (congrArg Option.some (Eq.refl (Go.Proofs.Body.n160 renTrim))),
  f197 :=
    Eq.trans Tryz.func176 (congrArg Option.some (Eq.refl (Go.Proofs.Body.n197 renTrim))),
  f217 :=
    Eq.trans Tryz.func205 (congrArg Option.some (Eq.refl (Go.Proofs.Body.n217 renTrim))),
  f224 :=
    Eq.trans Tryz.func211 (congrArg Option.some (Eq.refl (Go.Proofs.Body.n224 renTrim))),
  f225 :=
    Eq.trans Tryz.func210 (congrArg Option.some (Eq.refl (Go.Proofs.Body.n225 renTrim))),
  f227 :=
    Eq.trans Tryz.func115 (congrArg Option.some (Eq.refl (Go.Proofs.Body.n227 renTrim))),
  f228 :=
    Eq.trans Tryz.func175 (congrArg Option.some (Eq.refl (Go.Proofs.Body.n228 renTrim))),
  f231 :=
    Eq.trans Tryz.func113 (congrArg Option.some (Eq.refl (Go.Proofs.Body.n231 renTrim))),
  f232 :=
    Eq.trans Tryz.func114 (congrArg Option.some (Eq.refl (Go.Proofs.Body.n232 renTrim))),
  f233 :=
    Eq.trans Tryz.func116 (congrArg Option.some (Eq.refl (Go.Proofs.Body.n233 renTrim))),
  f234 :=
    Eq.trans Tryz.func117 (congrArg Option.some (Eq.refl (Go.Proofs.Body.n234 renTrim))),
  f235 :=
    Eq.trans Tryz.func118 (congrArg Option.some (Eq.refl (Go.Proofs.Body.n235 renTrim))),
  f236 :=
    Eq.trans Tryz.func119 (congrArg Option.some (Eq.refl (Go.Proofs.Body.n236 renTrim))),
  f260 :=
    Eq.trans Tryz.func214 (congrArg Option.some (Eq.refl (Go.Proofs.Body.n260 renTrim))),
  f266 :=
    Eq.trans Tryz.func247 (congrArg Option.some (Eq.refl (Go.Proofs.Body.n266 renTrim))),
  f271 :=
    Eq.trans Tryz.func178 (congrArg Option.some (Eq.refl (Go.Proofs.Body.n271 renTrim))),
  t0 := Tryz.underlying0, a0 := Tryz.isAgg0, z0 := Tryz.sizeOf0,
  v0 := Tryz.zeroValue0, t3 := Tryz.underlying3, a3 := Tryz.isAgg3,
  z3 := Tryz.sizeOf3, v3 := Tryz.zeroValue3, t4 := Tryz.underlying4,
  a4 := Tryz.isAgg4, z4 := Tryz.sizeOf4, v4 := Tryz.zeroValue4,
  t5 := Tryz.underlying5, a5 := Tryz.isAgg5, z5 := Tryz.sizeOf5,
  v5 := Tryz.zeroValue5, t9 := Tryz.underlying9, a9 := Tryz.isAgg9,
  z9 := Tryz.sizeOf9, v9 := Tryz.zeroValue9, t21 := Tryz.underlying21,
  a21 := Tryz.isAgg21, z21 := Tryz.sizeOf21, v21 := Tryz.zeroValue21,
  t46 := Tryz.underlying184, a46 := Tryz.isAgg184, z46 := Tryz.sizeOf184,
  v46 := Tryz.zeroValue184, t105 := Tryz.underlying212, a105 := Tryz.isAgg212,
  z105 := Tryz.sizeOf212, v105 := Tryz.zeroValue212, t116 := Tryz.underlying157,
  a116 := Tryz.isAgg157, z116 := Tryz.sizeOf157, t117 := Tryz.underlying158,
  a117 := Tryz.isAgg158, z117 := Tryz.sizeOf158, v117 := Tryz.zeroValue158,
  t119 := Tryz.underlying275, a119 := Tryz.isAgg275, z119 := Tryz.sizeOf275,
  t124 := Tryz.underlying161, a124 := Tryz.isAgg161, z124 := Tryz.sizeOf161,
  v124 := Tryz.zeroValue161, t138 := Tryz.underlying277, a138 := Tryz.isAgg277,
  z138 := Tryz.sizeOf277, v138 := Tryz.zeroValue277, t139 := Tryz.underlying278,
  a139 := Tryz.isAgg278, z139 := Tryz.sizeOf278, v139 := Tryz.zeroValue278,
  g3 := by kernel_rfl,
  g4 := by kernel_rfl }
end Go.Proofs.YtnpccnhamohnkaaGreatDoor

/-
  The plain law of texts of lives that are read; the program's library call that trims.
-/
namespace Go.Proofs.YtnpccnhamohnkaaGreatDoor
open Go.RowKit Mem Fl Go.Shelf
set_option linter.unusedVariables false
set_option maxRecDepth 100000

/-- Is a byte one that tells an end. -/
def isFl (b : UInt8) : Bool := b == 102 || b == 108
def lifesOf (xs : List Nat) (bs : List UInt8) : List (Nat × Bool) := List.zipWith (fun x b => (x, b == 102)) xs bs
theorem lifesOf_len {xs : List Nat} {bs : List UInt8} (h : bs.length = xs.length) : (lifesOf xs bs).length = xs.length := by
  unfold lifesOf; rw [List.length_zipWith]; omega
/-- The lives with two parts of a text. -/
def livesMk (A B : ByteArray) : Option (List (Nat × Bool)) := (numsV A).bind fun xs =>
  if B.size = xs.length ∧ B.data.toList.all isFl = true ∧ livesOk (lifesOf xs B.data.toList) = true then some (lifesOf xs B.data.toList) else none
/-- The lives with a text. -/
def livesV (t : ByteArray) : Option (List (Nat × Bool)) :=
  match splitS t 59 with
  | [A, B] => livesMk A B
  | _ => none
theorem livesV_two {t A B : ByteArray} (h : splitS t 59 = [A, B]) : livesV t = livesMk A B := by
  unfold livesV; rw [h]
theorem livesV_len {t : ByteArray} (h : (splitS t 59).length ≠ 2) : livesV t = none := by
  unfold livesV
  split
  · rename_i h2; rw [h2] at h; simp at h
  · rfl
theorem livesMk_none {A B : ByteArray} (h : numsV A = none) : livesMk A B = none := by unfold livesMk; rw [h]; rfl
theorem livesMk_size {A B : ByteArray} {xs : List Nat} (h : numsV A = some xs) (hl : B.size ≠ xs.length) : livesMk A B = none := by
  unfold livesMk; rw [h, Option.bind_some, if_neg (fun h => hl h.1)]
theorem livesMk_bad {A B : ByteArray} (h : B.data.toList.all isFl = false) : livesMk A B = none := by
  unfold livesMk
  cases numsV A with
  | none => rfl
  | some xs => rw [Option.bind_some, if_neg (fun h' => by rw [h] at h'; cases h'.2.1)]
theorem livesMk_some {A B : ByteArray} {xs : List Nat} (h : numsV A = some xs) (hl : B.size = xs.length) (hf : B.data.toList.all isFl = true) : livesMk A B = if livesOk (lifesOf xs B.data.toList) = true then some (lifesOf xs B.data.toList) else none := by
  unfold livesMk; rw [h, Option.bind_some]
  by_cases ho : livesOk (lifesOf xs B.data.toList) = true
  · rw [if_pos ⟨hl, hf, ho⟩, if_pos ho]
  · rw [if_neg (fun h => ho h.2.2), if_neg ho]
theorem all_fl_plain {s : ByteArray} (h : s.data.toList.all isFl = true) : splitS s 59 = [s] := splitS_miss (fun i hi => by
  have := List.all_eq_true.1 h 59 (List.mem_of_getElem? hi)
  exact absurd this (by decide))
/-- So does the program see it. -/
theorem livesV_cut (t : ByteArray) : livesV t = if cutF 59 t = true then livesMk (cutA 59 t) (cutB 59 t) else none := by
  rcases cut_split 59 t with ⟨h1, h2⟩ | ⟨h1, h2⟩
  · rw [h1]; exact livesV_len (by rw [h2]; simp)
  · rw [h1, if_pos rfl]
    cases hB : (cutB 59 t).data.toList.all isFl with
    | true => exact livesV_two (by rw [h2, all_fl_plain hB])
    | false =>
      rw [livesMk_bad hB]
      by_cases hl : (splitS t 59).length = 2
      · rw [h2] at hl
        have hl2 : (splitS (cutB 59 t) 59).length = 1 := by simpa using hl
        rcases cut_split 59 (cutB 59 t) with ⟨_, h4⟩ | ⟨_, h4⟩
        · rw [livesV_two (by rw [h2, h4])]; exact livesMk_bad hB
        · rw [h4] at hl2
          have := splitS_pos (cutB 59 (cutB 59 t)) 59
          rw [List.length_cons] at hl2; omega
      · exact livesV_len hl

/-- What is left when all bytes that tell an end are trimmed. -/
def trimFl (s : ByteArray) : ByteArray := ⟨(Lib.trimS s.data.toList [102, 108]).toArray⟩
theorem fl_contains (b : UInt8) : ([102, 108] : List UInt8).contains b = isFl b := by
  unfold isFl
  simp only [List.contains, List.elem]
  cases h1 : (b == 102) <;> cases h2 : (b == 108) <;> rfl
theorem dropWhile_nil {p : UInt8 → Bool} : ∀ l : List UInt8, l.dropWhile p = [] ↔ l.all p = true
  | [] => by simp
  | a :: l => by
    cases h : p a with
    | true => rw [List.dropWhile_cons_of_pos h, dropWhile_nil l, List.all_cons, h, Bool.true_and]
    | false => rw [List.dropWhile_cons_of_neg (by rw [h]; simp), List.all_cons, h, Bool.false_and]; simp
theorem dropWhile_all {p : UInt8 → Bool} : ∀ l : List UInt8, (l.dropWhile p).all p = true → l.all p = true
  | [], _ => rfl
  | a :: l, h => by
    cases hp : p a with
    | true => rw [List.dropWhile_cons_of_pos hp] at h; rw [List.all_cons, hp, Bool.true_and]; exact dropWhile_all l h
    | false => rw [List.dropWhile_cons_of_neg (by rw [hp]; simp)] at h; exact h
theorem trimS_nil (l : List UInt8) : Lib.trimS l [102, 108] = [] ↔ l.all isFl = true := by
  have hp : (fun b => ([102, 108] : List UInt8).contains b) = isFl := funext fl_contains
  unfold Lib.trimS Lib.trimLeftS Lib.trimRightS
  rw [hp, dropWhile_nil, List.all_reverse]
  constructor
  · intro h
    have := dropWhile_all _ h
    rwa [List.all_reverse] at this
  · intro h
    have h2 : l.reverse.dropWhile isFl = [] := (dropWhile_nil _).2 (by rw [List.all_reverse]; exact h)
    rw [h2]; rfl
theorem trimFl_list (s : ByteArray) : ((trimFl s).toList == []) = s.data.toList.all isFl := by
  have e : (trimFl s).toList = Lib.trimS s.data.toList [102, 108] := by
    rw [Lib.toList_data]; rfl
  rw [e]
  cases h : s.data.toList.all isFl with
  | true => rw [(trimS_nil _).2 h]; rfl
  | false =>
    cases h2 : Lib.trimS s.data.toList [102, 108] with
    | nil => rw [(trimS_nil _).1 h2] at h; cases h
    | cons a l => rfl
theorem trim_calls {s : ByteArray} {w : World} (hs : s.size ≤ 1048576) :
    Calls Tryz.prog 56 #[.string s, .string ⟨#[102, 108]⟩] w fun e w' => e = .returned (.string (trimFl s)) ∧ Below w.heap.size w w' :=
  Any.strings_Trim_laid laysTrim (by kernel_rfl) s ⟨#[102, 108]⟩ w (by omega) (by decide) (ascii_of_all (by decide))
end Go.Proofs.YtnpccnhamohnkaaGreatDoor

/-
  ReadLives: the program's walk.
-/
namespace Go.Proofs.YtnpccnhamohnkaaGreatDoor
open Go.RowKit Mem Fl Go.Shelf
set_option linter.unusedVariables false
set_option maxRecDepth 100000

theorem lifes_succ {xs : List Nat} {bs : List UInt8} {k x : Nat} {b : UInt8} (hx : xs[k]? = some x) (hb : bs[k]? = some b) : (lifesOf xs bs).take (k + 1) = (lifesOf xs bs).take k ++ [(x, b == 102)] := by
  have h : (lifesOf xs bs)[k]? = some (x, b == 102) := by
    unfold lifesOf
    rw [List.getElem?_zipWith, hx, hb]
  rw [List.take_add_one, h]; rfl
theorem ll_snoc (p : Nat × Bool) : ∀ l : List (Nat × Bool), ll (l ++ [p]) = ll l ++ [.float .f32 p.1, .bool p.2]
  | [] => rfl
  | q :: l => by simp only [List.cons_append, ll, ll_snoc p l]
theorem cell_two_new (w : World) (x y : Value) (t : TypeId) : ∀ j u, [x, y][j]? = some u → (w.alloc (.cells #[x, y] t)).cell? ((⟨w.heap.size, 0, none⟩ : Addr).add j) = some u := by
  intro j u hj
  have := (Blk.new w t #[x, y]).cell j
  rw [Addr.add_lit, Nat.zero_add, this]
  simpa using hj
/-- 'append(out, u)' of one two-celled element onto a row of the call's own. -/
theorem wpList_append2 {P : Program} {w0 w : World} {ops : Array Oper} {rest : List Oper} {o : Oper} {a : Act} {Q : Exit → Act → World → Prop} (hgd : o.guard = none) (s x : Operand) (t : TypeId)
    (ho : o.op = .call { callee := .builtin .append, args := #[s, x], argTypes := #[t, t] })
    (base : Nat) (e : TypeId) (z u1 u2 : Value) (by_ : Nat) (hI : (P.info? e).map (fun i => (i.zero, i.size, i.bytes)) = some (some z, 2, by_)) (ht : P.underlying t = some (.slice e)) (hz : z.cells.size = 2)
    (hw : w = w0.alloc (.cells #[u1, u2] e)) (v : Value) (n : Nat) (xs : List Value) (hs : a.eval s = v) (hown : w0.ownsRow base e 2 v n xs)
    (hx : a.eval x = .slice (some ⟨w0.heap.size, 0, none⟩) 1 1) (hu1 : u1.oneCell' = true) (hu2 : u2.oneCell' = true)
    (hn : n < 1099511627776) (hby : by_ ≤ 64) (hbase : base ≤ w0.heap.size)
    (h : ∀ v' w', w'.ownsRow base e 2 v' (n + 1) (xs ++ [u1, u2]) → Below base w0 w' → wpList P ops Q rest (a.put o.dst v') w') : wpList P ops Q (o :: rest) a w := by
  subst hw
  obtain ⟨i0, hi, hz0, hz1, hz2⟩ := info_parts hI
  refine wpList_append_own _ hgd s x t ho base e i0 z 2 by_ ht hi hz0 hz1 hz2 hz (by decide) v n xs hs (hown.alloc _) ⟨w0.heap.size, 0, none⟩ 1 1 [u1, u2] hx rfl (cell_two_new _ _ _ _) (by simp [hu1, hu2]) (by simp [maxLen]; omega) ?_ (by simp; omega) ?_
  · have : (n + 1) * by_ ≤ 1099511627776 * 64 := Nat.mul_le_mul (by omega) hby
    omega
  · intro v' w' h1 h2 _
    exact h v' w' h1 (((Below.refl _ _).alloc hbase _).grown h2 (by simp; omega) (fun g hg => (hown.lt g hg).1))
def lvL (o : Option (List (Nat × Bool))) : List (Nat × Bool) := o.getD []
/-- What lives that are read look like. -/
def LvR (base : Nat) (o : Option (List (Nat × Bool))) (e : Ending) (w' : World) : Prop := ∃ (A : Option Addr) (ln c : Nat), e = .returned (.tuple #[.slice A ln c, .bool o.isSome]) ∧ w'.ownsRow base 91 2 (.slice A ln c) ln (ll (lvL o)) ∧ ln = (lvL o).length
theorem LvR.no {base : Nat} {o : Option (List (Nat × Bool))} {w' : World} (h : o = none) : LvR base o (.returned (.tuple #[.slice none 0 0, .bool false])) w' := by
  subst h; exact ⟨_, _, _, rfl, own_nil _ _ _ _, rfl⟩
theorem LvR.yes {base : Nat} {o : Option (List (Nat × Bool))} {xs : List (Nat × Bool)} {A : Option Addr} {n c : Nat} {w' : World} (h : o = some xs) (hn : n = xs.length) (ho : w'.ownsRow base 91 2 (.slice A n c) n (ll xs)) : LvR base o (.returned (.tuple #[.slice A n c, .bool true])) w' := by
  subst h; exact ⟨_, _, _, rfl, ho, hn⟩
theorem nan_fl (b : UInt8) (h : isFl b = true) : b = 102 ∨ b = 108 := by
  unfold isFl at h
  simpa using h
theorem own_n {w : World} {base : Nat} {e : TypeId} {size n m c : Nat} {A : Option Addr} {xs : List Value} (h : w.ownsRow base e size (.slice A m c) n xs) : m = n := by
  obtain ⟨A', c', h⟩ := own_shape h
  injection h
set_option maxHeartbeats 1000000 in
theorem i_ReadLives_none {t : ByteArray} {bm bs : Int} {w : World} (hs : t.size ≤ 1048576) (hm : w.cell? ⟨renCutF.g 1, 0, none⟩ = some (.int .i64 bm)) (hm2 : w.cell? ⟨renSplit.g 1, 0, none⟩ = some (.int .i64 bs)) (he : Errs w)
    (ht : w.cell? ⟨8, 15, none⟩ = some (.int .u8 4)) (hno : cutF 59 t = false ∨ (cutF 59 t = true ∧ (numsV (cutA 59 t) = none ∨ ∃ xs, numsV (cutA 59 t) = some xs ∧ ((cutB 59 t).size ≠ xs.length ∨ ((cutB 59 t).size = xs.length ∧ (cutB 59 t).data.toList.all isFl = false))))) :
    Calls Tryz.prog 14 #[.string t] w fun e w' => LvR w.heap.size none e w' ∧ Below w.heap.size w w' := by
  have hlt := Go.Clock.block_lt ht
  have hltm := Go.Clock.block_lt hm2
  have hA := cutA_size 59 t
  have hB := cutB_size 59 t
  have HN : ∀ (W : World), Below w.heap.size w W → _ := fun W hb => i_ReadNumbers (s := cutA 59 t) (w := W) (by omega) ((hb.cell (p := ⟨renSplit.g 1, 0, none⟩) hltm).trans hm2) (he.below hb) ((hb.cell (p := ⟨8, 15, none⟩) hlt).trans ht)
  have HT : ∀ (W : World), _ := fun W => trim_calls (s := cutB 59 t) (w := W) (by omega)
  have HTl := trimFl_list (cutB 59 t)
  have HCut := hide (cutS_calls (s := t) (m := 59) (w := w) (by omega) hm)
  generalize trimFl (cutB 59 t) = R at *
  generalize cutA 59 t = A at *
  generalize hBB : cutB 59 t = B at *
  generalize cutF 59 t = F at *
  replace HN := hide HN
  replace HT := hide HT
  clear hm hm2 he ht hlt hltm hs
  go_enter Tryz.func14, Tryz.ntmps14
  go_wp2_with fail
  refine HCut.out.mono ?_
  rintro e w1 ⟨rfl, nq, rfl⟩
  have bel1 := below_drewN (Below.refl w.heap.size w) nq
  go_wp2_with fail
  refine (HN.out _ bel1).mono ?_
  rintro e w2 ⟨⟨v, rfl, hr⟩, hb2⟩
  have bel2 := bel1.trans (hb2.mono bel1.size)
  obtain ⟨vA, vn, vc, rfl⟩ := NR.sl hr
  clear hb2 HCut HN
  rcases hno with rfl | ⟨rfl, hno⟩
  · clear hr
    go_wp2
    go_ret2
    exact ⟨LvR.no rfl, bel2⟩
  · rcases hno with hn | ⟨xs, hn, hno⟩
    · rw [hn] at hr ⊢
      clear hr
      simp only [Option.isSome_none]
      go_wp2
      go_ret2
      exact ⟨LvR.no rfl, bel2⟩
    · rw [hn] at hr ⊢
      simp only [Option.isSome_some]
      obtain ⟨ho, hx⟩ := hr
      have hvn := own_n ho
      clear ho hx hn
      subst hvn
      rcases hno with hl | ⟨hl, hf⟩
      · have hlI : ((xs.length : Int) != (B.size : Int)) = true := by simp; omega
        go_wp2
        go_ret2
        exact ⟨LvR.no rfl, bel2⟩
      · have hlI : ((xs.length : Int) != (B.size : Int)) = false := by simp; omega
        have hR : (R.toList == []) = false := by rw [HTl, hf]
        clear HTl hf
        go_wp2_with fail
        refine (HT.out _).mono ?_
        rintro e w3 ⟨rfl, hb3⟩
        have bel3 := bel2.trans (hb3.mono bel2.size)
        go_wp2
        go_ret2
        exact ⟨LvR.no rfl, bel3⟩
/-- The byte at a place. -/
theorem byteAt {B : ByteArray} {k : Nat} (hk : k < B.size) : B.data.toList[k]? = some B[k] := by
  rw [List.getElem?_eq_getElem (show k < B.data.toList.length by simp only [Array.length_toList]; exact hk)]; rfl
set_option maxHeartbeats 2000000 in
theorem i_ReadLives_some {t : ByteArray} {bm bs : Int} {xs : List Nat} {w : World} (hs : t.size ≤ 1048576) (hm : w.cell? ⟨renCutF.g 1, 0, none⟩ = some (.int .i64 bm)) (hm2 : w.cell? ⟨renSplit.g 1, 0, none⟩ = some (.int .i64 bs)) (he : Errs w)
    (ht : w.cell? ⟨8, 15, none⟩ = some (.int .u8 4)) (hF : cutF 59 t = true) (hn : numsV (cutA 59 t) = some xs) (hl : (cutB 59 t).size = xs.length) (hf : (cutB 59 t).data.toList.all isFl = true) {o : Option (List (Nat × Bool))} (hO : Hid (o = if livesOk (lifesOf xs (cutB 59 t).data.toList) = true then some (lifesOf xs (cutB 59 t).data.toList) else none)) :
    Calls Tryz.prog 14 #[.string t] w fun e w' => LvR w.heap.size o e w' ∧ Below w.heap.size w w' := by
  have hmx := numsV_max hn
  have hlt := Go.Clock.block_lt ht
  have hltm := Go.Clock.block_lt hm2
  have hA := cutA_size 59 t
  have hB := cutB_size 59 t
  have HN : ∀ (W : World), Below w.heap.size w W → _ := fun W hb => i_ReadNumbers (s := cutA 59 t) (w := W) (by omega) ((hb.cell (p := ⟨renSplit.g 1, 0, none⟩) hltm).trans hm2) (he.below hb) ((hb.cell (p := ⟨8, 15, none⟩) hlt).trans ht)
  have HT : ∀ (W : World), _ := fun W => trim_calls (s := cutB 59 t) (w := W) (by omega)
  have HTl := trimFl_list (cutB 59 t)
  have HCut := hide (cutS_calls (s := t) (m := 59) (w := w) (by omega) hm)
  rw [hn] at HN
  rw [hF] at HCut
  generalize trimFl (cutB 59 t) = R at *
  generalize cutA 59 t = A at *
  generalize hBB : cutB 59 t = B at *
  replace HN := hide HN
  replace HT := hide HT
  clear hm hm2 he ht hlt hltm hs hn hBB hF hA hB
  have Hf := hide hf
  have hR : (R.toList == []) = true := by rw [HTl, hf]
  have Hbl : Hid (B.data.toList.length = xs.length) := hide (by rw [Array.length_toList]; exact hl)
  have Hlen : Hid ((lifesOf xs B.data.toList).length = xs.length) := hide (lifesOf_len Hbl.out)
  clear HTl hf
  generalize hLL : lifesOf xs B.data.toList = LL at *
  replace hLL := hide hLL
  go_enter Tryz.func14, Tryz.ntmps14
  go_wp2_with fail
  refine HCut.out.mono ?_
  rintro e w1 ⟨rfl, nq, rfl⟩
  have bel1 := below_drewN (Below.refl w.heap.size w) nq
  go_wp2_with fail
  refine (HN.out _ bel1).mono ?_
  rintro e w2 ⟨⟨v, rfl, hr⟩, hb2⟩
  simp only [Option.isSome_some]
  obtain ⟨ho, hx⟩ := hr
  have bel2 := bel1.trans (hb2.mono bel1.size)
  obtain ⟨vA, vc, rfl⟩ := own_shape ho
  clear hb2 HCut HN hx
  have hlI : ((xs.length : Int) != (B.size : Int)) = false := by simp; omega
  go_wp2_with fail
  refine (HT.out _).mono ?_
  rintro e w3 ⟨rfl, hb3⟩
  have HRd := hide ((Reads.of_own ho).below hb3)
  have hw23 := hb3.size
  have bel3 := bel2.trans (hb3.mono bel2.size)
  clear hb3 HT ho bel1 bel2
  generalize hn : xs.length = n at *
  replace hn := hide hn
  go_wp2
  go_loopw [9, 44] (fun v i wr => ∃ k : Nat, k ≤ n ∧ i = .int .i64 k ∧ Hid (wr.ownsRow w3.heap.size 91 2 v k (ll (LL.take k))) ∧ Below w3.heap.size w3 wr) (fun _ i _ => n - (intOf i).toNat)
  case atStart => exact ⟨0, Nat.zero_le _, rfl, hide (World.ownsRow_made _ _ _ (Nat.le_refl _) (by simp [maxLen]) (by simp)), (Below.refl _ _).alloc (Nat.le_refl _) _⟩
  case round =>
    obtain ⟨k, hk, rfl, hown, hbel⟩ := hrel
    by_cases hk2 : k < n
    · obtain ⟨ad, x, rfl, _, hx, hc⟩ := (HRd.out.below (hbel.mono hw23)).map_at hk2
      have hkb : k < B.size := by omega
      have hb := byteAt hkb
      obtain ⟨cb, hcb⟩ : ∃ cb, B[k] = cb := ⟨_, rfl⟩
      rw [hcb] at hb
      have HS := hide (lifes_succ hx hb)
      rw [hLL.out] at HS
      have hkI : (k : Int) < (n : Int) := by omega
      have hkbI : (k : Int) < (B.size : Int) := by omega
      have hfl := nan_fl cb (List.all_eq_true.1 Hf.out cb (List.mem_of_getElem? hb))
      have hsz := hbel.size
      have HO0 := hown.out
      clear hx hb hown
      rcases hfl with rfl | rfl
      all_goals
        go_wp2_with (at_builtin; refine wpList_append2 rfl (.tmp 49) (.tmp 56) 30 rfl w3.heap.size 91 (.agg #[.float .f32 0, .bool false]) _ _ 8 info_life Tryz.underlying30 rfl rfl _ _ _ rfl HO0 (by show Value.slice (some ⟨wr.heap.size, 0, none⟩) 1 1 = _; simp) rfl rfl (by omega) (by omega) hsz ?_)
        intro v' w' hown' hb'
        have hbel' := hbel.trans hb'
        have HO : Hid (w'.ownsRow w3.heap.size 91 2 v' (k + 1) (ll (LL.take (k + 1)))) := hide (by rw [HS.out, ll_snoc]; exact hown')
        clear hown' hb'
        go_wp2
        go_roundw
        case rel => exact ⟨k + 1, by omega, by go_num, HO, hbel'⟩
        case measure => (simp [intOf]; try omega)
    · obtain rfl : k = n := by omega
      have hkI : ¬ (k : Int) < (k : Int) := by omega
      have hown2 : wr.ownsRow w3.heap.size 91 2 u9 k (ll LL) := by
        have := hown.out
        rwa [List.take_of_length_le (by have := Hlen.out; omega)] at this
      obtain ⟨A2, c2, rfl⟩ := own_shape hown2
      clear hown
      go_wp2_with fail
      refine (i_AreLives (xs := LL) (B := wr.heap.size) (Reads.of_own hown2) (Nat.le_refl _) (by omega)).mono ?_
      rintro e w4 ⟨rfl, hb4⟩
      have HO := hide (own_base (own_below hown2 hb4) bel3.size)
      have bel4 := (bel3.trans (hbel.mono bel3.size)).trans (hb4.mono (Nat.le_trans bel3.size hbel.size))
      clear hown2 hb4
      cases hok : livesOk LL with
      | false =>
        have HN : Hid (o = none) := hide (by rw [hO.out, hok, if_neg (by simp)])
        go_wp2
        go_ret2
        exact ⟨LvR.no HN.out, bel4⟩
      | true =>
        have HN : Hid (o = some LL) := hide (by rw [hO.out, hok, if_pos rfl])
        go_wp2
        go_ret2
        exact ⟨LvR.yes HN.out Hlen.out.symm HO.out, bel4⟩
theorem i_ReadLives {t : ByteArray} {bm bs : Int} {w : World} (hs : t.size ≤ 1048576) (hm : w.cell? ⟨renCutF.g 1, 0, none⟩ = some (.int .i64 bm)) (hm2 : w.cell? ⟨renSplit.g 1, 0, none⟩ = some (.int .i64 bs)) (he : Errs w)
    (ht : w.cell? ⟨8, 15, none⟩ = some (.int .u8 4)) :
    Calls Tryz.prog 14 #[.string t] w fun e w' => LvR w.heap.size (livesV t) e w' ∧ Below w.heap.size w w' := by
  rw [livesV_cut]
  cases hF : cutF 59 t with
  | false => exact i_ReadLives_none hs hm hm2 he ht (.inl hF)
  | true =>
    rw [if_pos rfl]
    cases hn : numsV (cutA 59 t) with
    | none => rw [livesMk_none hn]; exact i_ReadLives_none hs hm hm2 he ht (.inr ⟨hF, .inl hn⟩)
    | some xs =>
      by_cases hl : (cutB 59 t).size = xs.length
      · cases hf : (cutB 59 t).data.toList.all isFl with
        | false => rw [livesMk_bad hf]; exact i_ReadLives_none hs hm hm2 he ht (.inr ⟨hF, .inr ⟨xs, hn, .inr ⟨hl, hf⟩⟩⟩)
        | true => exact i_ReadLives_some hs hm hm2 he ht hF hn hl hf (hide (livesMk_some hn hl hf))
      · rw [livesMk_size hn hl]; exact i_ReadLives_none hs hm hm2 he ht (.inr ⟨hF, .inr ⟨xs, hn, .inl hl⟩⟩)
end Go.Proofs.YtnpccnhamohnkaaGreatDoor
