/-
  ReadChain: the program's walk.
-/
import Derived.Test.YtjmpldcnhjgpkaaGreatDoorHeadI
import Derived.Test.YtjmpldcnhjgpkaaGreatDoorLfE
import Derived.Test.YtjmpldcnhjgpkaaGreatDoorProg
import Derived.Test.YtjmpldcnhjgpkaaGreatDoorPlanT
import Derived.Shelf.Lays
import Derived.Shelf.Strings.SlTrimAscii
import Derived.KernelRfl
namespace Go.Proofs.YtjmpldcnhjgpkaaGreatDoor
open Go.RowKit Mem Fl Go.Shelf
set_option linter.unusedVariables false
set_option maxRecDepth 100000

/-- The chain with a text. -/
def chainV (t : ByteArray) : Option (Int × List Nat) := (headV t).bind fun p => if chainOk p.1 p.2 = true then some p else none
theorem chainV_none {t : ByteArray} (h : headV t = none) : chainV t = none := by unfold chainV; rw [h]; rfl
theorem chainV_some {t : ByteArray} {n : Int} {xs : List Nat} (h : headV t = some (n, xs)) : chainV t = if chainOk n xs = true then some (n, xs) else none := by
  unfold chainV; rw [h]; rfl
theorem allN_len : ∀ (l : List ByteArray) (xs : List Nat), allN l = some xs → xs.length = l.length := by
  intro l
  induction l with
  | nil => intro xs h; simp only [allN, Option.some.injEq] at h; subst h; rfl
  | cons a l ih =>
    intro xs h
    simp only [allN] at h
    cases ha : readN a with
    | none => rw [ha] at h; cases h
    | some x =>
      rw [ha] at h
      cases hb : allN l with
      | none => rw [hb] at h; cases h
      | some ys => rw [hb] at h; simp at h; subst h; simp [ih ys hb]
theorem numsV_max {s : ByteArray} {xs : List Nat} (h : numsV s = some xs) : xs.length ≤ 256 := by
  unfold numsV at h
  split at h
  · cases h; simp
  · split at h
    · rw [allN_len _ _ h]; assumption
    · cases h
theorem headV_max {t : ByteArray} {n : Int} {xs : List Nat} (h : headV t = some (n, xs)) : xs.length ≤ 256 := by
  unfold headV at h
  split at h
  · next A B e =>
    cases ha : valV A with
    | none => rw [ha] at h; cases h
    | some m =>
      cases hb : numsV B with
      | none => rw [ha, hb] at h; cases h
      | some ys => rw [ha, hb] at h; simp at h; rw [← h.2]; exact numsV_max hb
  · cases h
def chN (o : Option (Int × List Nat)) : Int := (o.map (·.1)).getD 0
def chL (o : Option (Int × List Nat)) : List Nat := (o.map (·.2)).getD []
theorem chL_max (t : ByteArray) : (chL (chainV t)).length ≤ 256 := by
  cases h : headV t with
  | none => rw [chainV_none h]; simp [chL]
  | some p =>
    obtain ⟨n, xs⟩ := p
    rw [chainV_some h]
    split
    · exact headV_max h
    · simp [chL]
/-- What a chain that is read looks like. -/
def CRd (base : Nat) (o : Option (Int × List Nat)) (e : Ending) (w' : World) : Prop := ∃ (n : Int) (A : Option Addr) (ln c : Nat), e = .returned (.tuple #[.agg #[.int .i64 n, .slice A ln c], .bool o.isSome]) ∧ w'.ownsRow base 25 1 (.slice A ln c) ln (fl .f32 (chL o)) ∧ n = chN o ∧ ln = (chL o).length
theorem CRd.no {base : Nat} {o : Option (Int × List Nat)} {w' : World} (h : o = none) : CRd base o (.returned (.tuple #[.agg #[.int .i64 0, .slice none 0 0], .bool false])) w' := by
  subst h; exact ⟨_, _, _, _, rfl, own_nil _ _ _ _, rfl, rfl⟩
theorem CRd.yes {base : Nat} {o : Option (Int × List Nat)} {n : Int} {A : Option Addr} {c : Nat} {xs : List Nat} {w' : World} (h : o = some (n, xs)) (ho : w'.ownsRow base 25 1 (.slice A xs.length c) xs.length (fl .f32 xs)) : CRd base o (.returned (.tuple #[.agg #[.int .i64 n, .slice A xs.length c], .bool true])) w' := by
  subst h; exact ⟨_, _, _, _, rfl, ho, rfl, rfl⟩
abbrev rchA (n : Int) (v : Value) : Array Value := #[.int .i64 n, v]
abbrev ch0 : Array Value := #[.int .i64 0, .slice none 0 0]
set_option maxHeartbeats 1000000 in
theorem i_ReadChain_none {t : ByteArray} {bm bs : Int} {w : World} (hs : t.size ≤ 1048576) (hm : w.cell? ⟨renCutF.g 1, 0, none⟩ = some (.int .i64 bm)) (hm2 : w.cell? ⟨renSplit.g 1, 0, none⟩ = some (.int .i64 bs)) (he : Errs w)
    (htab : Lib.TabIs Tryz.prog w "internal/strconv.uint64pow10" .u64 Lib.pow10Tab) (ht : w.cell? ⟨4, 15, none⟩ = some (.int .u8 4)) (h : headV t = none) :
    Calls Tryz.prog 148 #[.string t] w fun e w' => CRd w.heap.size (chainV t) e w' ∧ Below w.heap.size w w' := by
  have HR := hide (chainV_none h)
  have b0 : Below w.heap.size w (w.alloc (.cells ch0 30)) := (Below.refl _ _).alloc (Nat.le_refl _) _
  have HH := hide (i_readHeaded (w := w.alloc (.cells ch0 30)) hs ((b0.cell (p := ⟨renCutF.g 1, 0, none⟩) (Go.Clock.block_lt hm)).trans hm) ((b0.cell (p := ⟨renSplit.g 1, 0, none⟩) (Go.Clock.block_lt hm2)).trans hm2) (he.below b0) (pow_kept htab b0) ((b0.cell (p := ⟨4, 15, none⟩) (Go.Clock.block_lt ht)).trans ht))
  rw [h] at HH
  clear b0 hm hm2 he htab ht
  go_enter Tryz.func148, Tryz.ntmps148
  go_wp2_with fail
  refine HH.out.mono ?_
  rintro e w1 ⟨⟨n, v, rfl, vA, vn, vc, rfl⟩, hb⟩
  simp only [Option.isSome_none]
  have blkB := (Blk.new w 30 ch0).below hb (by simp)
  have bel1 : Below w.heap.size w w1 := ((Below.refl _ _).alloc (Nat.le_refl _) _).trans (hb.mono (by simp))
  replace blkB := blkB.alloc (.cells (rchA n (.slice vA vn vc)) 30)
  replace bel1 := bel1.alloc bel1.size (.cells (rchA n (.slice vA vn vc)) 30)
  have d0 := blkB.cell 0
  have d1 := blkB.cell 1
  have f0 := blkB.frozen 0
  have f1 := blkB.frozen 1
  clear hb HH
  go_wp2
  refine bodyPost_ret (results_row_tmp (P := Tryz.prog) rfl _ _ w.heap.size 30 ch0 (0, 0) _ rfl ((blkB.set_ 0 _).set_ 1 _) Tryz.underlying30 rfl (by kernel_rfl)) rfl ?_
  exact ⟨CRd.no HR.out, (bel1.setCell (Nat.le_refl _) _).setCell (Nat.le_refl _) _⟩
set_option maxHeartbeats 1000000 in
theorem i_ReadChain_some {t : ByteArray} {n : Int} {xs : List Nat} {bm bs : Int} {w : World} (hs : t.size ≤ 1048576) (hm : w.cell? ⟨renCutF.g 1, 0, none⟩ = some (.int .i64 bm)) (hm2 : w.cell? ⟨renSplit.g 1, 0, none⟩ = some (.int .i64 bs)) (he : Errs w)
    (htab : Lib.TabIs Tryz.prog w "internal/strconv.uint64pow10" .u64 Lib.pow10Tab) (ht : w.cell? ⟨4, 15, none⟩ = some (.int .u8 4)) (h : headV t = some (n, xs)) :
    Calls Tryz.prog 148 #[.string t] w fun e w' => CRd w.heap.size (chainV t) e w' ∧ Below w.heap.size w w' := by
  have HR := hide (chainV_some h)
  have hmx := headV_max h
  have b0 : Below w.heap.size w (w.alloc (.cells ch0 30)) := (Below.refl _ _).alloc (Nat.le_refl _) _
  have HH := hide (i_readHeaded (w := w.alloc (.cells ch0 30)) hs ((b0.cell (p := ⟨renCutF.g 1, 0, none⟩) (Go.Clock.block_lt hm)).trans hm) ((b0.cell (p := ⟨renSplit.g 1, 0, none⟩) (Go.Clock.block_lt hm2)).trans hm2) (he.below b0) (pow_kept htab b0) ((b0.cell (p := ⟨4, 15, none⟩) (Go.Clock.block_lt ht)).trans ht))
  rw [h] at HH
  clear b0 hm hm2 he htab ht
  go_enter Tryz.func148, Tryz.ntmps148
  go_wp2_with fail
  refine HH.out.mono ?_
  rintro e w1 ⟨⟨n', v, rfl, rfl, ho, _⟩, hb⟩
  simp only [Option.isSome_some]
  obtain ⟨A, c, rfl⟩ := own_shape ho
  have blkB := (Blk.new w 30 ch0).below hb (by simp)
  have bel1 : Below w.heap.size w w1 := ((Below.refl _ _).alloc (Nat.le_refl _) _).trans (hb.mono (by simp))
  have hr := (Reads.of_own ho).alloc (Nat.le_refl _) (.cells (rchA n' (.slice A xs.length c)) 30)
  replace blkB := blkB.alloc (.cells (rchA n' (.slice A xs.length c)) 30)
  have blkC := Blk.new w1 30 (rchA n' (.slice A xs.length c))
  replace bel1 := bel1.alloc bel1.size (.cells (rchA n' (.slice A xs.length c)) 30)
  have ho1 := ho.alloc (.cells (rchA n' (.slice A xs.length c)) 30)
  clear hb HH ho
  go_wp2_with fail
  refine (i_ValidChain hr (by simp) (by omega)).mono ?_
  rintro e w2 ⟨rfl, hb2⟩
  have hwl := bel1.size
  replace bel1 := bel1.trans (hb2.mono bel1.size)
  replace ho1 := own_below ho1 hb2
  replace blkC := blkC.below hb2 blkC.lt
  have blkB := blkB.below hb2 blkB.lt
  have e0 := blkC.cell 0
  have e1 := blkC.cell 1
  have d0 := blkB.cell 0
  have d1 := blkB.cell 1
  have f0 := blkB.frozen 0
  have f1 := blkB.frozen 1
  clear hb2 hr blkC
  cases hc : chainOk n' xs with
  | false =>
    rw [hc] at HR
    go_wp2
    refine bodyPost_ret (results_row_tmp (P := Tryz.prog) rfl _ _ w.heap.size 30 ch0 (0, 0) _ rfl ((blkB.set_ 0 _).set_ 1 _) Tryz.underlying30 rfl (by kernel_rfl)) rfl ?_
    exact ⟨CRd.no HR.out, (bel1.setCell (Nat.le_refl _) _).setCell (Nat.le_refl _) _⟩
  | true =>
    rw [hc] at HR
    go_wp2
    refine bodyPost_ret (results_row_tmp (P := Tryz.prog) rfl _ _ w.heap.size 30 (rchA n' (.slice A xs.length c)) (0, 0) _ rfl ((blkB.set_ 0 _).set_ 1 _) Tryz.underlying30 rfl (by kernel_rfl)) rfl ?_
    exact ⟨CRd.yes HR.out (own_base (ownsRow_setCell_below (ownsRow_setCell_below ho1 (a := ⟨w.heap.size, 0, none⟩) (by simp) _) (a := ⟨w.heap.size, 1, none⟩) (by simp) _) (by simp)), (bel1.setCell (Nat.le_refl _) _).setCell (Nat.le_refl _) _⟩
end Go.Proofs.YtjmpldcnhjgpkaaGreatDoor

/-
  A structure of the shelf, laid at this program: Lays.n160.
-/
namespace Go.Proofs.YtjmpldcnhjgpkaaGreatDoor
open Go Go.Proofs Go.Shelf
set_option maxRecDepth 100000

def renTrim : Go.Shelf.Ren :=
{
  f := fun x ↦
    match x with
    | 160 => 177
    | 232 => 196
    | 231 => 195
    | 227 => 197
    | 234 => 199
    | 233 => 198
    | 236 => 201
    | 235 => 200
    | 228 => 209
    | 271 => 211
    | 151 => 210
    | 197 => 170
    | 120 => 218
    | 152 => 217
    | 260 => 189
    | 137 => 224
    | 119 => 225
    | 224 => 192
    | 225 => 191
    | 217 => 190
    | 266 => 207
    | n => n,
  t := fun x ↦
    match x with
    | 9 => 9
    | 4 => 4
    | 3 => 3
    | 5 => 5
    | 117 => 238
    | 116 => 237
    | 0 => 0
    | 124 => 241
    | 21 => 21
    | 105 => 219
    | 46 => 139
    | 119 => 246
    | 139 => 249
    | 138 => 248
    | n => n,
  g := fun x ↦
    match x with
    | 3 => 5
    | 4 => 6
    | n => n }
theorem laysTrim : Go.Proofs.Lays.n160 Tryz.prog renTrim :=
{ mixed := Eq.refl Bool.true,
  f119 :=
    Eq.trans Tryz.func225 (congrArg Option.some (Eq.refl (Go.Proofs.Body.n119 renTrim))),
  f120 :=
    Eq.trans Tryz.func218 (congrArg Option.some (Eq.refl (Go.Proofs.Body.n120 renTrim))),
  f137 :=
    Eq.trans Tryz.func224 (congrArg Option.some (Eq.refl (Go.Proofs.Body.n137 renTrim))),
  f151 :=
    Eq.trans Tryz.func210 (congrArg Option.some (Eq.refl (Go.Proofs.Body.n151 renTrim))),
  f152 :=
    Eq.trans Tryz.func217 (congrArg Option.some (Eq.refl (Go.Proofs.Body.n152 renTrim))),
  f160 :=
    Eq.trans Tryz.func177 (congrArg Option.some (Eq.refl (Go.Proofs.Body.n160 renTrim))),
  f197 :=
    Eq.trans Tryz.func170 (congrArg Option.some (Eq.refl (Go.Proofs.Body.n197 renTrim))),
  f217 :=
    Eq.trans Tryz.func190 (congrArg Option.some (Eq.refl (Go.Proofs.Body.n217 renTrim))),
  f224 :=
    Eq.trans Tryz.func192 (congrArg Option.some (Eq.refl (Go.Proofs.Body.n224 renTrim))),
  f225 :=
    Eq.trans Tryz.func191 (congrArg Option.some (Eq.refl (Go.Proofs.Body.n225 renTrim))),
  f227 :=
    Eq.trans Tryz.func197 (congrArg Option.some (Eq.refl (Go.Proofs.Body.n227 renTrim))),
  f228 :=
    Eq.trans Tryz.func209 (congrArg Option.some (Eq.refl (Go.Proofs.Body.n228 renTrim))),
  f231 :=
    Eq.trans Tryz.func195 (congrArg Option.some (Eq.refl (Go.Proofs.Body.n231 renTrim))),
  f232 :=
    Eq.trans Tryz.func196 (congrArg Option.some (Eq.refl (Go.Proofs.Body.n232 renTrim))),
  f233 :=
    Eq.trans Tryz.func198 (congrArg Option.some (Eq.refl (Go.Proofs.Body.n233 renTrim))),
  f234 :=
    Eq.trans Tryz.func199 (congrArg Option.some (Eq.refl (Go.Proofs.Body.n234 renTrim))),
  f235 :=
    Eq.trans Tryz.func200 (congrArg Option.some (Eq.refl (Go.Proofs.Body.n235 renTrim))),
  f236 :=
    Eq.trans Tryz.func201 (congrArg Option.some (Eq.refl (Go.Proofs.Body.n236 renTrim))),
  f260 :=
    Eq.trans Tryz.func189 (congrArg Option.some (Eq.refl (Go.Proofs.Body.n260 renTrim))),
  f266 :=
    Eq.trans Tryz.func207 (congrArg Option.some (Eq.refl (Go.Proofs.Body.n266 renTrim))),
  f271 :=
    Eq.trans Tryz.func211 (congrArg Option.some (Eq.refl (Go.Proofs.Body.n271 renTrim))),
  t0 := Tryz.underlying0, a0 := Tryz.isAgg0, z0 := Tryz.sizeOf0,
  v0 := Tryz.zeroValue0, t3 := Tryz.underlying3, a3 := Tryz.isAgg3,
  z3 := Tryz.sizeOf3, v3 := Tryz.zeroValue3, t4 := Tryz.underlying4,
  a4 := Tryz.isAgg4, z4 := Tryz.sizeOf4, v4 := Tryz.zeroValue4,
  t5 := Tryz.underlying5, a5 := Tryz.isAgg5, z5 := Tryz.sizeOf5,
  v5 := Tryz.zeroValue5, t9 := Tryz.underlying9, a9 := Tryz.isAgg9,
  z9 := Tryz.sizeOf9, v9 := Tryz.zeroValue9, t21 := Tryz.underlying21,
  a21 := Tryz.isAgg21, z21 := Tryz.sizeOf21, v21 := Tryz.zeroValue21,
  t46 := Tryz.underlying139, a46 := Tryz.isAgg139, z46 := Tryz.sizeOf139,
  v46 := Tryz.zeroValue139, t105 := Tryz.underlying219, a105 := Tryz.isAgg219,
  z105 := Tryz.sizeOf219, v105 := Tryz.zeroValue219, t116 := Tryz.underlying237,
  a116 := Tryz.isAgg237, z116 := Tryz.sizeOf237, t117 := Tryz.underlying238,
  a117 := Tryz.isAgg238, z117 := Tryz.sizeOf238, v117 := Tryz.zeroValue238,
  t119 := Tryz.underlying246, a119 := Tryz.isAgg246, z119 := Tryz.sizeOf246,
  t124 := Tryz.underlying241, a124 := Tryz.isAgg241, z124 := Tryz.sizeOf241,
  v124 := Tryz.zeroValue241, t138 := Tryz.underlying248, a138 := Tryz.isAgg248,
  z138 := Tryz.sizeOf248, v138 := Tryz.zeroValue248, t139 := Tryz.underlying249,
  a139 := Tryz.isAgg249, z139 := Tryz.sizeOf249, v139 := Tryz.zeroValue249,
  g3 := by kernel_rfl,
  g4 := by kernel_rfl }
end Go.Proofs.YtjmpldcnhjgpkaaGreatDoor

/-
  The plain law of texts of lives that are read; the program's library call that trims.
-/
namespace Go.Proofs.YtjmpldcnhjgpkaaGreatDoor
open Go.RowKit Mem Fl Go.Shelf
set_option linter.unusedVariables false
set_option maxRecDepth 100000

/-- Is a byte one that tells an end. -/
def isFl (b : UInt8) : Bool := b == 102 || b == 108
def lifesOf (xs : List Nat) (bs : List UInt8) : List (Nat × Bool) := List.zipWith (fun x b => (x, b == 102)) xs bs
theorem lifesOf_len {xs : List Nat} {bs : List UInt8} (h : bs.length = xs.length) : (lifesOf xs bs).length = xs.length := by
  unfold lifesOf; rw [List.length_zipWith]; omega
/-- The lives with two parts of a text. -/
def livesMk (A B : ByteArray) : Option (List (Nat × Bool)) := (numsV A).bind fun xs =>
  if B.size = xs.length ∧ B.data.toList.all isFl = true ∧ livesOk (lifesOf xs B.data.toList) = true then some (lifesOf xs B.data.toList) else none
/-- The lives with a text. -/
def livesV (t : ByteArray) : Option (List (Nat × Bool)) :=
  match splitS t 59 with
  | [A, B] => livesMk A B
  | _ => none
theorem livesV_two {t A B : ByteArray} (h : splitS t 59 = [A, B]) : livesV t = livesMk A B := by
  unfold livesV; rw [h]
theorem livesV_len {t : ByteArray} (h : (splitS t 59).length ≠ 2) : livesV t = none := by
  unfold livesV
  split
  · rename_i h2; rw [h2] at h; simp at h
  · rfl
theorem livesMk_none {A B : ByteArray} (h : numsV A = none) : livesMk A B = none := by unfold livesMk; rw [h]; rfl
theorem livesMk_size {A B : ByteArray} {xs : List Nat} (h : numsV A = some xs) (hl : B.size ≠ xs.length) : livesMk A B = none := by
  unfold livesMk; rw [h, Option.bind_some, if_neg (fun h => hl h.1)]
theorem livesMk_bad {A B : ByteArray} (h : B.data.toList.all isFl = false) : livesMk A B = none := by
  unfold livesMk
  cases numsV A with
  | none => rfl
  | some xs => rw [Option.bind_some, if_neg (fun h' => by rw [h] at h'; cases h'.2.1)]
theorem livesMk_some {A B : ByteArray} {xs : List Nat} (h : numsV A = some xs) (hl : B.size = xs.length) (hf : B.data.toList.all isFl = true) : livesMk A B = if livesOk (lifesOf xs B.data.toList) = true then some (lifesOf xs B.data.toList) else none := by
  unfold livesMk; rw [h, Option.bind_some]
  by_cases ho : livesOk (lifesOf xs B.data.toList) = true
  · rw [if_pos ⟨hl, hf, ho⟩, if_pos ho]
  · rw [if_neg (fun h => ho h.2.2), if_neg ho]
theorem all_fl_plain {s : ByteArray} (h : s.data.toList.all isFl = true) : splitS s 59 = [s] := splitS_miss (fun i hi => by
  have := List.all_eq_true.1 h 59 (List.mem_of_getElem? hi)
  exact absurd this (by decide))
/-- So does the program see it. -/
theorem livesV_cut (t : ByteArray) : livesV t = if cutF 59 t = true then livesMk (cutA 59 t) (cutB 59 t) else none := by
  rcases cut_split 59 t with ⟨h1, h2⟩ | ⟨h1, h2⟩
  · rw [h1]; exact livesV_len (by rw [h2]; simp)
  · rw [h1, if_pos rfl]
    cases hB : (cutB 59 t).data.toList.all isFl with
    | true => exact livesV_two (by rw [h2, all_fl_plain hB])
    | false =>
      rw [livesMk_bad hB]
      by_cases hl : (splitS t 59).length = 2
      · rw [h2] at hl
        have hl2 : (splitS (cutB 59 t) 59).length = 1 := by simpa using hl
        rcases cut_split 59 (cutB 59 t) with ⟨_, h4⟩ | ⟨_, h4⟩
        · rw [livesV_two (by rw [h2, h4])]; exact livesMk_bad hB
        · rw [h4] at hl2
          have := splitS_pos (cutB 59 (cutB 59 t)) 59
          rw [List.length_cons] at hl2; omega
      · exact livesV_len hl

/-- What is left when all bytes that tell an end are trimmed. -/
def trimFl (s : ByteArray) : ByteArray := ⟨(Lib.trimS s.data.toList [102, 108]).toArray⟩
theorem fl_contains (b : UInt8) : ([102, 108] : List UInt8).contains b = isFl b := by
  unfold isFl
  simp only [List.contains, List.elem]
  cases h1 : (b == 102) <;> cases h2 : (b == 108) <;> rfl
theorem dropWhile_nil {p : UInt8 → Bool} : ∀ l : List UInt8, l.dropWhile p = [] ↔ l.all p = true
  | [] => by simp
  | a :: l => by
    cases h : p a with
    | true => rw [List.dropWhile_cons_of_pos h, dropWhile_nil l, List.all_cons, h, Bool.true_and]
    | false => rw [List.dropWhile_cons_of_neg (by rw [h]; simp), List.all_cons, h, Bool.false_and]; simp
theorem dropWhile_all {p : UInt8 → Bool} : ∀ l : List UInt8, (l.dropWhile p).all p = true → l.all p = true
  | [], _ => rfl
  | a :: l, h => by
    cases hp : p a with
    | true => rw [List.dropWhile_cons_of_pos hp] at h; rw [List.all_cons, hp, Bool.true_and]; exact dropWhile_all l h
    | false => rw [List.dropWhile_cons_of_neg (by rw [hp]; simp)] at h; exact h
theorem trimS_nil (l : List UInt8) : Lib.trimS l [102, 108] = [] ↔ l.all isFl = true := by
  have hp : (fun b => ([102, 108] : List UInt8).contains b) = isFl := funext fl_contains
  unfold Lib.trimS Lib.trimLeftS Lib.trimRightS
  rw [hp, dropWhile_nil, List.all_reverse]
  constructor
  · intro h
    have := dropWhile_all _ h
    rwa [List.all_reverse] at this
  · intro h
    have h2 : l.reverse.dropWhile isFl = [] := (dropWhile_nil _).2 (by rw [List.all_reverse]; exact h)
    rw [h2]; rfl
theorem trimFl_list (s : ByteArray) : ((trimFl s).toList == []) = s.data.toList.all isFl := by
  have e : (trimFl s).toList = Lib.trimS s.data.toList [102, 108] := by
    rw [Lib.toList_data]; rfl
  rw [e]
  cases h : s.data.toList.all isFl with
  | true => rw [(trimS_nil _).2 h]; rfl
  | false =>
    cases h2 : Lib.trimS s.data.toList [102, 108] with
    | nil => rw [(trimS_nil _).1 h2] at h; cases h
    | cons a l => rfl
theorem trim_calls {s : ByteArray} {w : World} (hs : s.size ≤ 1048576) :
    Calls Tryz.prog 177 #[.string s, .string ⟨#[102, 108]⟩] w fun e w' => e = .returned (.string (trimFl s)) ∧ Below w.heap.size w w' :=
  Any.strings_Trim_laid laysTrim (by kernel_rfl) s ⟨#[102, 108]⟩ w (by omega) (by decide) (ascii_of_all (by decide))
end Go.Proofs.YtjmpldcnhjgpkaaGreatDoor

/-
  ReadLives: the program's walk.
-/
namespace Go.Proofs.YtjmpldcnhjgpkaaGreatDoor
open Go.RowKit Mem Fl Go.Shelf
set_option linter.unusedVariables false
set_option maxRecDepth 100000

theorem lifes_succ {xs : List Nat} {bs : List UInt8} {k x : Nat} {b : UInt8} (hx : xs[k]? = some x) (hb : bs[k]? = some b) : (lifesOf xs bs).take (k + 1) = (lifesOf xs bs).take k ++ [(x, b == 102)] := by
  have h : (lifesOf xs bs)[k]? = some (x, b == 102) := by
    unfold lifesOf
    rw [List.getElem?_zipWith, hx, hb]
  rw [List.take_add_one, h]; rfl
theorem ll_snoc (p : Nat × Bool) : ∀ l : List (Nat × Bool), ll (l ++ [p]) = ll l ++ [.float .f32 p.1, .bool p.2]
  | [] => rfl
  | q :: l => by simp only [List.cons_append, ll, ll_snoc p l]
theorem cell_two_new (w : World) (x y : Value) (t : TypeId) : ∀ j u, [x, y][j]? = some u → (w.alloc (.cells #[x, y] t)).cell? ((⟨w.heap.size, 0, none⟩ : Addr).add j) = some u := by
  intro j u hj
  have := (Blk.new w t #[x, y]).cell j
  rw [Addr.add_lit, Nat.zero_add, this]
  simpa using hj
/-- 'append(out, u)' of one two-celled element onto a row of the call's own. -/
theorem wpList_append2 {P : Program} {w0 w : World} {ops : Array Oper} {rest : List Oper} {o : Oper} {a : Act} {Q : Exit → Act → World → Prop} (hgd : o.guard = none) (s x : Operand) (t : TypeId)
    (ho : o.op = .call { callee := .builtin .append, args := #[s, x], argTypes := #[t, t] })
    (base : Nat) (e : TypeId) (z u1 u2 : Value) (by_ : Nat) (hI : (P.info? e).map (fun i => (i.zero, i.size, i.bytes)) = some (some z, 2, by_)) (ht : P.underlying t = some (.slice e)) (hz : z.cells.size = 2)
    (hw : w = w0.alloc (.cells #[u1, u2] e)) (v : Value) (n : Nat) (xs : List Value) (hs : a.eval s = v) (hown : w0.ownsRow base e 2 v n xs)
    (hx : a.eval x = .slice (some ⟨w0.heap.size, 0, none⟩) 1 1) (hu1 : u1.oneCell' = true) (hu2 : u2.oneCell' = true)
    (hn : n < 1099511627776) (hby : by_ ≤ 64) (hbase : base ≤ w0.heap.size)
    (h : ∀ v' w', w'.ownsRow base e 2 v' (n + 1) (xs ++ [u1, u2]) → Below base w0 w' → wpList P ops Q rest (a.put o.dst v') w') : wpList P ops Q (o :: rest) a w := by
  subst hw
  obtain ⟨i0, hi, hz0, hz1, hz2⟩ := info_parts hI
  refine wpList_append_own _ hgd s x t ho base e i0 z 2 by_ ht hi hz0 hz1 hz2 hz (by decide) v n xs hs (hown.alloc _) ⟨w0.heap.size, 0, none⟩ 1 1 [u1, u2] hx rfl (cell_two_new _ _ _ _) (by simp [hu1, hu2]) (by simp [maxLen]; omega) ?_ (by simp; omega) ?_
  · have : (n + 1) * by_ ≤ 1099511627776 * 64 := Nat.mul_le_mul (by omega) hby
    omega
  · intro v' w' h1 h2 _
    exact h v' w' h1 (((Below.refl _ _).alloc hbase _).grown h2 (by simp; omega) (fun g hg => (hown.lt g hg).1))
def lvL (o : Option (List (Nat × Bool))) : List (Nat × Bool) := o.getD []
/-- What lives that are read look like. -/
def LvR (base : Nat) (o : Option (List (Nat × Bool))) (e : Ending) (w' : World) : Prop := ∃ (A : Option Addr) (ln c : Nat), e = .returned (.tuple #[.slice A ln c, .bool o.isSome]) ∧ w'.ownsRow base 69 2 (.slice A ln c) ln (ll (lvL o)) ∧ ln = (lvL o).length
theorem LvR.no {base : Nat} {o : Option (List (Nat × Bool))} {w' : World} (h : o = none) : LvR base o (.returned (.tuple #[.slice none 0 0, .bool false])) w' := by
  subst h; exact ⟨_, _, _, rfl, own_nil _ _ _ _, rfl⟩
theorem LvR.yes {base : Nat} {o : Option (List (Nat × Bool))} {xs : List (Nat × Bool)} {A : Option Addr} {n c : Nat} {w' : World} (h : o = some xs) (hn : n = xs.length) (ho : w'.ownsRow base 69 2 (.slice A n c) n (ll xs)) : LvR base o (.returned (.tuple #[.slice A n c, .bool true])) w' := by
  subst h; exact ⟨_, _, _, rfl, ho, hn⟩
theorem nan_fl (b : UInt8) (h : isFl b = true) : b = 102 ∨ b = 108 := by
  unfold isFl at h
  simpa using h
theorem own_n {w : World} {base : Nat} {e : TypeId} {size n m c : Nat} {A : Option Addr} {xs : List Value} (h : w.ownsRow base e size (.slice A m c) n xs) : m = n := by
  obtain ⟨A', c', h⟩ := own_shape h
  injection h
set_option maxHeartbeats 1000000 in
theorem i_ReadLives_none {t : ByteArray} {bm bs : Int} {w : World} (hs : t.size ≤ 1048576) (hm : w.cell? ⟨renCutF.g 1, 0, none⟩ = some (.int .i64 bm)) (hm2 : w.cell? ⟨renSplit.g 1, 0, none⟩ = some (.int .i64 bs)) (he : Errs w)
    (ht : w.cell? ⟨4, 15, none⟩ = some (.int .u8 4)) (hno : cutF 59 t = false ∨ (cutF 59 t = true ∧ (numsV (cutA 59 t) = none ∨ ∃ xs, numsV (cutA 59 t) = some xs ∧ ((cutB 59 t).size ≠ xs.length ∨ ((cutB 59 t).size = xs.length ∧ (cutB 59 t).data.toList.all isFl = false))))) :
    Calls Tryz.prog 146 #[.string t] w fun e w' => LvR w.heap.size none e w' ∧ Below w.heap.size w w' := by
  have hlt := Go.Clock.block_lt ht
  have hltm := Go.Clock.block_lt hm2
  have hA := cutA_size 59 t
  have hB := cutB_size 59 t
  have HN : ∀ (W : World), Below w.heap.size w W → _ := fun W hb => i_ReadNumbers (s := cutA 59 t) (w := W) (by omega) ((hb.cell (p := ⟨renSplit.g 1, 0, none⟩) hltm).trans hm2) (he.below hb) ((hb.cell (p := ⟨4, 15, none⟩) hlt).trans ht)
  have HT : ∀ (W : World), _ := fun W => trim_calls (s := cutB 59 t) (w := W) (by omega)
  have HTl := trimFl_list (cutB 59 t)
  have HCut := hide (cutS_calls (s := t) (m := 59) (w := w) (by omega) hm)
  generalize trimFl (cutB 59 t) = R at *
  generalize cutA 59 t = A at *
  generalize hBB : cutB 59 t = B at *
  generalize cutF 59 t = F at *
  replace HN := hide HN
  replace HT := hide HT
  clear hm hm2 he ht hlt hltm hs
  go_enter Tryz.func146, Tryz.ntmps146
  go_wp2_with fail
  refine HCut.out.mono ?_
  rintro e w1 ⟨rfl, nq, rfl⟩
  have bel1 := below_drewN (Below.refl w.heap.size w) nq
  go_wp2_with fail
  refine (HN.out _ bel1).mono ?_
  rintro e w2 ⟨⟨v, rfl, hr⟩, hb2⟩
  have bel2 := bel1.trans (hb2.mono bel1.size)
  obtain ⟨vA, vn, vc, rfl⟩ := NR.sl hr
  clear hb2 HCut HN
  rcases hno with rfl | ⟨rfl, hno⟩
  · clear hr
    go_wp2
    go_ret2
    exact ⟨LvR.no rfl, bel2⟩
  · rcases hno with hn | ⟨xs, hn, hno⟩
    · rw [hn] at hr ⊢
      clear hr
      simp only [Option.isSome_none]
      go_wp2
      go_ret2
      exact ⟨LvR.no rfl, bel2⟩
    · rw [hn] at hr ⊢
      simp only [Option.isSome_some]
      obtain ⟨ho, hx⟩ := hr
      have hvn := own_n ho
      clear ho hx hn
      subst hvn
      rcases hno with hl | ⟨hl, hf⟩
      · have hlI : ((xs.length : Int) != (B.size : Int)) = true := by simp; omega
        go_wp2
        go_ret2
        exact ⟨LvR.no rfl, bel2⟩
      · have hlI : ((xs.length : Int) != (B.size : Int)) = false := by simp; omega
        have hR : (R.toList == []) = false := by rw [HTl, hf]
        clear HTl hf
        go_wp2_with fail
        refine (HT.out _).mono ?_
        rintro e w3 ⟨rfl, hb3⟩
        have bel3 := bel2.trans (hb3.mono bel2.size)
        go_wp2
        go_ret2
        exact ⟨LvR.no rfl, bel3⟩
/-- The byte at a place. -/
theorem byteAt {B : ByteArray} {k : Nat} (hk : k < B.size) : B.data.toList[k]? = some B[k] := by
  rw [List.getElem?_eq_getElem (show k < B.data.toList.length by simp only [Array.length_toList]; exact hk)]; rfl
set_option maxHeartbeats 2000000 in
theorem i_ReadLives_some {t : ByteArray} {bm bs : Int} {xs : List Nat} {w : World} (hs : t.size ≤ 1048576) (hm : w.cell? ⟨renCutF.g 1, 0, none⟩ = some (.int .i64 bm)) (hm2 : w.cell? ⟨renSplit.g 1, 0, none⟩ = some (.int .i64 bs)) (he : Errs w)
    (ht : w.cell? ⟨4, 15, none⟩ = some (.int .u8 4)) (hF : cutF 59 t = true) (hn : numsV (cutA 59 t) = some xs) (hl : (cutB 59 t).size = xs.length) (hf : (cutB 59 t).data.toList.all isFl = true) {o : Option (List (Nat × Bool))} (hO : Hid (o = if livesOk (lifesOf xs (cutB 59 t).data.toList) = true then some (lifesOf xs (cutB 59 t).data.toList) else none)) :
    Calls Tryz.prog 146 #[.string t] w fun e w' => LvR w.heap.size o e w' ∧ Below w.heap.size w w' := by
  have hmx := numsV_max hn
  have hlt := Go.Clock.block_lt ht
  have hltm := Go.Clock.block_lt hm2
  have hA := cutA_size 59 t
  have hB := cutB_size 59 t
  have HN : ∀ (W : World), Below w.heap.size w W → _ := fun W hb => i_ReadNumbers (s := cutA 59 t) (w := W) (by omega) ((hb.cell (p := ⟨renSplit.g 1, 0, none⟩) hltm).trans hm2) (he.below hb) ((hb.cell (p := ⟨4, 15, none⟩) hlt).trans ht)
  have HT : ∀ (W : World), _ := fun W => trim_calls (s := cutB 59 t) (w := W) (by omega)
  have HTl := trimFl_list (cutB 59 t)
  have HCut := hide (cutS_calls (s := t) (m := 59) (w := w) (by omega) hm)
  rw [hn] at HN
  rw [hF] at HCut
  generalize trimFl (cutB 59 t) = R at *
  generalize cutA 59 t = A at *
  generalize hBB : cutB 59 t = B at *
  replace HN := hide HN
  replace HT := hide HT
  clear hm hm2 he ht hlt hltm hs hn hBB hF hA hB
  have Hf := hide hf
  have hR : (R.toList == []) = true := by rw [HTl, hf]
  have Hbl : Hid (B.data.toList.length = xs.length) := hide (by rw [Array.length_toList]; exact hl)
  have Hlen : Hid ((lifesOf xs B.data.toList).length = xs.length) := hide (lifesOf_len Hbl.out)
  clear HTl hf
  generalize hLL : lifesOf xs B.data.toList = LL at *
  replace hLL := hide hLL
  go_enter Tryz.func146, Tryz.ntmps146
  go_wp2_with fail
  refine HCut.out.mono ?_
  rintro e w1 ⟨rfl, nq, rfl⟩
  have bel1 := below_drewN (Below.refl w.heap.size w) nq
  go_wp2_with fail
  refine (HN.out _ bel1).mono ?_
  rintro e w2 ⟨⟨v, rfl, hr⟩, hb2⟩
  simp only [Option.isSome_some]
  obtain ⟨ho, hx⟩ := hr
  have bel2 := bel1.trans (hb2.mono bel1.size)
  obtain ⟨vA, vc, rfl⟩ := own_shape ho
  clear hb2 HCut HN hx
  have hlI : ((xs.length : Int) != (B.size : Int)) = false := by simp; omega
  go_wp2_with fail
  refine (HT.out _).mono ?_
  rintro e w3 ⟨rfl, hb3⟩
  have HRd := hide ((Reads.of_own ho).below hb3)
  have hw23 := hb3.size
  have bel3 := bel2.trans (hb3.mono bel2.size)
  clear hb3 HT ho bel1 bel2
  generalize hn : xs.length = n at *
  replace hn := hide hn
  go_wp2
  go_loopw [9, 44] (fun v i wr => ∃ k : Nat, k ≤ n ∧ i = .int .i64 k ∧ Hid (wr.ownsRow w3.heap.size 69 2 v k (ll (LL.take k))) ∧ Below w3.heap.size w3 wr) (fun _ i _ => n - (intOf i).toNat)
  case atStart => exact ⟨0, Nat.zero_le _, rfl, hide (World.ownsRow_made _ _ _ (Nat.le_refl _) (by simp [maxLen]) (by simp)), (Below.refl _ _).alloc (Nat.le_refl _) _⟩
  case round =>
    obtain ⟨k, hk, rfl, hown, hbel⟩ := hrel
    by_cases hk2 : k < n
    · obtain ⟨ad, x, rfl, _, hx, hc⟩ := (HRd.out.below (hbel.mono hw23)).map_at hk2
      have hkb : k < B.size := by omega
      have hb := byteAt hkb
      obtain ⟨cb, hcb⟩ : ∃ cb, B[k] = cb := ⟨_, rfl⟩
      rw [hcb] at hb
      have HS := hide (lifes_succ hx hb)
      rw [hLL.out] at HS
      have hkI : (k : Int) < (n : Int) := by omega
      have hkbI : (k : Int) < (B.size : Int) := by omega
      have hfl := nan_fl cb (List.all_eq_true.1 Hf.out cb (List.mem_of_getElem? hb))
      have hsz := hbel.size
      have HO0 := hown.out
      clear hx hb hown
      rcases hfl with rfl | rfl
      all_goals
        go_wp2_with (at_builtin; refine wpList_append2 rfl (.tmp 49) (.tmp 56) 24 rfl w3.heap.size 69 (.agg #[.float .f32 0, .bool false]) _ _ 8 info_life Tryz.underlying24 rfl rfl _ _ _ rfl HO0 (by show Value.slice (some ⟨wr.heap.size, 0, none⟩) 1 1 = _; simp) rfl rfl (by omega) (by omega) hsz ?_)
        intro v' w' hown' hb'
        have hbel' := hbel.trans hb'
        have HO : Hid (w'.ownsRow w3.heap.size 69 2 v' (k + 1) (ll (LL.take (k + 1)))) := hide (by rw [HS.out, ll_snoc]; exact hown')
        clear hown' hb'
        go_wp2
        go_roundw
        case rel => exact ⟨k + 1, by omega, by go_num, HO, hbel'⟩
        case measure => (simp [intOf]; try omega)
    · obtain rfl : k = n := by omega
      have hkI : ¬ (k : Int) < (k : Int) := by omega
      have hown2 : wr.ownsRow w3.heap.size 69 2 u9 k (ll LL) := by
        have := hown.out
        rwa [List.take_of_length_le (by have := Hlen.out; omega)] at this
      obtain ⟨A2, c2, rfl⟩ := own_shape hown2
      clear hown
      go_wp2_with fail
      refine (i_AreLives (xs := LL) (B := wr.heap.size) (Reads.of_own hown2) (Nat.le_refl _) (by omega)).mono ?_
      rintro e w4 ⟨rfl, hb4⟩
      have HO := hide (own_base (own_below hown2 hb4) bel3.size)
      have bel4 := (bel3.trans (hbel.mono bel3.size)).trans (hb4.mono (Nat.le_trans bel3.size hbel.size))
      clear hown2 hb4
      cases hok : livesOk LL with
      | false =>
        have HN : Hid (o = none) := hide (by rw [hO.out, hok, if_neg (by simp)])
        go_wp2
        go_ret2
        exact ⟨LvR.no HN.out, bel4⟩
      | true =>
        have HN : Hid (o = some LL) := hide (by rw [hO.out, hok, if_pos rfl])
        go_wp2
        go_ret2
        exact ⟨LvR.yes HN.out Hlen.out.symm HO.out, bel4⟩
theorem i_ReadLives {t : ByteArray} {bm bs : Int} {w : World} (hs : t.size ≤ 1048576) (hm : w.cell? ⟨renCutF.g 1, 0, none⟩ = some (.int .i64 bm)) (hm2 : w.cell? ⟨renSplit.g 1, 0, none⟩ = some (.int .i64 bs)) (he : Errs w)
    (ht : w.cell? ⟨4, 15, none⟩ = some (.int .u8 4)) :
    Calls Tryz.prog 146 #[.string t] w fun e w' => LvR w.heap.size (livesV t) e w' ∧ Below w.heap.size w w' := by
  rw [livesV_cut]
  cases hF : cutF 59 t with
  | false => exact i_ReadLives_none hs hm hm2 he ht (.inl hF)
  | true =>
    rw [if_pos rfl]
    cases hn : numsV (cutA 59 t) with
    | none => rw [livesMk_none hn]; exact i_ReadLives_none hs hm hm2 he ht (.inr ⟨hF, .inl hn⟩)
    | some xs =>
      by_cases hl : (cutB 59 t).size = xs.length
      · cases hf : (cutB 59 t).data.toList.all isFl with
        | false => rw [livesMk_bad hf]; exact i_ReadLives_none hs hm hm2 he ht (.inr ⟨hF, .inr ⟨xs, hn, .inr ⟨hl, hf⟩⟩⟩)
        | true => exact i_ReadLives_some hs hm hm2 he ht hF hn hl hf (hide (livesMk_some hn hl hf))
      · rw [livesMk_size hn hl]; exact i_ReadLives_none hs hm hm2 he ht (.inr ⟨hF, .inr ⟨xs, hn, .inl hl⟩⟩)
end Go.Proofs.YtjmpldcnhjgpkaaGreatDoor

/-
  A law is given if it is valid: both sides.
-/
namespace Go.Proofs.YtjmpldcnhjgpkaaGreatDoor
open Go.RowKit Mem Fl Go.Shelf
set_option linter.unusedVariables false
set_option maxRecDepth 100000

abbrev lawA (kd : Int) (sh sc : Nat) : Array Value := #[.int .i64 kd, .float .f32 sh, .float .f32 sc]
set_option maxHeartbeats 1000000 in
theorem i_ifLaw_yes {kd : Int} {sh sc : Nat} {w : World} (h : lawOk kd sh sc = true) : Calls Tryz.prog 175 #[.agg (lawA kd sh sc)] w fun e w' => e = .returned (.tuple #[.agg (lawA kd sh sc), .bool true]) ∧ Below w.heap.size w w' := by
  go_enter Tryz.func175, Tryz.ntmps175
  go_wp2_with fail
  refine i_ValidLaw.mono ?_
  rintro e w1 ⟨rfl, hb⟩
  rw [h]
  have blkA := ((Blk.new w 27 (lawA kd sh sc)).below ((Below.refl _ _).alloc (Nat.le_refl _) (.cells (lawA 0 0 0) 27)) (by simp)).below hb (by simp; omega)
  have blkB := (Blk.new (w.alloc (.cells (lawA kd sh sc) 27)) 27 (lawA 0 0 0)).below hb (by simp)
  have bel1 : Below w.heap.size w w1 := (((Below.refl _ _).alloc (Nat.le_refl _) _).alloc (by simp) _).trans (hb.mono (by simp; omega))
  simp only [World.size_alloc] at blkB
  have c0 := blkA.cell 0
  have c1 := blkA.cell 1
  have c2 := blkA.cell 2
  have d0 := blkB.cell 0
  have d1 := blkB.cell 1
  have d2 := blkB.cell 2
  have f0 := blkB.frozen 0
  have f1 := blkB.frozen 1
  have f2 := blkB.frozen 2
  have hzz := bel1.size
  clear hb blkA
  go_wp2
  refine bodyPost_ret (results_row_tmp (P := Tryz.prog) rfl _ _ (w.heap.size + 1) 27 (lawA kd sh sc) (0, 0) _ rfl (((blkB.set_ 0 _).set_ 1 _).set_ 2 _) Tryz.underlying27 rfl (by kernel_rfl)) rfl ?_
  exact ⟨rfl, ((bel1.setCell (Nat.le_succ _) _).setCell (Nat.le_succ _) _).setCell (Nat.le_succ _) _⟩
set_option maxHeartbeats 1000000 in
theorem i_ifLaw_no {kd : Int} {sh sc : Nat} {w : World} (h : lawOk kd sh sc = false) : Calls Tryz.prog 175 #[.agg (lawA kd sh sc)] w fun e w' => e = .returned (.tuple #[.agg (lawA 0 0 0), .bool false]) ∧ Below w.heap.size w w' := by
  go_enter Tryz.func175, Tryz.ntmps175
  go_wp2_with fail
  refine i_ValidLaw.mono ?_
  rintro e w1 ⟨rfl, hb⟩
  rw [h]
  have blkA := ((Blk.new w 27 (lawA kd sh sc)).below ((Below.refl _ _).alloc (Nat.le_refl _) (.cells (lawA 0 0 0) 27)) (by simp)).below hb (by simp; omega)
  have blkB := (Blk.new (w.alloc (.cells (lawA kd sh sc) 27)) 27 (lawA 0 0 0)).below hb (by simp)
  have bel1 : Below w.heap.size w w1 := (((Below.refl _ _).alloc (Nat.le_refl _) _).alloc (by simp) _).trans (hb.mono (by simp; omega))
  simp only [World.size_alloc] at blkB
  have c0 := blkA.cell 0
  have c1 := blkA.cell 1
  have c2 := blkA.cell 2
  have d0 := blkB.cell 0
  have d1 := blkB.cell 1
  have d2 := blkB.cell 2
  have f0 := blkB.frozen 0
  have f1 := blkB.frozen 1
  have f2 := blkB.frozen 2
  have hzz := bel1.size
  clear hb blkA
  go_wp2
  refine bodyPost_ret (results_row_tmp (P := Tryz.prog) rfl _ _ (w.heap.size + 1) 27 (lawA 0 0 0) (0, 0) _ rfl (((blkB.set_ 0 _).set_ 1 _).set_ 2 _) Tryz.underlying27 rfl (by kernel_rfl)) rfl ?_
  exact ⟨rfl, ((bel1.setCell (Nat.le_succ _) _).setCell (Nat.le_succ _) _).setCell (Nat.le_succ _) _⟩
end Go.Proofs.YtjmpldcnhjgpkaaGreatDoor

/-
  ReadLaw: both sides where the text is no law's for its form.
-/
namespace Go.Proofs.YtjmpldcnhjgpkaaGreatDoor
open Go.RowKit Mem Fl Go.Shelf
set_option linter.unusedVariables false
set_option maxRecDepth 100000

/-- The law with a text. -/
def lawV (t : ByteArray) : Option (Int × Nat × Nat) := (headV t).bind fun p => match p.2 with
  | [x, y] => if lawOk p.1 x y = true then some (p.1, x, y) else none
  | _ => none
def lawRes (o : Option (Int × Nat × Nat)) : Value := match o with
  | some (n, x, y) => .tuple #[.agg (lawA n x y), .bool true]
  | none => .tuple #[.agg (lawA 0 0 0), .bool false]
theorem lawV_none {t : ByteArray} (h : headV t = none) : lawV t = none := by unfold lawV; rw [h]; rfl
theorem lawV_len {t : ByteArray} {n : Int} {xs : List Nat} (h : headV t = some (n, xs)) (hl : xs.length ≠ 2) : lawV t = none := by
  unfold lawV; rw [h]
  simp only [Option.bind_some]
  match xs, hl with
  | [], _ => rfl
  | [_], _ => rfl
  | [_, _], h => exact absurd rfl h
  | _ :: _ :: _ :: _, _ => rfl
set_option maxHeartbeats 1000000 in
theorem i_ReadLaw_none {t : ByteArray} {bm bs : Int} {w : World} (hs : t.size ≤ 1048576) (hm : w.cell? ⟨renCutF.g 1, 0, none⟩ = some (.int .i64 bm)) (hm2 : w.cell? ⟨renSplit.g 1, 0, none⟩ = some (.int .i64 bs)) (he : Errs w)
    (htab : Lib.TabIs Tryz.prog w "internal/strconv.uint64pow10" .u64 Lib.pow10Tab) (ht : w.cell? ⟨4, 15, none⟩ = some (.int .u8 4)) (h : headV t = none) :
    Calls Tryz.prog 147 #[.string t] w fun e w' => e = .returned (.tuple #[.agg (lawA 0 0 0), .bool false]) ∧ Below w.heap.size w w' := by
  have b0 : Below w.heap.size w (w.alloc (.cells (lawA 0 0 0) 27)) := (Below.refl _ _).alloc (Nat.le_refl _) _
  have HH := hide (i_readHeaded (w := w.alloc (.cells (lawA 0 0 0) 27)) hs ((b0.cell (p := ⟨renCutF.g 1, 0, none⟩) (Go.Clock.block_lt hm)).trans hm) ((b0.cell (p := ⟨renSplit.g 1, 0, none⟩) (Go.Clock.block_lt hm2)).trans hm2) (he.below b0) (pow_kept htab b0) ((b0.cell (p := ⟨4, 15, none⟩) (Go.Clock.block_lt ht)).trans ht))
  rw [h] at HH
  clear b0 hm hm2 he htab ht
  go_enter Tryz.func147, Tryz.ntmps147
  go_wp2_with fail
  refine HH.out.mono ?_
  rintro e w1 ⟨⟨n, v, rfl, _⟩, hb⟩
  simp only [Option.isSome_none]
  have blkB := (Blk.new w 27 (lawA 0 0 0)).below hb (by simp)
  have bel1 : Below w.heap.size w w1 := ((Below.refl _ _).alloc (Nat.le_refl _) _).trans (hb.mono (by simp))
  have d0 := blkB.cell 0
  have d1 := blkB.cell 1
  have d2 := blkB.cell 2
  have f0 := blkB.frozen 0
  have f1 := blkB.frozen 1
  have f2 := blkB.frozen 2
  clear hb HH
  go_wp2
  refine bodyPost_ret (results_row_tmp (P := Tryz.prog) rfl _ _ w.heap.size 27 (lawA 0 0 0) (0, 0) _ rfl (((blkB.set_ 0 _).set_ 1 _).set_ 2 _) Tryz.underlying27 rfl (by kernel_rfl)) rfl ?_
  exact ⟨rfl, ((bel1.setCell (Nat.le_refl _) _).setCell (Nat.le_refl _) _).setCell (Nat.le_refl _) _⟩
set_option maxHeartbeats 1000000 in
theorem i_ReadLaw_len {t : ByteArray} {n : Int} {xs : List Nat} {bm bs : Int} {w : World} (hs : t.size ≤ 1048576) (hm : w.cell? ⟨renCutF.g 1, 0, none⟩ = some (.int .i64 bm)) (hm2 : w.cell? ⟨renSplit.g 1, 0, none⟩ = some (.int .i64 bs)) (he : Errs w)
    (htab : Lib.TabIs Tryz.prog w "internal/strconv.uint64pow10" .u64 Lib.pow10Tab) (ht : w.cell? ⟨4, 15, none⟩ = some (.int .u8 4)) (h : headV t = some (n, xs)) (hl : xs.length ≠ 2) :
    Calls Tryz.prog 147 #[.string t] w fun e w' => e = .returned (.tuple #[.agg (lawA 0 0 0), .bool false]) ∧ Below w.heap.size w w' := by
  have b0 : Below w.heap.size w (w.alloc (.cells (lawA 0 0 0) 27)) := (Below.refl _ _).alloc (Nat.le_refl _) _
  have HH := hide (i_readHeaded (w := w.alloc (.cells (lawA 0 0 0) 27)) hs ((b0.cell (p := ⟨renCutF.g 1, 0, none⟩) (Go.Clock.block_lt hm)).trans hm) ((b0.cell (p := ⟨renSplit.g 1, 0, none⟩) (Go.Clock.block_lt hm2)).trans hm2) (he.below b0) (pow_kept htab b0) ((b0.cell (p := ⟨4, 15, none⟩) (Go.Clock.block_lt ht)).trans ht))
  rw [h] at HH
  have hI : ¬ (xs.length : Int) = 2 := by omega
  clear b0 hm hm2 he htab ht hl
  go_enter Tryz.func147, Tryz.ntmps147
  go_wp2_with fail
  refine HH.out.mono ?_
  rintro e w1 ⟨⟨n', v, rfl, rfl, ho, _⟩, hb⟩
  simp only [Option.isSome_some]
  obtain ⟨A, c, rfl⟩ := own_shape ho
  clear ho
  have blkB := (Blk.new w 27 (lawA 0 0 0)).below hb (by simp)
  have bel1 : Below w.heap.size w w1 := ((Below.refl _ _).alloc (Nat.le_refl _) _).trans (hb.mono (by simp))
  have d0 := blkB.cell 0
  have d1 := blkB.cell 1
  have d2 := blkB.cell 2
  have f0 := blkB.frozen 0
  have f1 := blkB.frozen 1
  have f2 := blkB.frozen 2
  clear hb HH
  go_wp2
  refine bodyPost_ret (results_row_tmp (P := Tryz.prog) rfl _ _ w.heap.size 27 (lawA 0 0 0) (0, 0) _ rfl (((blkB.set_ 0 _).set_ 1 _).set_ 2 _) Tryz.underlying27 rfl (by kernel_rfl)) rfl ?_
  exact ⟨rfl, ((bel1.setCell (Nat.le_refl _) _).setCell (Nat.le_refl _) _).setCell (Nat.le_refl _) _⟩
end Go.Proofs.YtjmpldcnhjgpkaaGreatDoor
