/-
  A structure of the shelf, laid at this program: LaysM.n146.
-/
import Derived.Test.YtjmpldcnhjgpkaaGreatDoorProg
import Derived.Test.YtjmpldcnhjgpkaaGreatDoorLayIndexByte
import Derived.Test.YtjmpldcnhjgpkaaGreatDoorHelp
import Derived.Test.YtjmpldcnhjgpkaaGreatDoorVal
import Derived.Shelf.LaysM
import Derived.Shelf.Strings.SplitShaped
import Derived.KernelRfl
import Derived.BigQuiet
import Derived.Laws.ResultCell
namespace Go.Proofs.YtjmpldcnhjgpkaaGreatDoor
open Go Go.Proofs Go.Shelf
set_option maxRecDepth 100000

def renSplit : Go.Shelf.Ren :=
{
  f := fun x ↦
    match x with
    | 146 => 78
    | 221 => 116
    | 268 => 137
    | 138 => 138
    | 143 => 139
    | 195 => 169
    | 197 => 170
    | 218 => 171
    | 219 => 172
    | 260 => 189
    | 217 => 190
    | 225 => 191
    | 224 => 192
    | 267 => 193
    | 266 => 207
    | 314 => 208
    | n => n,
  t := fun x ↦
    match x with
    | 9 => 9
    | 31 => 74
    | 3 => 3
    | 4 => 4
    | 0 => 0
    | 105 => 219
    | 21 => 21
    | 5 => 5
    | 46 => 139
    | 119 => 246
    | 139 => 249
    | 138 => 248
    | 146 => 174
    | 51 => 154
    | n => n,
  g := fun x ↦
    match x with
    | 1 => 2
    | 3 => 5
    | 4 => 6
    | n => n }
theorem laysSplit : Go.Proofs.LaysM.n146 Tryz.prog renSplit :=
{ mixed := Eq.refl Bool.true,
  f138 :=
    Eq.trans Tryz.func138 (congrArg Option.some (Eq.refl (Go.Proofs.Body.n138 renSplit))),
  f143 :=
    Eq.trans Tryz.func139 (congrArg Option.some (Eq.refl (Go.Proofs.Body.n143 renSplit))),
  f146 :=
    Eq.trans Tryz.func78 (congrArg Option.some (Eq.refl (Go.Proofs.Body.n146 renSplit))),
  f195 :=
    Eq.trans Tryz.func169 (congrArg Option.some (Eq.refl (Go.Proofs.Body.n195 renSplit))),
  f197 :=
    Eq.trans Tryz.func170 (congrArg Option.some (Eq.refl (Go.Proofs.Body.n197 renSplit))),
  f217 :=
    Eq.trans Tryz.func190 (congrArg Option.some (Eq.refl (Go.Proofs.Body.n217 renSplit))),
  f218 :=
    Eq.trans Tryz.func171 (congrArg Option.some (Eq.refl (Go.Proofs.Body.n218 renSplit))),
  f219 :=
    Eq.trans Tryz.func172 (congrArg Option.some (Eq.refl (Go.Proofs.Body.n219 renSplit))),
  f221 :=
    Eq.trans Tryz.func116 (congrArg Option.some (Eq.refl (Go.Proofs.Body.n221 renSplit))),
  f224 :=
    Eq.trans Tryz.func192 (congrArg Option.some (Eq.refl (Go.Proofs.Body.n224 renSplit))),
  f225 :=
    Eq.trans Tryz.func191 (congrArg Option.some (Eq.refl (Go.Proofs.Body.n225 renSplit))),
  f260 :=
    Eq.trans Tryz.func189 (congrArg Option.some (Eq.refl (Go.Proofs.Body.n260 renSplit))),
  f266 :=
    Eq.trans Tryz.func207 (congrArg Option.some (Eq.refl (Go.Proofs.Body.n266 renSplit))),
  f267 :=
    Eq.trans Tryz.func193 (congrArg Option.some (Eq.refl (Go.Proofs.Body.n267 renSplit))),
  f268 :=
    Eq.trans Tryz.func137 (congrArg Option.some (Eq.refl (Go.Proofs.Body.n268 renSplit))),
  f314 :=
    Eq.trans Tryz.func208 (congrArg Option.some (Eq.refl (Go.Proofs.Body.n314 renSplit))),
  t0 := Tryz.underlying0, a0 := Tryz.isAgg0, z0 := Tryz.sizeOf0,
  v0 := Tryz.zeroValue0, t3 := Tryz.underlying3, a3 := Tryz.isAgg3,
  z3 := Tryz.sizeOf3, v3 := Tryz.zeroValue3, t4 := Tryz.underlying4,
  a4 := Tryz.isAgg4, z4 := Tryz.sizeOf4, v4 := Tryz.zeroValue4,
  t5 := Tryz.underlying5, a5 := Tryz.isAgg5, z5 := Tryz.sizeOf5,
  v5 := Tryz.zeroValue5, t9 := Tryz.underlying9, a9 := Tryz.isAgg9,
  z9 := Tryz.sizeOf9, v9 := Tryz.zeroValue9, t21 := Tryz.underlying21,
  a21 := Tryz.isAgg21, z21 := Tryz.sizeOf21, v21 := Tryz.zeroValue21,
  t31 := Tryz.underlying74, a31 := Tryz.isAgg74, z31 := Tryz.sizeOf74,
  v31 := Tryz.zeroValue74, t46 := Tryz.underlying139, a46 := Tryz.isAgg139,
  z46 := Tryz.sizeOf139, v46 := Tryz.zeroValue139, t51 := Tryz.underlying154,
  a51 := Tryz.isAgg154, z51 := Tryz.sizeOf154, v51 := Tryz.zeroValue154,
  t105 := Tryz.underlying219, a105 := Tryz.isAgg219, z105 := Tryz.sizeOf219,
  v105 := Tryz.zeroValue219, t119 := Tryz.underlying246, a119 := Tryz.isAgg246,
  z119 := Tryz.sizeOf246, t138 := Tryz.underlying248, a138 := Tryz.isAgg248,
  z138 := Tryz.sizeOf248, v138 := Tryz.zeroValue248, t139 := Tryz.underlying249,
  a139 := Tryz.isAgg249, z139 := Tryz.sizeOf249, v139 := Tryz.zeroValue249,
  t146 := Tryz.underlying174, a146 := Tryz.isAgg174, z146 := Tryz.sizeOf174,
  v146 := Tryz.zeroValue174, g1 := by kernel_rfl,
  g3 := by kernel_rfl,
  g4 := by kernel_rfl,
  i0 := Eq.refl (Option.some (Option.some (Go.Value.tuple #[]), 1, 0)),
  i3 := Eq.refl (Option.some (Option.some (Go.Value.int Go.IntKind.i64 0), 1, 8)),
  i4 := Eq.refl (Option.some (Option.some (Go.Value.bool Bool.false), 1, 1)),
  i5 := Eq.refl (Option.some (Option.some (Go.Value.int Go.IntKind.u8 0), 1, 1)),
  i9 := Eq.refl (Option.some (Option.some (Go.Value.string { data := #[] }), 1, 16)),
  i21 := Eq.refl (Option.some (Option.some (Go.Value.int Go.IntKind.i32 0), 1, 4)),
  i31 := Eq.refl (Option.some (Option.some (Go.Value.slice Option.none 0 0), 1, 24)),
  i46 := Eq.refl (Option.some (Option.some (Go.Value.int Go.IntKind.u64 0), 1, 8)),
  i51 := Eq.refl (Option.some (Option.some (Go.Value.int Go.IntKind.u32 0), 1, 4)),
  i105 :=
    Eq.refl
      (Option.some
        (Option.some (Go.Value.tuple #[Go.Value.int Go.IntKind.i32 0, Go.Value.int Go.IntKind.i64 0]), 1, 0)),
  i138 :=
    Eq.refl
      (Option.some (Option.some (Go.Value.agg #[Go.Value.int Go.IntKind.u8 0, Go.Value.int Go.IntKind.u8 0]), 2, 2)),
  i139 :=
    Eq.refl
      (Option.some
        (Option.some
            (Go.Value.agg
              #[Go.Value.int Go.IntKind.u8 0, Go.Value.int Go.IntKind.u8 0, Go.Value.int Go.IntKind.u8 0,
                Go.Value.int Go.IntKind.u8 0, Go.Value.int Go.IntKind.u8 0, Go.Value.int Go.IntKind.u8 0,
                Go.Value.int Go.IntKind.u8 0, Go.Value.int Go.IntKind.u8 0, Go.Value.int Go.IntKind.u8 0,
                Go.Value.int Go.IntKind.u8 0, Go.Value.int Go.IntKind.u8 0, Go.Value.int Go.IntKind.u8 0,
                Go.Value.int Go.IntKind.u8 0, Go.Value.int Go.IntKind.u8 0, Go.Value.int Go.IntKind.u8 0,
                Go.Value.int Go.IntKind.u8 0, Go.Value.int Go.IntKind.u8 0, Go.Value.int Go.IntKind.u8 0,
                Go.Value.int Go.IntKind.u8 0, Go.Value.int Go.IntKind.u8 0, Go.Value.int Go.IntKind.u8 0,
                Go.Value.int Go.IntKind.u8 0, Go.Value.int Go.IntKind.u8 0, Go.Value.int Go.IntKind.u8 0,
                Go.Value.int Go.IntKind.u8 0, Go.Value.int Go.IntKind.u8 0, Go.Value.int Go.IntKind.u8 0,
                Go.Value.int Go.IntKind.u8 0, Go.Value.int Go.IntKind.u8 0, Go.Value.int Go.IntKind.u8 0,
                Go.Value.int Go.IntKind.u8 0, Go.Value.int Go.IntKind.u8 0]),
          32, 32)),
  i146 :=
    Eq.refl
      (Option.some
        (Option.some (Go.Value.tuple #[Go.Value.int Go.IntKind.u32 0, Go.Value.int Go.IntKind.u32 0]), 1, 0)),
  m1 := by kernel_rfl,
  s1_3 := fun w h ↦
    Go.Proofs.cell_of_shapedOpen_int h (of_decide_eq_true (Eq.refl Bool.true))
      (Eq.refl (Option.some (#[Go.Value.int Go.IntKind.i64 0], 3))) rfl (Eq.refl Bool.true) (Eq.refl (Option.some [3]))
      Tryz.underlying3,
  m3 := by kernel_rfl,
  m4 := by kernel_rfl }
end Go.Proofs.YtjmpldcnhjgpkaaGreatDoor

/-
  strings.Split at a newline: the shelf's contract at this program.
-/
namespace Go.Proofs.YtjmpldcnhjgpkaaGreatDoor
open Go.RowKit Mem Go.Shelf
set_option linter.unusedVariables false
set_option maxRecDepth 100000

theorem split_calls {s : ByteArray} {b : Int} {m : UInt8} (w : World) (hs : s.size < 4294967281) (hm : w.cell? ⟨renSplit.g 1, 0, none⟩ = some (.int .i64 b)) :
    Calls Tryz.prog 78 #[.string s, .string (markB m)] w fun e w' =>
      e = .returned (.slice (some ⟨w.heap.size, 0, none⟩) (splitS s m).length (splitS s m).length) ∧ w' = w.alloc (.cells ((splitS s m).map Value.string).toArray 9) := by
  have hlen : (splitS s m).length = Lib.countB s (markB m) + 1 := Lib.splitB_all (markB m) (show 1 ≤ (markB m).size from Nat.le_refl 1) 0 _ s rfl
  rw [hlen]
  exact Any.strings_Split { laysSplit with } laysSplit.i9 s (markB m) b w hs hm (show 1 ≤ (markB m).size from Nat.le_refl 1)
end Go.Proofs.YtjmpldcnhjgpkaaGreatDoor

/-
  The lines of a text: both sides.
-/
namespace Go.Proofs.YtjmpldcnhjgpkaaGreatDoor
open Go.RowKit Mem Go.Shelf
set_option linter.unusedVariables false
set_option maxRecDepth 100000

theorem splitS_pos (s : ByteArray) (m : UInt8) : 1 ≤ (splitS s m).length := by
  rw [show (splitS s m).length = Lib.countB s (markB m) + 1 from Lib.splitB_all (markB m) (Nat.le_refl 1) 0 _ s rfl]; omega
theorem splitS_le (s : ByteArray) (m : UInt8) : (splitS s m).length ≤ s.size + 1 := by
  rw [show (splitS s m).length = Lib.countB s (markB m) + 1 from Lib.splitB_all (markB m) (Nat.le_refl 1) 0 _ s rfl]
  have := Lib.countB_le (markB m) (Nat.le_refl 1) s.size s (Nat.le_refl _)
  omega
set_option maxHeartbeats 1000000 in
theorem i_linesOf {s x : ByteArray} {b : Int} {w : World} (hs : s.size ≤ 1048576) (hm : w.cell? ⟨renSplit.g 1, 0, none⟩ = some (.int .i64 b)) (hx : (splitS s 10)[(splitS s 10).length - 1]? = some x) :
    Calls Tryz.prog 37 #[.string s] w fun e w' => e = .returned (.tuple #[.slice (some ⟨w.heap.size, 0, none⟩) ((splitS s 10).length - 1) (splitS s 10).length, .bool (decide (s.size ≤ 16000) && x.toList.isEmpty)]) ∧ Blk w' w.heap.size 9 ((splitS s 10).map Value.string).toArray ∧ Below w.heap.size w w' := by
  have hp := splitS_pos s 10
  have hle := splitS_le s 10
  have hblk := Blk.new w 9 ((splitS s 10).map Value.string).toArray
  have hcell : (w.alloc (.cells ((splitS s 10).map Value.string).toArray 9)).cell? ⟨w.heap.size, (splitS s 10).length - 1, none⟩ = some (.string x) := by
    rw [hblk.cell]; simp [hx]
  have Hblk := hide hblk
  clear hblk hx
  go_enter Tryz.func37, Tryz.ntmps37
  go_wp2_with fail
  refine (split_calls (m := 10) w (by omega) hm).mono ?_
  rintro e w1 ⟨rfl, hw1⟩
  have hb1 : Below w.heap.size w w1 := by rw [hw1]; exact (Below.refl _ _).alloc (Nat.le_refl _) _
  rw [← hw1] at hcell Hblk
  replace hw1 := hide hw1
  obtain ⟨n, hn⟩ : ∃ n, (splitS s 10).length = n + 1 := ⟨_, (Nat.succ_pred_eq_of_pos hp).symm⟩
  rw [hn] at hcell hle ⊢
  simp only [Nat.add_sub_cancel] at hcell ⊢
  replace hn := hide hn
  clear hp
  have hB : Below w.heap.size w w1 := hb1
  by_cases h16 : s.size ≤ 16000
  · have hi : (s.size : Int) ≤ 16000 := by omega
    have Hd : Hid (decide (s.size ≤ 16000) = true) := hide (decide_eq_true h16)
    clear h16
    go_wp2
    go_quiet (fail)
    go_wp2
    go_ret2
    exact ⟨by rw [Hd.out, hn.out]; rfl, Hblk.out.drewN _, below_drewN hB _⟩
  · have hi : decide ((s.size : Int) ≤ 16000) = false := decide_eq_false (by omega)
    have Hd : Hid (decide (s.size ≤ 16000) = false) := hide (decide_eq_false h16)
    clear h16
    go_wp2
    go_quiet (fail)
    go_wp2
    go_ret2
    exact ⟨by rw [Hd.out, hn.out]; rfl, Hblk.out.drewN _, below_drewN hB _⟩
end Go.Proofs.YtjmpldcnhjgpkaaGreatDoor

/-
  A row of strings of the call's own, cell by cell.
-/
namespace Go.Proofs.YtjmpldcnhjgpkaaGreatDoor
open Go.RowKit Mem
set_option linter.unusedVariables false

theorem row_of_own {w : World} {base m : Nat} {v : Value} {xs : List Value} (hm : 1 ≤ m) (h : w.ownsRow base 9 1 v m xs) : ∃ g cap, v = .slice (some ⟨g, 0, none⟩) m cap ∧ base ≤ g ∧ g < w.heap.size ∧ m ≤ cap ∧ ∀ j u, xs[j]? = some u → w.cell? ⟨g, j, none⟩ = some u := by
  obtain ⟨h1, h2⟩ := h
  rcases h2 with ⟨_, h2⟩ | ⟨g, cap, cur, rfl, hb, hg, hn, hc, hs, ht⟩
  · omega
  · refine ⟨g, cap, rfl, hb, (Array.getElem?_eq_some_iff.1 hg).1, hn, fun j u hu => ?_⟩
    rw [cell_of_row w g j cur _ _ hg]
    rw [← ht, List.getElem?_take] at hu
    split at hu
    · rwa [← Array.getElem?_toList]
    · cases hu
end Go.Proofs.YtjmpldcnhjgpkaaGreatDoor

/-
  ReadPlan: both sides.
-/
namespace Go.Proofs.YtjmpldcnhjgpkaaGreatDoor
open Go.RowKit Mem Go.Shelf
set_option linter.unusedVariables false
set_option maxRecDepth 100000

theorem results_row_tmp {P : Program} {fn : Func} {p u : Tmp} {ty : TypeId} (h : fn.results = #[.cell p ty, .tmp u]) (tmps : Array Value) (w : World) (g : Nat) (t : TypeId) (cs : Array Value) (fr : Nat × Nat) (d : TypeDesc)
    (hp : tmps.getD p undef = .pointer (some ⟨g, 0, none⟩)) (hg : w.heap[g]? = some (.cells cs t fr))
    (hu : P.underlying ty = some d) (hd : (match d with | .struct _ | .array _ _ => true | _ => false) = true) (hi : (P.info? ty).map (·.size) = some cs.size) :
    (results fn tmps).run P w = .ok (.tuple #[.agg cs, tmps.getD u undef]) w := by
  rw [results_cell_tmp h, hp]
  simp [asAddr, run_loadVar_row w g t ty cs fr d hg hu hd hi, Result.andThen]
def cutA (m : UInt8) (x : ByteArray) : ByteArray := ⟨(Lib.cut x.data.toList [m]).1.toArray⟩
def cutB (m : UInt8) (x : ByteArray) : ByteArray := ⟨(Lib.cut x.data.toList [m]).2.1.toArray⟩
def cutF (m : UInt8) (x : ByteArray) : Bool := (Lib.cut x.data.toList [m]).2.2
theorem cutS_calls {s : ByteArray} {b : Int} {m : UInt8} {w : World} (hs : s.size < 4294967281) (hm : w.cell? ⟨renCutF.g 1, 0, none⟩ = some (.int .i64 b)) :
    Calls Tryz.prog 176 #[.string s, .string ⟨#[m]⟩] w fun e w' => e = .returned (.tuple #[.string (cutA m s), .string (cutB m s), .bool (cutF m s)]) ∧ ∃ n, w' = w.drewN n :=
  Any.strings_Cut { laysCutF with } s ⟨#[m]⟩ b w hs hm
theorem cutB_size (m : UInt8) (x : ByteArray) : (cutB m x).size ≤ x.size := by
  show (Lib.cut x.data.toList [m]).2.1.toArray.size ≤ x.size
  rw [List.size_toArray]
  have hl : x.data.toList.length = x.size := Array.length_toList
  unfold Lib.cut
  split
  · simp; try omega
  · simp
theorem cutA_size (m : UInt8) (x : ByteArray) : (cutA m x).size ≤ x.size := by
  show (Lib.cut x.data.toList [m]).1.toArray.size ≤ x.size
  rw [List.size_toArray]
  have hl : x.data.toList.length = x.size := Array.length_toList
  unfold Lib.cut
  split
  · simp; try omega
  · simp; try omega
/-- A text cut once, and cut everywhere. -/
theorem cut_split (m : UInt8) (x : ByteArray) : (cutF m x = false ∧ splitS x m = [x]) ∨ (cutF m x = true ∧ splitS x m = cutA m x :: splitS (cutB m x) m) := by
  have hl : x.data.toList.length = x.size := Array.length_toList
  rcases indexByte_cases m x.data.toList with ⟨_, hm⟩ | ⟨j, _, hj, hn⟩
  · refine .inl ⟨?_, splitS_miss hm⟩
    unfold cutF Lib.cut
    rw [index_miss _ hm]; rfl
  · have hi := index_hit _ _ hj hn
    have hc : Lib.cut x.data.toList [m] = (x.data.toList.take j, x.data.toList.drop (j + 1), true) := by
      unfold Lib.cut
      rw [hi, if_pos (by omega)]; rfl
    have hjx : j < x.size := by rw [← hl]; exact (List.getElem?_eq_some_iff.1 hj).1
    refine .inr ⟨by unfold cutF; rw [hc], ?_⟩
    rw [splitS_hit hj hn]
    congr 1
    · apply ba_ext
      unfold cutA; rw [hc, Lib.extract_data]
      simp
    · congr 1
      apply ba_ext
      unfold cutB; rw [hc, Lib.extract_data]
      simp only [List.take_of_length_le (show (x.data.toList.drop (j + 1)).length ≤ x.size - (j + 1) by simp; try omega)]
theorem split_has {m : UInt8} {x : ByteArray} (h : 2 ≤ (splitS x m).length) : m ∈ x.data.toList := by
  rcases indexByte_cases m x.data.toList with ⟨_, hm⟩ | ⟨j, _, hj, hn⟩
  · rw [splitS_miss hm] at h; simp at h
  · exact List.mem_of_getElem? hj
theorem valV_plain {s : ByteArray} {n : Int} (h : valV s = some n) : ∀ b ∈ s.data.toList, b = 45 ∨ (48 ≤ b.toNat ∧ b.toNat ≤ 57) := by
  obtain ⟨_, rfl⟩ := valV_iff.1 h
  intro b hb
  rw [show (numS n).data.toList = Lib.itoa n from rfl, itoa_of] at hb
  split at hb
  · rcases List.mem_cons.1 hb with h | h
    · exact .inl h
    · exact .inr (dec_head _ b h)
  · exact .inr (dec_head _ b hb)
theorem valV_split {s : ByteArray} {n : Int} {m : UInt8} (hm : m ≠ 45 ∧ (m.toNat < 48 ∨ 57 < m.toNat)) (h : valV s = some n) : splitS s m = [s] := by
  refine splitS_miss (fun i hi => ?_)
  rcases valV_plain h m (List.mem_of_getElem? hi) with h1 | h1
  · exact hm.1 h1
  · omega
/-- The plan with a text. -/
def planV (t : ByteArray) : Option (Int × Int) :=
  match splitS t 47 with
  | [A, B] => match valV A, valV B with
    | some a, some b => if planOkT a b = true then some (a, b) else none
    | _, _ => none
  | _ => none
def planRes (o : Option (Int × Int)) : Value := .tuple #[.agg #[.int .i64 ((o.map (·.1)).getD 0), .int .i64 ((o.map (·.2)).getD 0)], .bool o.isSome]
theorem planV_two {t A B : ByteArray} (h : splitS t 47 = [A, B]) {a b : Int} (ha : valV A = some a) (hb : valV B = some b) : planV t = if planOkT a b = true then some (a, b) else none := by
  unfold planV; rw [h]; simp only [ha, hb]
theorem planV_no1 {t A B : ByteArray} (h : splitS t 47 = [A, B]) (ha : valV A = none) : planV t = none := by
  unfold planV; rw [h]; simp only [ha]
theorem planV_no2 {t A B : ByteArray} (h : splitS t 47 = [A, B]) (ha : valV B = none) : planV t = none := by
  unfold planV; rw [h]; simp only [ha]; cases valV A <;> rfl
theorem planV_len {t : ByteArray} (h : (splitS t 47).length ≠ 2) : planV t = none := by
  unfold planV
  split
  · rename_i h2; rw [h2] at h; simp at h
  · rfl
/-- So does the program see it. -/
theorem planV_cut (t : ByteArray) : planV t = if cutF 47 t = true then (match valV (cutA 47 t), valV (cutB 47 t) with
    | some a, some b => if planOkT a b = true then some (a, b) else none
    | _, _ => none) else none := by
  rcases cut_split 47 t with ⟨h1, h2⟩ | ⟨h1, h2⟩
  · rw [h1]; exact planV_len (by rw [h2]; simp)
  · rw [h1, if_pos rfl]
    cases hB : valV (cutB 47 t) with
    | some b =>
      have h3 : splitS t 47 = [cutA 47 t, cutB 47 t] := by rw [h2, valV_split (by decide) hB]
      cases hA : valV (cutA 47 t) with
      | some a => exact planV_two h3 hA hB
      | none => exact planV_no1 h3 hA
    | none =>
      have hr : (match valV (cutA 47 t), (none : Option Int) with
        | some a, some b => if planOkT a b = true then some (a, b) else none
        | _, _ => none) = none := by cases valV (cutA 47 t) <;> rfl
      rw [hr]
      by_cases hl : (splitS t 47).length = 2
      · rw [h2] at hl
        have hl2 : (splitS (cutB 47 t) 47).length = 1 := by simpa using hl
        rcases cut_split 47 (cutB 47 t) with ⟨_, h4⟩ | ⟨_, h4⟩
        · exact planV_no2 (by rw [h2, h4]) hB
        · rw [h4] at hl2
          have := splitS_pos (cutB 47 (cutB 47 t)) 47
          rw [List.length_cons] at hl2; omega
      · exact planV_len hl
set_option maxHeartbeats 4000000 in
theorem i_ReadPlan {t : ByteArray} {bm : Int} {w : World} (hs : t.size ≤ 1048576) (hm : w.cell? ⟨renCutF.g 1, 0, none⟩ = some (.int .i64 bm)) (he : Errs w) (htab : Lib.TabIs Tryz.prog w "internal/strconv.uint64pow10" .u64 Lib.pow10Tab) :
    Calls Tryz.prog 149 #[.string t] w fun e w' => e = .returned (planRes (planV t)) ∧ Below w.heap.size w w' := by
  have hmlt := Go.Clock.block_lt hm
  have hA := cutA_size 47 t
  have hB := cutB_size 47 t
  have HP := hide (planV_cut t)
  go_enter Tryz.func149, Tryz.ntmps149
  go_wp2_with fail
  refine (cutS_calls (m := 47) (by omega) ((World.cell?_alloc_lt _ _ _ hmlt).trans hm)).mono ?_
  rintro e w1 ⟨rfl, q, rfl⟩
  have bel1 : Below w.heap.size w ((w.alloc (.cells #[.int .i64 0, .int .i64 0] 32)).drewN q) := below_drewN ((Below.refl _ _).alloc (Nat.le_refl _) _) q
  have blk1 : Blk ((w.alloc (.cells #[.int .i64 0, .int .i64 0] 32)).drewN q) w.heap.size 32 #[.int .i64 0, .int .i64 0] := Blk.new _ _ _
  generalize (w.alloc (.cells #[.int .i64 0, .int .i64 0] 32)).drewN q = w1 at *
  have he1 := he.below bel1
  have htab1 := pow_kept htab bel1
  clear he htab hm hmlt
  cases hcf : cutF 47 t with
  | false =>
    have HR := hide (show planV t = none by rw [HP.out, hcf]; rfl)
    go_wp2_with fail
    refine (i_ReadDecimal (s := cutA 47 t) (by omega) he1 htab1).mono ?_
    rintro e w2 ⟨rfl, hb2⟩
    have blk2 := blk1.below hb2 blk1.lt
    have bel2 := bel1.trans (hb2.mono bel1.size)
    have he2 := he1.below hb2
    have htab2 := pow_kept htab1 hb2
    clear hb2 blk1 bel1 he1 htab1
    rw [show rdV (cutA 47 t) = .tuple #[.int .i64 ((valV (cutA 47 t)).getD 0), .bool (valV (cutA 47 t)).isSome] from rfl]
    go_wp2_with fail
    refine (i_ReadDecimal (s := cutB 47 t) (by omega) he2 htab2).mono ?_
    rintro e w3 ⟨rfl, hb3⟩
    have blk3 := blk2.below hb3 blk2.lt
    have bel3 := bel2.trans (hb3.mono bel2.size)
    have hlt3 := blk3.lt
    have q0 := blk3.cell 0
    have q1 := blk3.cell 1
    have f0 := blk3.frozen 0
    have f1 := blk3.frozen 1
    rw [show rdV (cutB 47 t) = .tuple #[.int .i64 ((valV (cutB 47 t)).getD 0), .bool (valV (cutB 47 t)).isSome] from rfl]
    clear hb3 blk2 bel2 he2 htab2
    generalize (valV (cutA 47 t)).getD 0 = a
    generalize (valV (cutB 47 t)).getD 0 = b
    generalize (valV (cutA 47 t)).isSome = oa
    generalize (valV (cutB 47 t)).isSome = ob
    go_wp2
    refine bodyPost_ret (results_row_tmp (P := Tryz.prog) rfl _ _ w.heap.size 32 #[.int .i64 0, .int .i64 0] (0, 0) _ rfl (((blk3.set_ 0 _).set_ 1 _).alloc _) Tryz.underlying32 rfl (by kernel_rfl)) rfl ?_
    exact ⟨by rw [HR.out]; rfl, ((bel3.setCell (Nat.le_refl _) _).setCell (Nat.le_refl _) _).alloc (by simpa using bel3.size) _⟩
  | true =>
    cases hva : valV (cutA 47 t) with
    | none =>
      have HR := hide (show planV t = none by rw [HP.out, hcf, hva]; rfl)
      go_wp2_with fail
      refine (i_ReadDecimal (s := cutA 47 t) (by omega) he1 htab1).mono ?_
      rintro e w2 ⟨rfl, hb2⟩
      have blk2 := blk1.below hb2 blk1.lt
      have bel2 := bel1.trans (hb2.mono bel1.size)
      have he2 := he1.below hb2
      have htab2 := pow_kept htab1 hb2
      clear hb2 blk1 bel1 he1 htab1
      rw [rdV_none hva]
      go_wp2_with fail
      refine (i_ReadDecimal (s := cutB 47 t) (by omega) he2 htab2).mono ?_
      rintro e w3 ⟨rfl, hb3⟩
      have blk3 := blk2.below hb3 blk2.lt
      have bel3 := bel2.trans (hb3.mono bel2.size)
      have hlt3 := blk3.lt
      have q0 := blk3.cell 0
      have q1 := blk3.cell 1
      have f0 := blk3.frozen 0
      have f1 := blk3.frozen 1
      rw [show rdV (cutB 47 t) = .tuple #[.int .i64 ((valV (cutB 47 t)).getD 0), .bool (valV (cutB 47 t)).isSome] from rfl]
      clear hb3 blk2 bel2 he2 htab2
      generalize (valV (cutB 47 t)).getD 0 = b
      generalize (valV (cutB 47 t)).isSome = ob
      go_wp2
      refine bodyPost_ret (results_row_tmp (P := Tryz.prog) rfl _ _ w.heap.size 32 #[.int .i64 0, .int .i64 0] (0, 0) _ rfl (((blk3.set_ 0 _).set_ 1 _).alloc _) Tryz.underlying32 rfl (by kernel_rfl)) rfl ?_
      exact ⟨by rw [HR.out]; rfl, ((bel3.setCell (Nat.le_refl _) _).setCell (Nat.le_refl _) _).alloc (by simpa using bel3.size) _⟩
    | some a =>
      cases hvb : valV (cutB 47 t) with
      | none =>
        have HR := hide (show planV t = none by rw [HP.out, hcf, hva, hvb]; rfl)
        go_wp2_with fail
        refine (i_ReadDecimal (s := cutA 47 t) (by omega) he1 htab1).mono ?_
        rintro e w2 ⟨rfl, hb2⟩
        have blk2 := blk1.below hb2 blk1.lt
        have bel2 := bel1.trans (hb2.mono bel1.size)
        have he2 := he1.below hb2
        have htab2 := pow_kept htab1 hb2
        clear hb2 blk1 bel1 he1 htab1
        rw [rdV_some hva]
        go_wp2_with fail
        refine (i_ReadDecimal (s := cutB 47 t) (by omega) he2 htab2).mono ?_
        rintro e w3 ⟨rfl, hb3⟩
        have blk3 := blk2.below hb3 blk2.lt
        have bel3 := bel2.trans (hb3.mono bel2.size)
        have hlt3 := blk3.lt
        have q0 := blk3.cell 0
        have q1 := blk3.cell 1
        have f0 := blk3.frozen 0
        have f1 := blk3.frozen 1
        rw [rdV_none hvb]
        clear hb3 blk2 bel2 he2 htab2
        go_wp2
        refine bodyPost_ret (results_row_tmp (P := Tryz.prog) rfl _ _ w.heap.size 32 #[.int .i64 0, .int .i64 0] (0, 0) _ rfl (((blk3.set_ 0 _).set_ 1 _).alloc _) Tryz.underlying32 rfl (by kernel_rfl)) rfl ?_
        exact ⟨by rw [HR.out]; rfl, ((bel3.setCell (Nat.le_refl _) _).setCell (Nat.le_refl _) _).alloc (by simpa using bel3.size) _⟩
      | some b =>
        go_wp2_with fail
        refine (i_ReadDecimal (s := cutA 47 t) (by omega) he1 htab1).mono ?_
        rintro e w2 ⟨rfl, hb2⟩
        have blk2 := blk1.below hb2 blk1.lt
        have bel2 := bel1.trans (hb2.mono bel1.size)
        have he2 := he1.below hb2
        have htab2 := pow_kept htab1 hb2
        clear hb2 blk1 bel1 he1 htab1
        rw [rdV_some hva]
        go_wp2_with fail
        refine (i_ReadDecimal (s := cutB 47 t) (by omega) he2 htab2).mono ?_
        rintro e w3 ⟨rfl, hb3⟩
        have blk3 := blk2.below hb3 blk2.lt
        have bel3 := bel2.trans (hb3.mono bel2.size)
        have hlt3 := blk3.lt
        have q0 := blk3.cell 0
        have q1 := blk3.cell 1
        have f0 := blk3.frozen 0
        have f1 := blk3.frozen 1
        rw [rdV_some hvb]
        clear hb3 blk2 bel2 he2 htab2
        cases hok : planOkT a b with
        | false =>
          have HR := hide (show planV t = none by rw [HP.out, hcf, hva, hvb, if_pos rfl]; simp only []; rw [if_neg (by rw [hok]; decide)])
          go_wp2_with fail
          refine i_ValidPlanT.mono ?_
          rintro e w4 ⟨rfl, hb4⟩
          rw [hok]
          have bel4 := (bel3.alloc (Nat.le_of_lt hlt3) (.cells #[.int .i64 a, .int .i64 b] 32)).trans (hb4.mono (by simp; omega))
          have blk4 := (blk3.alloc (.cells #[.int .i64 a, .int .i64 b] 32)).below hb4 (by simp; omega)
          have r0 := blk4.cell 0
          have r1 := blk4.cell 1
          have r2 := blk4.frozen 0
          have r3 := blk4.frozen 1
          clear hb4 blk3 bel3 q0 q1 f0 f1
          go_wp2
          refine bodyPost_ret (results_row_tmp (P := Tryz.prog) rfl _ _ w.heap.size 32 #[.int .i64 0, .int .i64 0] (0, 0) _ rfl ((blk4.set_ 0 _).set_ 1 _) Tryz.underlying32 rfl (by kernel_rfl)) rfl ?_
          exact ⟨by rw [HR.out]; rfl, (bel4.setCell (Nat.le_refl _) _).setCell (Nat.le_refl _) _⟩
        | true =>
          have HR := hide (show planV t = some (a, b) by rw [HP.out, hcf, hva, hvb, if_pos rfl]; simp only []; rw [if_pos hok])
          go_wp2_with fail
          refine i_ValidPlanT.mono ?_
          rintro e w4 ⟨rfl, hb4⟩
          rw [hok]
          have bel4 := (bel3.alloc (Nat.le_of_lt hlt3) (.cells #[.int .i64 a, .int .i64 b] 32)).trans (hb4.mono (by simp; omega))
          have blk4 := (blk3.alloc (.cells #[.int .i64 a, .int .i64 b] 32)).below hb4 (by simp; omega)
          have blp4 := (Blk.new w3 32 #[.int .i64 a, .int .i64 b]).below hb4 (by simp)
          have r0 := blk4.cell 0
          have r1 := blk4.cell 1
          have r2 := blk4.frozen 0
          have r3 := blk4.frozen 1
          have p0 := blp4.cell 0
          have p1 := blp4.cell 1
          clear hb4 blk3 bel3 q0 q1 f0 f1
          go_wp2
          refine bodyPost_ret (results_row_tmp (P := Tryz.prog) rfl _ _ w.heap.size 32 #[.int .i64 a, .int .i64 b] (0, 0) _ rfl ((blk4.set_ 0 _).set_ 1 _) Tryz.underlying32 rfl (by kernel_rfl)) rfl ?_
          exact ⟨by rw [HR.out]; rfl, (bel4.setCell (Nat.le_refl _) _).setCell (Nat.le_refl _) _⟩
end Go.Proofs.YtjmpldcnhjgpkaaGreatDoor
