/-
  ReadPlan: both sides.
-/
import Derived.Test.YtnpccnhamohnkaaGreatDoorValS
import Derived.Test.YtnpccnhamohnkaaGreatDoorLines
import Derived.Test.YtnpccnhamohnkaaGreatDoorRow
import Derived.Laws.ResultCell
namespace Go.Proofs.YtnpccnhamohnkaaGreatDoor
open Go.RowKit Mem Go.Shelf
set_option linter.unusedVariables false
set_option maxRecDepth 100000

theorem results_row_tmp {P : Program} {fn : Func} {p u : Tmp} {ty : TypeId} (h : fn.results = #[.cell p ty, .tmp u]) (tmps : Array Value) (w : World) (g : Nat) (t : TypeId) (cs : Array Value) (fr : Nat × Nat) (d : TypeDesc)
    (hp : tmps.getD p undef = .pointer (some ⟨g, 0, none⟩)) (hg : w.heap[g]? = some (.cells cs t fr))
    (hu : P.underlying ty = some d) (hd : (match d with | .struct _ | .array _ _ => true | _ => false) = true) (hi : (P.info? ty).map (·.size) = some cs.size) :
    (results fn tmps).run P w = .ok (.tuple #[.agg cs, tmps.getD u undef]) w := by
  rw [results_cell_tmp h, hp]
  simp [asAddr, run_loadVar_row w g t ty cs fr d hg hu hd hi, Result.andThen]
def cutA (m : UInt8) (x : ByteArray) : ByteArray := ⟨(Lib.cut x.data.toList [m]).1.toArray⟩
def cutB (m : UInt8) (x : ByteArray) : ByteArray := ⟨(Lib.cut x.data.toList [m]).2.1.toArray⟩
def cutF (m : UInt8) (x : ByteArray) : Bool := (Lib.cut x.data.toList [m]).2.2
theorem cutS_calls {s : ByteArray} {b : Int} {m : UInt8} {w : World} (hs : s.size < 4294967281) (hm : w.cell? ⟨renCutF.g 1, 0, none⟩ = some (.int .i64 b)) :
    Calls Tryz.prog 54 #[.string s, .string ⟨#[m]⟩] w fun e w' => e = .returned (.tuple #[.string (cutA m s), .string (cutB m s), .bool (cutF m s)]) ∧ ∃ n, w' = w.drewN n :=
  Any.strings_Cut { laysCutF with } s ⟨#[m]⟩ b w hs hm
theorem cutB_size (m : UInt8) (x : ByteArray) : (cutB m x).size ≤ x.size := by
  show (Lib.cut x.data.toList [m]).2.1.toArray.size ≤ x.size
  rw [List.size_toArray]
  have hl : x.data.toList.length = x.size := Array.length_toList
  unfold Lib.cut
  split
  · simp; try omega
  · simp
theorem cutA_size (m : UInt8) (x : ByteArray) : (cutA m x).size ≤ x.size := by
  show (Lib.cut x.data.toList [m]).1.toArray.size ≤ x.size
  rw [List.size_toArray]
  have hl : x.data.toList.length = x.size := Array.length_toList
  unfold Lib.cut
  split
  · simp; try omega
  · simp; try omega
/-- A text cut once, and cut everywhere. -/
theorem cut_split (m : UInt8) (x : ByteArray) : (cutF m x = false ∧ splitS x m = [x]) ∨ (cutF m x = true ∧ splitS x m = cutA m x :: splitS (cutB m x) m) := by
  have hl : x.data.toList.length = x.size := Array.length_toList
  rcases indexByte_cases m x.data.toList with ⟨_, hm⟩ | ⟨j, _, hj, hn⟩
  · refine .inl ⟨?_, splitS_miss hm⟩
    unfold cutF Lib.cut
    rw [index_miss _ hm]; rfl
  · have hi := index_hit _ _ hj hn
    have hc : Lib.cut x.data.toList [m] = (x.data.toList.take j, x.data.toList.drop (j + 1), true) := by
      unfold Lib.cut
      rw [hi, if_pos (by omega)]; rfl
    have hjx : j < x.size := by rw [← hl]; exact (List.getElem?_eq_some_iff.1 hj).1
    refine .inr ⟨by unfold cutF; rw [hc], ?_⟩
    rw [splitS_hit hj hn]
    congr 1
    · apply ba_ext
      unfold cutA; rw [hc, Lib.extract_data]
      simp
    · congr 1
      apply ba_ext
      unfold cutB; rw [hc, Lib.extract_data]
      simp only [List.take_of_length_le (show (x.data.toList.drop (j + 1)).length ≤ x.size - (j + 1) by simp; try omega)]
theorem split_has {m : UInt8} {x : ByteArray} (h : 2 ≤ (splitS x m).length) : m ∈ x.data.toList := by
  rcases indexByte_cases m x.data.toList with ⟨_, hm⟩ | ⟨j, _, hj, hn⟩
  · rw [splitS_miss hm] at h; simp at h
  · exact List.mem_of_getElem? hj
theorem valV_plain {s : ByteArray} {n : Int} (h : valV s = some n) : ∀ b ∈ s.data.toList, b = 45 ∨ (48 ≤ b.toNat ∧ b.toNat ≤ 57) := by
  obtain ⟨_, rfl⟩ := valV_iff.1 h
  intro b hb
  rw [show (numS n).data.toList = Lib.itoa n from rfl, itoa_of] at hb
  split at hb
  · rcases List.mem_cons.1 hb with h | h
    · exact .inl h
    · exact .inr (dec_head _ b h)
  · exact .inr (dec_head _ b hb)
theorem valV_split {s : ByteArray} {n : Int} {m : UInt8} (hm : m ≠ 45 ∧ (m.toNat < 48 ∨ 57 < m.toNat)) (h : valV s = some n) : splitS s m = [s] := by
  refine splitS_miss (fun i hi => ?_)
  rcases valV_plain h m (List.mem_of_getElem? hi) with h1 | h1
  · exact hm.1 h1
  · omega
/-- The plan with a text. -/
def planV (t : ByteArray) : Option (Int × Int) :=
  match splitS t 47 with
  | [A, B] => match valV A, valV B with
    | some a, some b => if planOkT a b = true then some (a, b) else none
    | _, _ => none
  | _ => none
def planRes (o : Option (Int × Int)) : Value := .tuple #[.agg #[.int .i64 ((o.map (·.1)).getD 0), .int .i64 ((o.map (·.2)).getD 0)], .bool o.isSome]
theorem planV_two {t A B : ByteArray} (h : splitS t 47 = [A, B]) {a b : Int} (ha : valV A = some a) (hb : valV B = some b) : planV t = if planOkT a b = true then some (a, b) else none := by
  unfold planV; rw [h]; simp only [ha, hb]
theorem planV_no1 {t A B : ByteArray} (h : splitS t 47 = [A, B]) (ha : valV A = none) : planV t = none := by
  unfold planV; rw [h]; simp only [ha]
theorem planV_no2 {t A B : ByteArray} (h : splitS t 47 = [A, B]) (ha : valV B = none) : planV t = none := by
  unfold planV; rw [h]; simp only [ha]; cases valV A <;> rfl
theorem planV_len {t : ByteArray} (h : (splitS t 47).length ≠ 2) : planV t = none := by
  unfold planV
  split
  · rename_i h2; rw [h2] at h; simp at h
  · rfl
/-- So does the program see it. -/
theorem planV_cut (t : ByteArray) : planV t = if cutF 47 t = true then (match valV (cutA 47 t), valV (cutB 47 t) with
    | some a, some b => if planOkT a b = true then some (a, b) else none
    | _, _ => none) else none := by
  rcases cut_split 47 t with ⟨h1, h2⟩ | ⟨h1, h2⟩
  · rw [h1]; exact planV_len (by rw [h2]; simp)
  · rw [h1, if_pos rfl]
    cases hB : valV (cutB 47 t) with
    | some b =>
      have h3 : splitS t 47 = [cutA 47 t, cutB 47 t] := by rw [h2, valV_split (by decide) hB]
      cases hA : valV (cutA 47 t) with
      | some a => exact planV_two h3 hA hB
      | none => exact planV_no1 h3 hA
    | none =>
      have hr : (match valV (cutA 47 t), (none : Option Int) with
        | some a, some b => if planOkT a b = true then some (a, b) else none
        | _, _ => none) = none := by cases valV (cutA 47 t) <;> rfl
      rw [hr]
      by_cases hl : (splitS t 47).length = 2
      · rw [h2] at hl
        have hl2 : (splitS (cutB 47 t) 47).length = 1 := by simpa using hl
        rcases cut_split 47 (cutB 47 t) with ⟨_, h4⟩ | ⟨_, h4⟩
        · exact planV_no2 (by rw [h2, h4]) hB
        · rw [h4] at hl2
          have := splitS_pos (cutB 47 (cutB 47 t)) 47
          rw [List.length_cons] at hl2; omega
      · exact planV_len hl
set_option maxHeartbeats 4000000 in
theorem i_ReadPlan {t : ByteArray} {bm : Int} {w : World} (hs : t.size ≤ 1048576) (hm : w.cell? ⟨renCutF.g 1, 0, none⟩ = some (.int .i64 bm)) (he : Errs w) (htab : Lib.TabIs Tryz.prog w "internal/strconv.uint64pow10" .u64 Lib.pow10Tab) :
    Calls Tryz.prog 232 #[.string t] w fun e w' => e = .returned (planRes (planV t)) ∧ Below w.heap.size w w' := by
  have hmlt := Go.Clock.block_lt hm
  have hA := cutA_size 47 t
  have hB := cutB_size 47 t
  have HP := hide (planV_cut t)
  go_enter Tryz.func232, Tryz.ntmps232
  go_wp2_with fail
  refine (cutS_calls (m := 47) (by omega) ((World.cell?_alloc_lt _ _ _ hmlt).trans hm)).mono ?_
  rintro e w1 ⟨rfl, q, rfl⟩
  have bel1 : Below w.heap.size w ((w.alloc (.cells #[.int .i64 0, .int .i64 0] 41)).drewN q) := below_drewN ((Below.refl _ _).alloc (Nat.le_refl _) _) q
  have blk1 : Blk ((w.alloc (.cells #[.int .i64 0, .int .i64 0] 41)).drewN q) w.heap.size 41 #[.int .i64 0, .int .i64 0] := Blk.new _ _ _
  generalize (w.alloc (.cells #[.int .i64 0, .int .i64 0] 41)).drewN q = w1 at *
  have he1 := he.below bel1
  have htab1 := pow_kept htab bel1
  clear he htab hm hmlt
  cases hcf : cutF 47 t with
  | false =>
    have HR := hide (show planV t = none by rw [HP.out, hcf]; rfl)
    go_wp2_with fail
    refine (i_ReadDecimal (s := cutA 47 t) (by omega) he1 htab1).mono ?_
    rintro e w2 ⟨rfl, hb2⟩
    have blk2 := blk1.below hb2 blk1.lt
    have bel2 := bel1.trans (hb2.mono bel1.size)
    have he2 := he1.below hb2
    have htab2 := pow_kept htab1 hb2
    clear hb2 blk1 bel1 he1 htab1
    rw [show rdV (cutA 47 t) = .tuple #[.int .i64 ((valV (cutA 47 t)).getD 0), .bool (valV (cutA 47 t)).isSome] from rfl]
    go_wp2_with fail
    refine (i_ReadDecimal (s := cutB 47 t) (by omega) he2 htab2).mono ?_
    rintro e w3 ⟨rfl, hb3⟩
    have blk3 := blk2.below hb3 blk2.lt
    have bel3 := bel2.trans (hb3.mono bel2.size)
    have hlt3 := blk3.lt
    have q0 := blk3.cell 0
    have q1 := blk3.cell 1
    have f0 := blk3.frozen 0
    have f1 := blk3.frozen 1
    rw [show rdV (cutB 47 t) = .tuple #[.int .i64 ((valV (cutB 47 t)).getD 0), .bool (valV (cutB 47 t)).isSome] from rfl]
    clear hb3 blk2 bel2 he2 htab2
    generalize (valV (cutA 47 t)).getD 0 = a
    generalize (valV (cutB 47 t)).getD 0 = b
    generalize (valV (cutA 47 t)).isSome = oa
    generalize (valV (cutB 47 t)).isSome = ob
    go_wp2
    refine bodyPost_ret (results_row_tmp (P := Tryz.prog) rfl _ _ w.heap.size 41 #[.int .i64 0, .int .i64 0] (0, 0) _ rfl (((blk3.set_ 0 _).set_ 1 _).alloc _) Tryz.underlying41 rfl (by kernel_rfl)) rfl ?_
    exact ⟨by rw [HR.out]; rfl, ((bel3.setCell (Nat.le_refl _) _).setCell (Nat.le_refl _) _).alloc (by simpa using bel3.size) _⟩
  | true =>
    cases hva : valV (cutA 47 t) with
    | none =>
      have HR := hide (show planV t = none by rw [HP.out, hcf, hva]; rfl)
      go_wp2_with fail
      refine (i_ReadDecimal (s := cutA 47 t) (by omega) he1 htab1).mono ?_
      rintro e w2 ⟨rfl, hb2⟩
      have blk2 := blk1.below hb2 blk1.lt
      have bel2 := bel1.trans (hb2.mono bel1.size)
      have he2 := he1.below hb2
      have htab2 := pow_kept htab1 hb2
      clear hb2 blk1 bel1 he1 htab1
      rw [rdV_none hva]
      go_wp2_with fail
      refine (i_ReadDecimal (s := cutB 47 t) (by omega) he2 htab2).mono ?_
      rintro e w3 ⟨rfl, hb3⟩
      have blk3 := blk2.below hb3 blk2.lt
      have bel3 := bel2.trans (hb3.mono bel2.size)
      have hlt3 := blk3.lt
      have q0 := blk3.cell 0
      have q1 := blk3.cell 1
      have f0 := blk3.frozen 0
      have f1 := blk3.frozen 1
      rw [show rdV (cutB 47 t) = .tuple #[.int .i64 ((valV (cutB 47 t)).getD 0), .bool (valV (cutB 47 t)).isSome] from rfl]
      clear hb3 blk2 bel2 he2 htab2
      generalize (valV (cutB 47 t)).getD 0 = b
      generalize (valV (cutB 47 t)).isSome = ob
      go_wp2
      refine bodyPost_ret (results_row_tmp (P := Tryz.prog) rfl _ _ w.heap.size 41 #[.int .i64 0, .int .i64 0] (0, 0) _ rfl (((blk3.set_ 0 _).set_ 1 _).alloc _) Tryz.underlying41 rfl (by kernel_rfl)) rfl ?_
      exact ⟨by rw [HR.out]; rfl, ((bel3.setCell (Nat.le_refl _) _).setCell (Nat.le_refl _) _).alloc (by simpa using bel3.size) _⟩
    | some a =>
      cases hvb : valV (cutB 47 t) with
      | none =>
        have HR := hide (show planV t = none by rw [HP.out, hcf, hva, hvb]; rfl)
        go_wp2_with fail
        refine (i_ReadDecimal (s := cutA 47 t) (by omega) he1 htab1).mono ?_
        rintro e w2 ⟨rfl, hb2⟩
        have blk2 := blk1.below hb2 blk1.lt
        have bel2 := bel1.trans (hb2.mono bel1.size)
        have he2 := he1.below hb2
        have htab2 := pow_kept htab1 hb2
        clear hb2 blk1 bel1 he1 htab1
        rw [rdV_some hva]
        go_wp2_with fail
        refine (i_ReadDecimal (s := cutB 47 t) (by omega) he2 htab2).mono ?_
        rintro e w3 ⟨rfl, hb3⟩
        have blk3 := blk2.below hb3 blk2.lt
        have bel3 := bel2.trans (hb3.mono bel2.size)
        have hlt3 := blk3.lt
        have q0 := blk3.cell 0
        have q1 := blk3.cell 1
        have f0 := blk3.frozen 0
        have f1 := blk3.frozen 1
        rw [rdV_none hvb]
        clear hb3 blk2 bel2 he2 htab2
        go_wp2
        refine bodyPost_ret (results_row_tmp (P := Tryz.prog) rfl _ _ w.heap.size 41 #[.int .i64 0, .int .i64 0] (0, 0) _ rfl (((blk3.set_ 0 _).set_ 1 _).alloc _) Tryz.underlying41 rfl (by kernel_rfl)) rfl ?_
        exact ⟨by rw [HR.out]; rfl, ((bel3.setCell (Nat.le_refl _) _).setCell (Nat.le_refl _) _).alloc (by simpa using bel3.size) _⟩
      | some b =>
        go_wp2_with fail
        refine (i_ReadDecimal (s := cutA 47 t) (by omega) he1 htab1).mono ?_
        rintro e w2 ⟨rfl, hb2⟩
        have blk2 := blk1.below hb2 blk1.lt
        have bel2 := bel1.trans (hb2.mono bel1.size)
        have he2 := he1.below hb2
        have htab2 := pow_kept htab1 hb2
        clear hb2 blk1 bel1 he1 htab1
        rw [rdV_some hva]
        go_wp2_with fail
        refine (i_ReadDecimal (s := cutB 47 t) (by omega) he2 htab2).mono ?_
        rintro e w3 ⟨rfl, hb3⟩
        have blk3 := blk2.below hb3 blk2.lt
        have bel3 := bel2.trans (hb3.mono bel2.size)
        have hlt3 := blk3.lt
        have q0 := blk3.cell 0
        have q1 := blk3.cell 1
        have f0 := blk3.frozen 0
        have f1 := blk3.frozen 1
        rw [rdV_some hvb]
        clear hb3 blk2 bel2 he2 htab2
        cases hok : planOkT a b with
        | false =>
          have HR := hide (show planV t = none by rw [HP.out, hcf, hva, hvb, if_pos rfl]; simp only []; rw [if_neg (by rw [hok]; decide)])
          go_wp2_with fail
          refine i_ValidPlanT.mono ?_
          rintro e w4 ⟨rfl, hb4⟩
          rw [hok]
          have bel4 := (bel3.alloc (Nat.le_of_lt hlt3) (.cells #[.int .i64 a, .int .i64 b] 41)).trans (hb4.mono (by simp; omega))
          have blk4 := (blk3.alloc (.cells #[.int .i64 a, .int .i64 b] 41)).below hb4 (by simp; omega)
          have r0 := blk4.cell 0
          have r1 := blk4.cell 1
          have r2 := blk4.frozen 0
          have r3 := blk4.frozen 1
          clear hb4 blk3 bel3 q0 q1 f0 f1
          go_wp2
          refine bodyPost_ret (results_row_tmp (P := Tryz.prog) rfl _ _ w.heap.size 41 #[.int .i64 0, .int .i64 0] (0, 0) _ rfl ((blk4.set_ 0 _).set_ 1 _) Tryz.underlying41 rfl (by kernel_rfl)) rfl ?_
          exact ⟨by rw [HR.out]; rfl, (bel4.setCell (Nat.le_refl _) _).setCell (Nat.le_refl _) _⟩
        | true =>
          have HR := hide (show planV t = some (a, b) by rw [HP.out, hcf, hva, hvb, if_pos rfl]; simp only []; rw [if_pos hok])
          go_wp2_with fail
          refine i_ValidPlanT.mono ?_
          rintro e w4 ⟨rfl, hb4⟩
          rw [hok]
          have bel4 := (bel3.alloc (Nat.le_of_lt hlt3) (.cells #[.int .i64 a, .int .i64 b] 41)).trans (hb4.mono (by simp; omega))
          have blk4 := (blk3.alloc (.cells #[.int .i64 a, .int .i64 b] 41)).below hb4 (by simp; omega)
          have blp4 := (Blk.new w3 41 #[.int .i64 a, .int .i64 b]).below hb4 (by simp)
          have r0 := blk4.cell 0
          have r1 := blk4.cell 1
          have r2 := blk4.frozen 0
          have r3 := blk4.frozen 1
          have p0 := blp4.cell 0
          have p1 := blp4.cell 1
          clear hb4 blk3 bel3 q0 q1 f0 f1
          go_wp2
          refine bodyPost_ret (results_row_tmp (P := Tryz.prog) rfl _ _ w.heap.size 41 #[.int .i64 a, .int .i64 b] (0, 0) _ rfl ((blk4.set_ 0 _).set_ 1 _) Tryz.underlying41 rfl (by kernel_rfl)) rfl ?_
          exact ⟨by rw [HR.out]; rfl, (bel4.setCell (Nat.le_refl _) _).setCell (Nat.le_refl _) _⟩
end Go.Proofs.YtnpccnhamohnkaaGreatDoor
