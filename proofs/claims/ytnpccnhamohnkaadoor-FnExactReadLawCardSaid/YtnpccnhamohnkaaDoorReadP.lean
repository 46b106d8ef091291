/-
  ReadPlan: both sides.
-/
import Derived.Test.YtnpccnhamohnkaaDoorValS
import Derived.Test.YtnpccnhamohnkaaDoorLines
import Derived.Test.YtnpccnhamohnkaaDoorRow
import Derived.Laws.ResultCell
namespace Go.Proofs.YtnpccnhamohnkaaDoor
open Go.RowKit Mem Go.Shelf
set_option linter.unusedVariables false
set_option maxRecDepth 100000

theorem results_row_tmp {P : Program} {fn : Func} {p u : Tmp} {ty : TypeId} (h : fn.results = #[.cell p ty, .tmp u]) (tmps : Array Value) (w : World) (g : Nat) (t : TypeId) (cs : Array Value) (fr : Nat × Nat) (d : TypeDesc)
    (hp : tmps.getD p undef = .pointer (some ⟨g, 0, none⟩)) (hg : w.heap[g]? = some (.cells cs t fr))
    (hu : P.underlying ty = some d) (hd : (match d with | .struct _ | .array _ _ => true | _ => false) = true) (hi : (P.info? ty).map (·.size) = some cs.size) :
    (results fn tmps).run P w = .ok (.tuple #[.agg cs, tmps.getD u undef]) w := by
  rw [results_cell_tmp h, hp]
  simp [asAddr, run_loadVar_row w g t ty cs fr d hg hu hd hi, Result.andThen]
def cutA (m : UInt8) (x : ByteArray) : ByteArray := ⟨(Lib.cut x.data.toList [m]).1.toArray⟩
def cutB (m : UInt8) (x : ByteArray) : ByteArray := ⟨(Lib.cut x.data.toList [m]).2.1.toArray⟩
def cutF (m : UInt8) (x : ByteArray) : Bool := (Lib.cut x.data.toList [m]).2.2
theorem cutS_calls {s : ByteArray} {b : Int} {m : UInt8} {w : World} (hs : s.size < 4294967281) (hm : w.cell? ⟨renCutF.g 1, 0, none⟩ = some (.int .i64 b)) :
    Calls Tryd.prog 13 #[.string s, .string ⟨#[m]⟩] w fun e w' => e = .returned (.tuple #[.string (cutA m s), .string (cutB m s), .bool (cutF m s)]) ∧ ∃ n, w' = w.drewN n :=
  Any.strings_Cut { laysCutF with } s ⟨#[m]⟩ b w hs hm
theorem cutB_size (m : UInt8) (x : ByteArray) : (cutB m x).size ≤ x.size := by
  show (Lib.cut x.data.toList [m]).2.1.toArray.size ≤ x.size
  rw [List.size_toArray]
  have hl : x.data.toList.length = x.size := Array.length_toList
  unfold Lib.cut
  split
  · simp; try omega
  · simp
theorem cutA_size (m : UInt8) (x : ByteArray) : (cutA m x).size ≤ x.size := by
  show (Lib.cut x.data.toList [m]).1.toArray.size ≤ x.size
  rw [List.size_toArray]
  have hl : x.data.toList.length = x.size := Array.length_toList
  unfold Lib.cut
  split
  · simp; try omega
  · simp; try omega
/-- A text cut once, and cut everywhere. -/
theorem cut_split (m : UInt8) (x : ByteArray) : (cutF m x = false ∧ splitS x m = [x]) ∨ (cutF m x = true ∧ splitS x m = cutA m x :: splitS (cutB m x) m) := by
  have hl : x.data.toList.length = x.size := Array.length_toList
  rcases indexByte_cases m x.data.toList with ⟨_, hm⟩ | ⟨j, _, hj, hn⟩
  · refine .inl ⟨?_, splitS_miss hm⟩
    unfold cutF Lib.cut
    rw [index_miss _ hm]; rfl
  · have hi := index_hit _ _ hj hn
    have hc : Lib.cut x.data.toList [m] = (x.data.toList.take j, x.data.toList.drop (j + 1), true) := by
      unfold Lib.cut
      rw [hi, if_pos (by omega)]; rfl
    have hjx : j < x.size := by rw [← hl]; exact (List.getElem?_eq_some_iff.1 hj).1
    refine .inr ⟨by unfold cutF; rw [hc], ?_⟩
    rw [splitS_hit hj hn]
    congr 1
    · apply ba_ext
      unfold cutA; rw [hc, Lib.extract_data]
      simp
    · congr 1
      apply ba_ext
      unfold cutB; rw [hc, Lib.extract_data]
      simp only [List.take_of_length_le (show (x.data.toList.drop (j + 1)).length ≤ x.size - (j + 1) by simp; try omega)]
theorem split_has {m : UInt8} {x : ByteArray} (h : 2 ≤ (splitS x m).length) : m ∈ x.data.toList := by
  rcases indexByte_cases m x.data.toList with ⟨_, hm⟩ | ⟨j, _, hj, hn⟩
  · rw [splitS_miss hm] at h; simp at h
  · exact List.mem_of_getElem? hj
theorem valV_plain {s : ByteArray} {n : Int} (h : valV s = some n) : ∀ b ∈ s.data.toList, b = 45 ∨ (48 ≤ b.toNat ∧ b.toNat ≤ 57) := by
  obtain ⟨_, rfl⟩ := valV_iff.1 h
  intro b hb
  rw [show (numS n).data.toList = Lib.itoa n from rfl, itoa_of] at hb
  split at hb
  · rcases List.mem_cons.1 hb with h | h
    · exact .inl h
    · exact .inr (dec_head _ b h)
  · exact .inr (dec_head _ b hb)
theorem valV_split {s : ByteArray} {n : Int} {m : UInt8} (hm : m ≠ 45 ∧ (m.toNat < 48 ∨ 57 < m.toNat)) (h : valV s = some n) : splitS s m = [s] := by
  refine splitS_miss (fun i hi => ?_)
  rcases valV_plain h m (List.mem_of_getElem? hi) with h1 | h1
  · exact hm.1 h1
  · omega
/-- The plan with a text. -/
def planV (t : ByteArray) : Option (Int × Int) :=
  match splitS t 47 with
  | [A, B] => match valV A, valV B with
    | some a, some b => if planOkT a b = true then some (a, b) else none
    | _, _ => none
  | _ => none
def planRes (o : Option (Int × Int)) : Value := .tuple #[.agg #[.int .i64 ((o.map (·.1)).getD 0), .int .i64 ((o.map (·.2)).getD 0)], .bool o.isSome]
theorem planV_two {t A B : ByteArray} (h : splitS t 47 = [A, B]) {a b : Int} (ha : valV A = some a) (hb : valV B = some b) : planV t = if planOkT a b = true then some (a, b) else none := by
  unfold planV; rw [h]; simp only [ha, hb]
theorem planV_no1 {t A B : ByteArray} (h : splitS t 47 = [A, B]) (ha : valV A = none) : planV t = none := by
  unfold planV; rw [h]; simp only [ha]
theorem planV_no2 {t A B : ByteArray} (h : splitS t 47 = [A, B]) (ha : valV B = none) : planV t = none := by
  unfold planV; rw [h]; simp only [ha]; cases valV A <;> rfl
theorem planV_len {t : ByteArray} (h : (splitS t 47).length ≠ 2) : planV t = none := by
  unfold planV
  split
  · rename_i h2; rw [h2] at h; simp at h
  · rfl
/-- So does the program see it. -/
theorem planV_cut (t : ByteArray) : planV t = if cutF 47 t = true then (match valV (cutA 47 t), valV (cutB 47 t) with
    | some a, some b => if planOkT a b = true then some (a, b) else none
    | _, _ => none) else none := by
  rcases cut_split 47 t with ⟨h1, h2⟩ | ⟨h1, h2⟩
  · rw [h1]; exact planV_len (by rw [h2]; simp)
  · rw [h1, if_pos rfl]
    cases hB : valV (cutB 47 t) with
    | some b =>
      have h3 : splitS t 47 = [cutA 47 t, cutB 47 t] := by rw [h2, valV_split (by decide) hB]
      cases hA : valV (cutA 47 t) with
      | some a => exact planV_two h3 hA hB
      | none => exact planV_no1 h3 hA
    | none =>
      have hr : (match valV (cutA 47 t), (none : Option Int) with
        | some a, some b => if planOkT a b = true then some (a, b) else none
        | _, _ => none) = none := by cases valV (cutA 47 t) <;> rfl
      rw [hr]
      by_cases hl : (splitS t 47).length = 2
      · rw [h2] at hl
        have hl2 : (splitS (cutB 47 t) 47).length = 1 := by simpa using hl
        rcases cut_split 47 (cutB 47 t) with ⟨_, h4⟩ | ⟨_, h4⟩
        · exact planV_no2 (by rw [h2, h4]) hB
        · rw [h4] at hl2
          have := splitS_pos (cutB 47 (cutB 47 t)) 47
          rw [List.length_cons] at hl2; omega
      · exact planV_len hl
end Go.Proofs.YtnpccnhamohnkaaDoor
