/-
  A number, and numbers behind it: the plain law.
-/
import Derived.Test.YtnpccnhamohnkaaGreatDoorNumS
namespace Go.Proofs.YtnpccnhamohnkaaGreatDoor
open Go.RowKit Mem Fl
set_option linter.unusedVariables false

theorem hexF_low {b : UInt8} : ∀ (l : List UInt8) (acc n : Nat), hexF acc l = some n → b ∈ l → lowd b ≠ none
  | c :: l, acc, n, h, hb => by
    simp only [hexF] at h
    cases hc : lowd c with
    | none => rw [hc] at h; cases h
    | some d =>
      rw [hc] at h
      rcases List.mem_cons.1 hb with rfl | hb
      · rw [hc]; simp
      · exact hexF_low l _ n h hb
theorem readN_plain {p : ByteArray} {n : Nat} (h : readN p = some n) : (59 : UInt8) ∉ p.data.toList := fun hm =>
  hexF_low _ _ _ (readN_iff.1 h).2.1 hm (by decide +kernel)
theorem mem_tail {b : UInt8} : ∀ l : List (List UInt8), b ∈ Lib.joinTail [44] l → b = 44 ∨ ∃ p ∈ l, b ∈ p
  | [], h => by simp [Lib.joinTail] at h
  | p :: l, h => by
    have e : Lib.joinTail [44] (p :: l) = 44 :: (p ++ Lib.joinTail [44] l) := by simp [Lib.joinTail]
    rw [e] at h
    rcases List.mem_cons.1 h with h | h
    · exact .inl h
    · rcases List.mem_append.1 h with h | h
      · exact .inr ⟨p, by simp, h⟩
      · rcases mem_tail l h with h | ⟨q, hq, h⟩
        · exact .inl h
        · exact .inr ⟨q, List.mem_cons_of_mem _ hq, h⟩
theorem mem_join {b : UInt8} {l : List (List UInt8)} (h : b ∈ Lib.join l [44]) : b = 44 ∨ ∃ p ∈ l, b ∈ p := by
  cases l with
  | nil => rw [Lib.join_nil] at h; cases h
  | cons p l =>
    rw [Lib.join_cons] at h
    rcases List.mem_append.1 h with h | h
    · exact .inr ⟨p, by simp, h⟩
    · rcases mem_tail l h with h | ⟨q, hq, h⟩
      · exact .inl h
      · exact .inr ⟨q, List.mem_cons_of_mem _ hq, h⟩
theorem numsV_plain {s : ByteArray} {xs : List Nat} (h : numsV s = some xs) : (59 : UInt8) ∉ s.data.toList := by
  intro hm
  unfold numsV at h
  split at h
  · rename_i hq; subst hq; revert hm; decide +kernel
  · split at h
    · obtain ⟨h1, h2⟩ := allN_at h
      rw [← join_split 44 s.size s (Nat.le_refl _)] at hm
      rcases mem_join hm with e | ⟨p, hp, hb⟩
      · exact absurd e (by decide)
      · obtain ⟨q, hq, rfl⟩ := List.mem_map.1 hp
        obtain ⟨i, hi⟩ := List.mem_iff_getElem?.1 hq
        obtain ⟨n, _, hr⟩ := h2 i q hi
        exact readN_plain hr hb
    · cases h
theorem numsV_split {s : ByteArray} {xs : List Nat} (h : numsV s = some xs) : splitS s 59 = [s] := splitS_miss (fun i hi => numsV_plain h (List.mem_of_getElem? hi))
/-- The number and the numbers with a text. -/
def headV (t : ByteArray) : Option (Int × List Nat) :=
  match splitS t 59 with
  | [A, B] => (valV A).bind fun n => (numsV B).bind fun xs => some (n, xs)
  | _ => none
theorem headV_two {t A B : ByteArray} (h : splitS t 59 = [A, B]) : headV t = (valV A).bind fun n => (numsV B).bind fun xs => some (n, xs) := by
  unfold headV; rw [h]
theorem headV_len {t : ByteArray} (h : (splitS t 59).length ≠ 2) : headV t = none := by
  unfold headV
  split
  · rename_i h2; rw [h2] at h; simp at h
  · rfl
/-- So does the program see it. -/
theorem headV_cut (t : ByteArray) : headV t = if cutF 59 t = true then (valV (cutA 59 t)).bind fun n => (numsV (cutB 59 t)).bind fun xs => some (n, xs) else none := by
  rcases cut_split 59 t with ⟨h1, h2⟩ | ⟨h1, h2⟩
  · rw [h1]; exact headV_len (by rw [h2]; simp)
  · rw [h1, if_pos rfl]
    cases hB : numsV (cutB 59 t) with
    | some xs =>
      have h3 : splitS t 59 = [cutA 59 t, cutB 59 t] := by rw [h2, numsV_split hB]
      rw [headV_two h3, hB]
    | none =>
      have hr : ((valV (cutA 59 t)).bind fun n => (none : Option (List Nat)).bind fun xs => some (n, xs)) = none := by cases valV (cutA 59 t) <;> rfl
      rw [hr]
      by_cases hl : (splitS t 59).length = 2
      · rw [h2] at hl
        have hl2 : (splitS (cutB 59 t) 59).length = 1 := by simpa using hl
        rcases cut_split 59 (cutB 59 t) with ⟨_, h4⟩ | ⟨_, h4⟩
        · rw [headV_two (by rw [h2, h4]), hB]; exact hr
        · rw [h4] at hl2
          have := splitS_pos (cutB 59 (cutB 59 t)) 59
          rw [List.length_cons] at hl2; omega
      · exact headV_len hl
end Go.Proofs.YtnpccnhamohnkaaGreatDoor
