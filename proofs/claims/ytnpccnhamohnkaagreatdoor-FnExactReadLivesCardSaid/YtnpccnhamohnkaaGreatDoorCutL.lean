/-
  Cutting at a mark is what strings.Split does: the plain law.
-/
import Derived.Test.YtnpccnhamohnkaaGreatDoorCut
import Derived.Lib.Split
import Derived.Lib.SplitLaws
import Derived.Lib.CountLaws
namespace Go.Proofs.YtnpccnhamohnkaaGreatDoor
open Go.RowKit Mem
set_option linter.unusedVariables false

theorem index_hit {m : UInt8} : ∀ (d : List UInt8) (j : Nat), d[j]? = some m → (∀ i : Nat, i < j → d[i]? ≠ some m) → Lib.index d [m] = (j : Int) := by
  intro d
  induction d with
  | nil => intro j h; simp at h
  | cons b l ih =>
    intro j h hn
    cases j with
    | zero => simp at h; subst h; simp [Lib.index, List.isPrefixOf]
    | succ j =>
      have hb : b ≠ m := by have := hn 0 (by omega); simpa using this
      have := ih j (by simpa using h) (fun i hi => by have := hn (i + 1) (by omega); simpa using this)
      have hbm : (m == b) = false := by simp; exact fun e => hb e.symm
      simp only [Lib.index, List.isPrefixOf, hbm, Bool.false_and, this]
      simp
theorem index_miss {m : UInt8} : ∀ (d : List UInt8), (∀ i : Nat, d[i]? ≠ some m) → Lib.index d [m] = -1 := by
  intro d
  induction d with
  | nil => intro _; rfl
  | cons b l ih =>
    intro hn
    have hb : b ≠ m := by have := hn 0; simpa using this
    have := ih (fun i => by have := hn (i + 1); simpa using this)
    have hbm : (m == b) = false := by simp; exact fun e => hb e.symm
    simp only [Lib.index, List.isPrefixOf, hbm, Bool.false_and, this]
    rfl

def markB (m : UInt8) : ByteArray := ⟨#[m]⟩
/-- What strings.Split makes of a text. -/
def splitS (s : ByteArray) (m : UInt8) : List ByteArray := Lib.splitB (markB m) 0 (Lib.countB s (markB m)) s
theorem idxB {s : ByteArray} {m : UInt8} : Lib.indexB s (markB m) = Lib.index s.data.toList [m] := rfl
theorem splitS_miss {s : ByteArray} {m : UInt8} (h : ∀ i : Nat, s.data.toList[i]? ≠ some m) : splitS s m = [s] :=
  Lib.splitB_miss _ _ _ _ (by rw [idxB]; exact index_miss _ h)
theorem splitS_hit {s : ByteArray} {m : UInt8} {j : Nat} (h : s.data.toList[j]? = some m) (hn : ∀ i : Nat, i < j → s.data.toList[i]? ≠ some m) :
    splitS s m = s.extract 0 j :: splitS (s.extract (j + 1) s.size) m := by
  have hi : Lib.indexB s (markB m) = (j : Int) := by rw [idxB]; exact index_hit _ _ h hn
  have h1 : (markB m).size = 1 := rfl
  unfold splitS
  rw [Lib.countB_hit s (markB m) j (by rw [h1]; omega) hi, h1, Nat.add_comm 1, Lib.splitB_hit _ _ _ _ j hi, h1]
  rfl
theorem ba_ext {a b : ByteArray} (h : a.data.toList = b.data.toList) : a = b := by
  obtain ⟨⟨l⟩⟩ := a; obtain ⟨⟨k⟩⟩ := b; simp at h; subst h; rfl
theorem ext_get {s : ByteArray} {f i : Nat} : (s.extract f s.size).data.toList[i]? = s.data.toList[f + i]? := by
  rw [Lib.extract_data]
  have hl : s.data.toList.length = s.size := Array.length_toList
  rw [List.getElem?_take, List.getElem?_drop]
  split
  · rfl
  · exact (List.getElem?_eq_none (by omega)).symm
theorem ext_ext {s : ByteArray} {f k : Nat} (h1 : f ≤ k) (h2 : k ≤ s.size) : (s.extract f s.size).extract 0 (k - f) = s.extract f k := by
  apply ba_ext
  rw [Lib.extract_data, Lib.extract_data, Lib.extract_data, List.drop_zero, List.take_take]
  congr 1; omega
theorem ext_rest {s : ByteArray} {f k : Nat} (h1 : f ≤ k) (h2 : k < s.size) : (s.extract f s.size).extract (k - f + 1) (s.extract f s.size).size = s.extract (k + 1) s.size := by
  apply ba_ext
  have hl : s.data.toList.length = s.size := Array.length_toList
  have hz : (s.extract f s.size).size = s.size - f := by rw [ByteArray.size_extract]; omega
  rw [Lib.extract_data, Lib.extract_data, Lib.extract_data, hz, List.drop_take, List.drop_drop, List.take_take]
  congr 1
  · omega
  · congr 1; omega
theorem cut_inv (s : ByteArray) (m : UInt8) : ∀ k, k ≤ s.size → splitS s m = (cutTo s m k).1 ++ splitS (s.extract (cutTo s m k).2 s.size) m ∧ ∀ i : Nat, (cutTo s m k).2 ≤ i → i < k → s.data.toList[i]? ≠ some m := by
  intro k
  induction k with
  | zero =>
    intro _
    refine ⟨?_, fun i _ h => absurd h (by omega)⟩
    show splitS s m = [] ++ splitS (s.extract 0 s.size) m
    rw [ByteArray.extract_zero_size]; rfl
  | succ k ih =>
    intro hk
    obtain ⟨h1, h2⟩ := ih (by omega)
    have hle := (cutTo_le s m k).1
    rw [cutTo_succ]
    unfold cutStep
    split
    · rename_i hc
      have hm : s.data.toList[k]? = some m := hc.resolve_left (by omega)
      refine ⟨?_, fun i h3 h4 => absurd h3 (by simp; omega)⟩
      have hh := splitS_hit (s := s.extract (cutTo s m k).2 s.size) (m := m) (j := k - (cutTo s m k).2)
        (by rw [ext_get, show (cutTo s m k).2 + (k - (cutTo s m k).2) = k by omega]; exact hm)
        (fun i hi => by rw [ext_get]; exact h2 _ (by omega) (by omega))
      rw [ext_ext hle (by omega), ext_rest hle (by omega)] at hh
      rw [h1, hh]; simp
    · rename_i hc
      refine ⟨h1, fun i h3 h4 => ?_⟩
      rcases Nat.lt_or_ge i k with h | h
      · exact h2 i h3 h
      · obtain rfl : i = k := by omega
        exact fun e => hc (.inr e)
theorem cutAll_split (s : ByteArray) (m : UInt8) : cutAll s m = splitS s m := by
  obtain ⟨h1, h2⟩ := cut_inv s m s.size (Nat.le_refl _)
  have hle := (cutTo_le s m s.size).1
  have hl : s.data.toList.length = s.size := Array.length_toList
  unfold cutAll
  rw [cutTo_succ]
  unfold cutStep
  rw [if_pos (.inl rfl), h1, splitS_miss (fun i => ?_)]
  rw [ext_get]
  rcases Nat.lt_or_ge ((cutTo s m s.size).2 + i) s.size with h | h
  · exact h2 _ (by omega) h
  · rw [List.getElem?_eq_none (by omega)]; simp
end Go.Proofs.YtnpccnhamohnkaaGreatDoor
