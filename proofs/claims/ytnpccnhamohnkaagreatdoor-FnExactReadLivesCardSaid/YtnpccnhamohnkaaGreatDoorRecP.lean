/-
  RecoverJournal: the plain law.
-/
import Derived.Test.YtnpccnhamohnkaaGreatDoorChk
import Derived.Test.YtnpccnhamohnkaaGreatDoorCutL
import Derived.Test.YtnpccnhamohnkaaGreatDoorLayCutF
import Derived.Test.YtnpccnhamohnkaaGreatDoorLayIndexByte
import Derived.Lib.IndexMore
namespace Go.Proofs.YtnpccnhamohnkaaGreatDoor
open Go.RowKit Mem Go.Shelf
set_option linter.unusedVariables false
set_option maxRecDepth 100000

def rword (x : ByteArray) : ByteArray := ⟨(Lib.cut x.data.toList [32]).1.toArray⟩
def rline (x : ByteArray) : ByteArray := ⟨(Lib.cut x.data.toList [32]).2.1.toArray⟩
def rhas (x : ByteArray) : Bool := (Lib.cut x.data.toList [32]).2.2
def rok (c : Nat) (x : ByteArray) : Bool := rhas x && decide (rword x = numS (chk c (rline x) : Nat))
/-- The lines of the longest journal, and its length. -/
def rres : Nat → List ByteArray → List ByteArray × Nat
  | _, [] => ([], 0)
  | c, x :: xs => if rok c x = true then (rline x :: (rres (chk c (rline x)) xs).1, x.size + 1 + (rres (chk c (rline x)) xs).2) else ([], 0)
theorem rres_yes {c : Nat} {x : ByteArray} {xs : List ByteArray} (h : rok c x = true) : rres c (x :: xs) = (rline x :: (rres (chk c (rline x)) xs).1, x.size + 1 + (rres (chk c (rline x)) xs).2) := by
  rw [rres, if_pos h]
theorem rres_no {c : Nat} {x : ByteArray} {xs : List ByteArray} (h : rok c x = false) : rres c (x :: xs) = ([], 0) := by
  rw [rres, if_neg (by rw [h]; decide)]
/-- The lines of a text, each ended by a newline. -/
def linesL (s : ByteArray) : List ByteArray := (splitS s 10).dropLast
theorem splitS_ne (s : ByteArray) (m : UInt8) : splitS s m ≠ [] := by
  have : (splitS s m).length = Lib.countB s (markB m) + 1 := Lib.splitB_all (markB m) (Nat.le_refl 1) 0 _ s rfl
  intro h; rw [h] at this; simp at this
theorem linesL_miss {s : ByteArray} (h : ∀ i : Nat, s.data.toList[i]? ≠ some 10) : linesL s = [] := by unfold linesL; rw [splitS_miss h]; rfl
theorem linesL_hit {s : ByteArray} {j : Nat} (h : s.data.toList[j]? = some 10) (hn : ∀ i : Nat, i < j → s.data.toList[i]? ≠ some 10) :
    linesL s = s.extract 0 j :: linesL (s.extract (j + 1) s.size) := by
  unfold linesL
  rw [splitS_hit h hn, List.dropLast_cons_of_ne_nil (splitS_ne _ _)]
theorem indexByte_cases (c : UInt8) : ∀ l : List UInt8, (Lib.indexByte l c = -1 ∧ ∀ i : Nat, l[i]? ≠ some c) ∨ ∃ j : Nat, Lib.indexByte l c = (j : Int) ∧ l[j]? = some c ∧ ∀ i : Nat, i < j → l[i]? ≠ some c
  | [] => .inl ⟨rfl, by simp⟩
  | b :: l => by
    by_cases hb : b = c
    · subst hb
      exact .inr ⟨0, by rw [Lib.indexByte]; simp, rfl, fun i hi => absurd hi (by omega)⟩
    · have e : Lib.indexByte (b :: l) c = if Lib.indexByte l c == -1 then -1 else Lib.indexByte l c + 1 := by
        rw [Lib.indexByte, if_neg (by simpa using hb)]
      rcases indexByte_cases c l with ⟨h1, h2⟩ | ⟨j, h1, h2, h3⟩
      · left
        refine ⟨by first | (rw [e, h1]; done) | (rw [e, h1]; rfl), fun i => ?_⟩
        cases i with
        | zero => simpa using hb
        | succ i => simpa using h2 i
      · right
        refine ⟨j + 1, by rw [e, h1, if_neg (by simp; try omega)]; rfl, by simpa using h2, fun i hi => ?_⟩
        cases i with
        | zero => simpa using hb
        | succ i => simpa using h3 i (by omega)
theorem indexByte_calls {s : ByteArray} {w : World} : Calls Tryz.prog 162 #[.string s, .int .u8 10] w fun e w' => e = .returned (.int .i64 (Lib.indexByte s.data.toList 10)) ∧ w' = w :=
  Any.strings_IndexByte laysIndexByte s 10 w
theorem cut_calls {s : ByteArray} {b : Int} {w : World} (hs : s.size < 4294967281) (hm : w.cell? ⟨renCutF.g 1, 0, none⟩ = some (.int .i64 b)) :
    Calls Tryz.prog 54 #[.string s, .string ⟨#[32]⟩] w fun e w' => e = .returned (.tuple #[.string (rword s), .string (rline s), .bool (rhas s)]) ∧ ∃ n, w' = w.drewN n :=
  Any.strings_Cut { laysCutF with } s ⟨#[32]⟩ b w hs hm
theorem rline_size (x : ByteArray) : (rline x).size ≤ x.size := by
  show (Lib.cut x.data.toList [32]).2.1.toArray.size ≤ x.size
  rw [List.size_toArray]
  have hl : x.data.toList.length = x.size := Array.length_toList
  unfold Lib.cut
  split
  · simp; try omega
  · simp
theorem cut_hit {x : ByteArray} {j : Nat} (h : x.data.toList[j]? = some 32) (hn : ∀ i : Nat, i < j → x.data.toList[i]? ≠ some 32) : rhas x = true ∧ rword x = x.extract 0 j ∧ rline x = x.extract (j + 1) x.size := by
  have hi := index_hit _ _ h hn
  have hc : Lib.cut x.data.toList [32] = (x.data.toList.take j, x.data.toList.drop (j + 1), true) := by
    unfold Lib.cut
    rw [hi, if_pos (by omega)]; rfl
  have hl : x.data.toList.length = x.size := Array.length_toList
  have hj : j < x.size := by rw [← hl]; exact (List.getElem?_eq_some_iff.1 h).1
  refine ⟨by unfold rhas; rw [hc], ?_, ?_⟩
  · apply ba_ext
    unfold rword; rw [hc, Lib.extract_data]
    simp
  · apply ba_ext
    unfold rline; rw [hc, Lib.extract_data]
    simp only [List.take_of_length_le (show (x.data.toList.drop (j + 1)).length ≤ x.size - (j + 1) by simp; try omega)]
theorem cut_miss {x : ByteArray} (h : ∀ i : Nat, x.data.toList[i]? ≠ some 32) : rhas x = false := by
  unfold rhas Lib.cut
  rw [index_miss _ h]; rfl
end Go.Proofs.YtnpccnhamohnkaaGreatDoor
