/-
  JournalOf: the plain law and both sides.
-/
import Derived.Test.YtempapfphliniaaDoorChk
import Derived.Test.YtempapfphliniaaDoorDecS
import Derived.Test.YtempapfphliniaaDoorText
import Derived.Test.YtempapfphliniaaDoorLayContains
import Derived.Test.YtempapfphliniaaDoorLayBLen
import Derived.Shelf.Strings.BuilderF
namespace Go.Proofs.YtempapfphliniaaDoor
open Go.RowKit Mem Go.Shelf
set_option linter.unusedVariables false
set_option maxRecDepth 100000

/-- No newline. -/
def noNl (s : ByteArray) : Bool := s.data.toList.all (· != 10)
theorem contains_nl (l : List UInt8) : Lib.contains l [10] = !(l.all (· != 10)) := by
  induction l with
  | nil => rfl
  | cons b l ih =>
    have hi : Lib.index (b :: l) [10] = if ((10 : UInt8) == b) = true then 0 else if Lib.index l [10] == -1 then -1 else Lib.index l [10] + 1 := by
      rw [Lib.index]
      simp [List.isPrefixOf]
    have hge : -1 ≤ Lib.index l [10] := Lib.index_ge l [10]
    unfold Lib.contains at ih ⊢
    rw [hi]
    by_cases hb : b = 10
    · subst hb; simp
    · have hb1 : ((10 : UInt8) == b) = false := by simp; exact fun e => hb e.symm
      have hb2 : (b != 10) = true := by simpa using hb
      rw [hb1, List.all_cons, hb2, Bool.true_and, ← ih]
      simp only [Bool.false_eq_true, if_false]
      split
      · rename_i h; simp at h; rw [h]
      · rename_i h; simp at h
        apply decide_eq_decide.2
        omega
def entryB (n : Nat) (x : ByteArray) : ByteArray := ((numS (chk n x : Nat) ++ ⟨#[32]⟩) ++ x) ++ ⟨#[10]⟩
def jstep (p : Nat × ByteArray) (x : ByteArray) : Nat × ByteArray := (chk p.1 x, p.2 ++ entryB p.1 x)
def jour (xs : List ByteArray) : Nat × ByteArray := xs.foldl jstep (0, ⟨#[]⟩)
def jourOk (xs : List ByteArray) : Bool := xs.all noNl && decide ((jour xs).2.size ≤ 16000)
def jourT (xs : List ByteArray) : ByteArray := if jourOk xs = true then (jour xs).2 else ⟨#[]⟩
theorem jour_snoc (xs : List ByteArray) (x : ByteArray) : jour (xs ++ [x]) = jstep (jour xs) x := by unfold jour; rw [List.foldl_append]; rfl
theorem jour_succ {xs : List ByteArray} {k : Nat} {x : ByteArray} (h : xs[k]? = some x) : jour (xs.take (k + 1)) = jstep (jour (xs.take k)) x := by rw [take_eq h, jour_snoc]
theorem jour_lt (xs : List ByteArray) : (jour xs).1 < 65003 := by
  rcases List.eq_nil_or_concat xs with rfl | ⟨ys, y, rfl⟩
  · decide
  · rw [List.concat_eq_append, jour_snoc]
    have : ∀ n s, n < 65003 → chk n s < 65003 := fun n s h => chkL_lt h _
    apply this
    exact jour_lt ys
termination_by xs.length
decreasing_by simp_all
theorem numS_pos (n : Int) : 1 ≤ (numS n).size := by
  show 1 ≤ (Lib.itoa n).toArray.size
  rw [List.size_toArray, itoa_of]
  have := dec_pos n.natAbs
  split
  · simp
  · exact List.length_pos_iff.2 this
theorem entry_size {n : Nat} (h : n < 65003) (x : ByteArray) : x.size + 3 ≤ (entryB n x).size ∧ (entryB n x).size ≤ x.size + 22 := by
  have h1 := numS_pos (chk n x : Nat)
  have h2 := numS_size (n := (chk n x : Nat)) (by have := chkL_lt h x.data.toList; unfold chk; omega)
  have e1 : ByteArray.size ⟨#[32]⟩ = 1 := rfl
  have e2 : ByteArray.size ⟨#[10]⟩ = 1 := rfl
  unfold entryB
  simp only [ByteArray.size_append, e1, e2]
  omega
def tot (xs : List ByteArray) : Nat := (xs.map fun x => x.size + 3).sum
theorem tot_succ {xs : List ByteArray} {k : Nat} {x : ByteArray} (h : xs[k]? = some x) : tot (xs.take (k + 1)) = tot (xs.take k) + (x.size + 3) := by
  unfold tot; rw [take_eq h]; simp
theorem tot_take (xs : List ByteArray) (k : Nat) : tot (xs.take k) ≤ tot xs := by
  have h := congrArg tot (List.take_append_drop k xs)
  unfold tot at *
  rw [List.map_append, List.sum_append] at h
  omega
theorem jour_tot (xs : List ByteArray) : tot xs ≤ (jour xs).2.size ∧ (jour xs).2.size ≤ 20 * tot xs := by
  rcases List.eq_nil_or_concat xs with rfl | ⟨ys, y, rfl⟩
  · decide
  · rw [List.concat_eq_append, jour_snoc]
    have ih := jour_tot ys
    have he := entry_size (jour_lt ys) y
    have ht : tot (ys ++ [y]) = tot ys + (y.size + 3) := by unfold tot; simp
    unfold jstep
    simp only [ByteArray.size_append]
    omega
termination_by xs.length
decreasing_by simp_all
theorem jour_mono (xs ys : List ByteArray) : (jour xs).2.size ≤ (jour (xs ++ ys)).2.size := by
  rcases List.eq_nil_or_concat ys with rfl | ⟨zs, z, rfl⟩
  · simp
  · rw [List.concat_eq_append, ← List.append_assoc, jour_snoc]
    have ih := jour_mono xs zs
    unfold jstep
    simp only [ByteArray.size_append]
    omega
termination_by ys.length
decreasing_by simp_all
theorem jour_take (xs : List ByteArray) (k : Nat) : (jour (xs.take k)).2.size ≤ (jour xs).2.size := by
  have := jour_mono (xs.take k) (xs.drop k)
  rwa [List.take_append_drop] at this
theorem jourOk_big {xs : List ByteArray} (h : 16000 < (jour xs).2.size) : jourOk xs = false := by
  unfold jourOk; rw [decide_eq_false (by omega), Bool.and_false]
theorem jourOk_nl {xs : List ByteArray} {k : Nat} {x : ByteArray} (h : xs[k]? = some x) (hx : noNl x = false) : jourOk xs = false := by
  unfold jourOk
  have : xs.all noNl = false := List.all_eq_false.2 ⟨x, List.mem_of_getElem? h, by simp [hx]⟩
  rw [this, Bool.false_and]
theorem jourOk_yes {xs : List ByteArray} (h : xs.all noNl = true) (h2 : (jour xs).2.size ≤ 16000) : jourOk xs = true := by
  unfold jourOk; rw [h, decide_eq_true h2]; rfl
theorem jourT_no {xs : List ByteArray} (h : jourOk xs = false) : jourT xs = ⟨#[]⟩ := by unfold jourT; rw [h]; rfl
theorem jourT_yes {xs : List ByteArray} (h : jourOk xs = true) : jourT xs = (jour xs).2 := by unfold jourT; rw [h]; rfl
theorem all_succ {xs : List ByteArray} {k : Nat} {x : ByteArray} (h : xs[k]? = some x) (h1 : (xs.take k).all noNl = true) (hx : noNl x = true) : (xs.take (k + 1)).all noNl = true := by
  rw [take_eq h, List.all_append, h1]; simp [hx]
/-- What the operations of an entry give. -/
theorem entry_ops {n : Nat} (h : n < 65003) (x : ByteArray) (hx : x.size ≤ 4294967296) :
    (∀ w, (Op.stringOp .add (numS (chk n x : Nat)) ⟨#[32]⟩).run Tryd.prog w = .ok (.string (numS (chk n x : Nat) ++ ⟨#[32]⟩)) w) ∧
    (∀ w, (Op.stringOp .add (numS (chk n x : Nat) ++ ⟨#[32]⟩) x).run Tryd.prog w = .ok (.string ((numS (chk n x : Nat) ++ ⟨#[32]⟩) ++ x)) w) ∧
    (∀ w, (Op.stringOp .add ((numS (chk n x : Nat) ++ ⟨#[32]⟩) ++ x) ⟨#[10]⟩).run Tryd.prog w = .ok (.string (entryB n x)) w) := by
  have h2 := numS_size (n := (chk n x : Nat)) (by have := chkL_lt h x.data.toList; unfold chk; omega)
  have e1 : ByteArray.size ⟨#[32]⟩ = 1 := rfl
  have e2 : ByteArray.size ⟨#[10]⟩ = 1 := rfl
  exact ⟨fun w => run_string_add_sum (P := Tryd.prog) w _ _ (by omega), fun w => run_string_add_sum (P := Tryd.prog) w _ _ (by rw [ByteArray.size_append]; omega),
    fun w => run_string_add_sum (P := Tryd.prog) w _ _ (by rw [ByteArray.size_append, ByteArray.size_append]; omega)⟩
theorem builder_below {T e : TypeId} {B b : Nat} {bs : List Value} {W W' : World} (h : Lib.IsBuilderF T e B b bs W) (hb : Below W.heap.size W W') : Lib.IsBuilderF T e B b bs W' := by
  have one : ∀ p, Lib.BuilderAtF T e B b p bs W → Lib.BuilderAtF T e B b p bs W' := by
    rintro p ⟨hB, v, hv, hown, hne⟩
    exact ⟨hB, v, (hb.block b (Array.getElem?_eq_some_iff.1 hv).1).trans hv, hown.kept (row := none) ⟨hb.os, hb.tape, hb.output, hb.size, fun k hk _ => hb.block k hk⟩ (Classical.em _), hne⟩
  exact h.elim (fun x => .inl (one _ x)) (fun x => .inr (one _ x))
abbrev Bld (B b : Nat) (s : ByteArray) (w : World) : Prop := Lib.IsBuilderF 64 5 B b (Lib.strCells s) w
theorem writeString_calls {B b : Nat} {s t : ByteArray} {w : World} (h : Bld B b s w) (hlen : s.size + t.size ≤ 140737488355328) (hB : B ≤ w.heap.size) :
    Calls Tryd.prog 37 #[.pointer (some ⟨b, 0, none⟩), .string t] w fun e w' => e = .returned (.tuple #[.int .i64 t.size, .nilIface]) ∧ Bld B b (s ++ t) w' ∧ Below B w w' := by
  refine (Any.Builder_WriteString_f { laysRepeat with } extraRepeat B b (Lib.strCells s) t w h (by rw [Lib.strCells_length]; exact hlen) hB).mono ?_
  rintro e w' ⟨rfl, h1, h2⟩
  refine ⟨rfl, .inr ?_, h2⟩
  have : Lib.strCells (s ++ t) = Lib.strCells s ++ Lib.strCells t := by unfold Lib.strCells; simp
  rw [this]
  exact h1
theorem builderLen_calls {B b : Nat} {s : ByteArray} {w : World} (h : Bld B b s w) :
    Calls Tryd.prog 39 #[.pointer (some ⟨b, 0, none⟩)] w fun e w' => e = .returned (.int .i64 s.size) ∧ w' = w := by
  refine (Any.Builder_Len_f laysBLen B b (Lib.strCells s) w h).mono ?_
  rintro e w' ⟨rfl, h2⟩
  exact ⟨by rw [Lib.strCells_length], h2⟩
theorem builderString_calls {B b : Nat} {s : ByteArray} {w : World} (h : Bld B b s w) (hB : B ≤ w.heap.size) :
    Calls Tryd.prog 40 #[.pointer (some ⟨b, 0, none⟩)] w fun e w' => e = .returned (.string s) ∧ Below B w w' := by
  refine (Any.Builder_String_any_f { laysRepeat with } extraRepeat B b s.data.toList w h hB).mono ?_
  rintro e w' ⟨rfl, _, h2⟩
  exact ⟨rfl, h2⟩
theorem contains_calls {s : ByteArray} {b : Int} {w : World} (hs : s.size < 4294967281) (hm : w.cell? ⟨renContains.g 1, 0, none⟩ = some (.int .i64 b)) :
    Calls Tryd.prog 35 #[.string s, .string ⟨#[10]⟩] w fun e w' => e = .returned (.bool (!noNl s)) ∧ w' = w := by
  refine (Any.strings_Contains { laysContains with } s ⟨#[10]⟩ b w hs hm).mono ?_
  rintro e w' ⟨rfl, rfl⟩
  exact ⟨by rw [show (⟨#[10]⟩ : ByteArray).data.toList = [10] from rfl, contains_nl]; rfl, rfl⟩
end Go.Proofs.YtempapfphliniaaDoor
