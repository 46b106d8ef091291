/-
  How the arguments of a law are opened: a slice of numbers that came in reads as a list; nil is let in.
-/
import Derived.Test.YteabfkgbakoljaaFl
import Derived.Test.YteabfkgbakoljaaMem
import Derived.ProofKit
import Derived.OpenShut
import Derived.Deep.Slices
import Derived.ChangeOld
namespace Go.Proofs.Yteabfkgbakoljaa.Opn
open Go.RowKit Go.ChangeShapes Go.WideShapes Fl Mem

theorem list_of {α : Type} (Q : Nat → α → Prop) : ∀ n, (∀ i, i < n → ∃ a, Q i a) → ∃ xs : List α, xs.length = n ∧ ∀ i a, xs[i]? = some a → Q i a := by
  intro n
  induction n with
  | zero => intro _; exact ⟨[], rfl, by simp⟩
  | succ n ih =>
    intro h
    obtain ⟨xs, hl, hx⟩ := ih (fun i hi => h i (by omega))
    obtain ⟨a, ha⟩ := h n (by omega)
    refine ⟨xs ++ [a], by simp [hl], fun i b hb => ?_⟩
    rcases Nat.lt_or_ge i n with hi | hi
    · rw [List.getElem?_append_left (by omega)] at hb
      exact hx i b hb
    · rw [List.getElem?_append_right (by omega)] at hb
      rcases Nat.eq_or_lt_of_le hi with he | he
      · subst he; rw [hl] at hb; simp at hb; subst hb; exact ha
      · rw [List.getElem?_eq_none (by simp; omega)] at hb; cases hb

section
variable {H : Type} {enc : TypeId × Value → H} {P : Program} {w : World} {base : Nat} {spare : Nat → Bool} {held : Bool}

theorem trod_float {t : TypeId} {k : FloatKind} {fuel : Nat} {cs : List Value} {x : DataW H × List MemPlace} (ht : P.underlying t = some (.float k)) (h : DataW.trod enc P w base spare held fuel t cs = some x) :
    ∃ b, cs = [.float k b] ∧ Wf k b := by
  cases fuel with
  | zero => simp [DataW.trod] at h
  | succ n =>
    cases cs with
    | nil => simp [DataW.trod, ht] at h
    | cons v r =>
      cases r with
      | cons _ _ => simp [DataW.trod, ht] at h
      | nil =>
        cases v <;> simp [DataW.trod, ht] at h
        rename_i k' b
        obtain ⟨⟨rfl, hw⟩, _⟩ := h
        exact ⟨b, rfl, lt_of_wf hw⟩

/-- A slice of one-celled elements that came in. -/
theorem open_list {α : Type} (F : α → Value) (p : α → Prop) {t e : TypeId} {A : Option Addr} {n c : Nat} {d : DataW H} {ps : List MemPlace} (ht : P.underlying t = some (.slice e)) (hC : P.cellsOf e = 1)
    (hel : ∀ fuel cs x, DataW.trod enc P w base spare held fuel e cs = some x → ∃ a, cs = [F a] ∧ p a)
    (h : DataW.Trod enc P w base spare held t (.slice A n c) d ps) :
    ∃ xs : List α, Reads w w.heap.size 1 A n (xs.map F) ∧ xs.length = n ∧ n ≤ c ∧ c ≤ maxLen ∧ ∀ a ∈ xs, p a := by
  obtain ⟨fuel, hf⟩ := h
  rcases Deep.open_slice ht hf with ⟨hcs, _⟩ | ⟨a, len, cap, m, n', D, Pl, hcs, hb, hl, hm, hmm, _, hi⟩
  · simp [Value.cells] at hcs
    obtain ⟨rfl, rfl, rfl⟩ := hcs
    exact ⟨[], Reads.none_, rfl, Nat.le_refl _, by simp [maxLen], by simp⟩
  · simp [Value.cells] at hcs
    obtain ⟨rfl, rfl, rfl⟩ := hcs
    obtain ⟨xs, hlen, hx⟩ := list_of (fun i b => w.cell? (a.add i) = some (F b) ∧ p b) n (fun i hin => by
      obtain ⟨cs', hc, ht'⟩ := hi i (by rw [hmm]; split <;> omega)
      obtain ⟨b, rfl, hp⟩ := hel _ _ _ ht'
      rw [hC, Nat.mul_one] at hc
      exact ⟨b, cell_of_cells?_one hc, hp⟩)
    refine ⟨xs, ⟨by simp [hlen], fun h0 => ⟨a, rfl, ?_, fun j u hu => ?_⟩⟩, hlen, hl, hm, fun b hb => ?_⟩
    · obtain ⟨b, hb⟩ : ∃ b, xs[0]? = some b := ⟨xs[0]'(by omega), List.getElem?_eq_getElem _⟩
      have := World.block_lt_of_cell? w _ (hx 0 b hb).1
      rwa [block_of_add] at this
    · rw [List.getElem?_map] at hu
      cases hj : xs[j]? with
      | none => rw [hj] at hu; cases hu
      | some b => rw [hj] at hu; injection hu with hu; subst hu; exact (hx j b hj).1
    · obtain ⟨i, hi'⟩ := List.getElem?_of_mem hb
      exact (hx i b hi').2

theorem open_fl {t e : TypeId} {k : FloatKind} {A : Option Addr} {n c : Nat} {d : DataW H} {ps : List MemPlace} (ht : P.underlying t = some (.slice e)) (he : P.underlying e = some (.float k)) (hC : P.cellsOf e = 1)
    (h : DataW.Trod enc P w base spare held t (.slice A n c) d ps) :
    ∃ xs : List Nat, Reads w w.heap.size 1 A n (xs.map (Value.float k)) ∧ xs.length = n ∧ n ≤ c ∧ c ≤ maxLen ∧ ∀ a ∈ xs, Wf k a :=
  open_list (Value.float k) (Wf k) ht hC (fun _ _ _ hf => trod_float he hf) h

theorem open_il {t e : TypeId} {k : IntKind} {A : Option Addr} {n c : Nat} {d : DataW H} {ps : List MemPlace} (ht : P.underlying t = some (.slice e)) (he : P.underlying e = some (.int k)) (hC : P.cellsOf e = 1)
    (h : DataW.Trod enc P w base spare held t (.slice A n c) d ps) :
    ∃ xs : List Int, Reads w w.heap.size 1 A n (xs.map (Value.int k)) ∧ xs.length = n ∧ n ≤ c ∧ c ≤ maxLen ∧ ∀ a ∈ xs, (Lit.int k a).wf = true :=
  open_list (Value.int k) (fun a => (Lit.int k a).wf = true) ht hC (fun _ _ _ hf => by
    obtain ⟨m, h1, _, h2⟩ := DataW.trod_int he hf
    exact ⟨m, h1, h2⟩) h
end
end Go.Proofs.Yteabfkgbakoljaa.Opn
