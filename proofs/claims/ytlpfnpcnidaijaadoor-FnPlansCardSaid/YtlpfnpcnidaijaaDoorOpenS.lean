/-
  How arguments that are structs are opened: plans, laws, chains, desks, lists of lives.
-/
import Derived.Test.YtlpfnpcnidaijaaDoorOpen
import Derived.Test.YtlpfnpcnidaijaaDoorLife
import Derived.Lib.SmallJoins
import Derived.ChangeSame
namespace Go.Proofs.YtlpfnpcnidaijaaDoor.Opn
open Go.RowKit Go.Deep Go.ChangeShapes Go.WideShapes Go.Joins Fl Mem
set_option linter.unusedVariables false
set_option maxRecDepth 100000

section
variable {H : Type} {enc : TypeId × Value → H} {w : World} {base : Nat} {spare : Nat → Bool} {held : Bool} {P : Program}

/-- A list of elements of two cells that came in. -/
theorem open_pairs {α : Type} (F G : α → Value) (p : α → Prop) {t e : TypeId} {fuel : Nat} {cs : List Value} {x : DataW H × List MemPlace} (ht : P.underlying t = some (.slice e)) (hC : P.cellsOf e = 2)
    (hel : ∀ fuel cs x, DataW.trod enc P w base spare held fuel e cs = some x → ∃ a, cs = [F a, G a] ∧ p a)
    (h : DataW.trod enc P w base spare held fuel t cs = some x) :
    ∃ (A : Option Addr) (n c : Nat) (xs : List α), cs = [.slice A n c] ∧ xs.length = n ∧ n ≤ c ∧ c ≤ maxLen ∧ (∀ a ∈ xs, p a) ∧
      (0 < n → ∃ ad, A = some ad ∧ ad.block < w.heap.size ∧ ∀ i a, xs[i]? = some a → w.cell? (ad.add (i * 2)) = some (F a) ∧ w.cell? ((ad.add (i * 2)).add 1) = some (G a)) := by
  rcases Deep.open_slice ht h with ⟨hcs, _⟩ | ⟨a, len, cap, m, n', D, Pl, hcs, hb, hl, hm, hmm, _, hi⟩
  · exact ⟨none, 0, 0, [], hcs, rfl, Nat.le_refl _, by simp [maxLen], by simp, fun h => absurd h (by omega)⟩
  · obtain ⟨xs, hlen, hx⟩ := list_of (fun i b => (w.cell? (a.add (i * 2)) = some (F b) ∧ w.cell? ((a.add (i * 2)).add 1) = some (G b)) ∧ p b) len (fun i hin => by
      obtain ⟨cs', hc, ht'⟩ := hi i (by rw [hmm]; split <;> omega)
      obtain ⟨b, rfl, hp⟩ := hel _ _ _ ht'
      rw [hC] at hc
      obtain ⟨_, _, hc2⟩ := World.cells?_some hc
      refine ⟨b, ⟨?_, ?_⟩, hp⟩
      · have := hc2 0 (by omega)
        simpa [Addr.add] using this
      · exact hc2 1 (by omega))
    refine ⟨some a, len, cap, xs, hcs, hlen, hl, hm, fun b hb' => ?_, fun h0 => ⟨a, rfl, ?_, fun i b hb' => (hx i b hb').1⟩⟩
    · obtain ⟨i, hi'⟩ := List.getElem?_of_mem hb'
      exact (hx i b hi').2
    · obtain ⟨b, hb'⟩ : ∃ b, xs[0]? = some b := ⟨xs[0]'(by omega), List.getElem?_eq_getElem _⟩
      have := World.block_lt_of_cell? w _ (hx 0 b hb').1.1
      rwa [block_of_add] at this
theorem ll_get {xs : List (Nat × Bool)} {j : Nat} {u : Value} (h : (ll xs)[j]? = some u) : ∃ p, xs[j / 2]? = some p ∧ (j % 2 = 0 ∧ u = .float .f32 p.1 ∨ j % 2 = 1 ∧ u = .bool p.2) := by
  have hj : j < xs.length * 2 := by rw [← ll_len]; exact (List.getElem?_eq_some_iff.1 h).1
  have hx : xs[j / 2]? = some xs[j / 2] := List.getElem?_eq_getElem (by omega)
  obtain ⟨h1, h2⟩ := ll_at hx
  refine ⟨_, hx, ?_⟩
  rcases Nat.mod_two_eq_zero_or_one j with hm | hm
  · left
    rw [show j / 2 * 2 = j by omega, h] at h1
    injection h1 with h1
    exact ⟨hm, h1⟩
  · right
    rw [show j / 2 * 2 + 1 = j by omega, h] at h2
    injection h2 with h2
    exact ⟨hm, h2⟩
theorem trod_life {t : TypeId} {f0 f1 : Field} {fuel : Nat} {cs : List Value} {x : DataW H × List MemPlace} (ht : P.underlying t = some (.struct #[f0, f1])) (hC : P.cellsOf t = 2) (h0 : P.underlying f0.type = some (.float .f32)) (h1 : P.underlying f1.type = some .bool)
    (hone : oneCellFields P #[f0, f1] = true) (h : DataW.trod enc P w base spare held fuel t cs = some x) : ∃ a : Nat × Bool, cs = [.float .f32 a.1, .bool a.2] ∧ Wf .f32 a.1 := by
  obtain ⟨y0, y1, n, rfl, hl, g0, g1⟩ := trod_struct2 ht h
  rw [hC] at hl
  obtain ⟨o0, k0⟩ := hone_of hone 0 f0 rfl
  obtain ⟨o1, k1⟩ := hone_of hone 1 f1 rfl
  match cs, hl with
  | [c0, c1], _ =>
    rw [o0, k0] at g0
    rw [o1, k1] at g1
    obtain ⟨b, hb, wf⟩ := trod_float h0 g0
    obtain ⟨b1, hb1, _⟩ := DataW.trod_bool h1 g1
    simp at hb hb1
    exact ⟨(b, b1), by rw [hb, hb1], wf⟩
theorem open_ll {t e : TypeId} {f0 f1 : Field} {fuel : Nat} {cs : List Value} {x : DataW H × List MemPlace} (ht : P.underlying t = some (.slice e)) (he : P.underlying e = some (.struct #[f0, f1])) (hC : P.cellsOf e = 2) (h0 : P.underlying f0.type = some (.float .f32)) (h1 : P.underlying f1.type = some .bool)
    (hone : oneCellFields P #[f0, f1] = true) (h : DataW.trod enc P w base spare held fuel t cs = some x) :
    ∃ (A : Option Addr) (n c : Nat) (xs : List (Nat × Bool)), cs = [.slice A n c] ∧ Reads w w.heap.size 2 A n (ll xs) ∧ n ≤ c ∧ c ≤ maxLen ∧ (∀ a ∈ xs, Wf .f32 a.1) := by
  obtain ⟨A, n, c, xs, hcs, hl, hn, hc, hp, hr⟩ := open_pairs (fun a : Nat × Bool => Value.float .f32 a.1) (fun a => Value.bool a.2) (fun a => Wf .f32 a.1) ht hC (fun _ _ _ hf => trod_life he hC h0 h1 hone hf) h
  refine ⟨A, n, c, xs, hcs, ⟨by rw [ll_len, hl], fun h0 => ?_⟩, hn, hc, hp⟩
  obtain ⟨ad, e, hb, hx⟩ := hr h0
  refine ⟨ad, e, hb, fun j u hu => ?_⟩
  obtain ⟨p, hp', hu'⟩ := ll_get hu
  obtain ⟨a1, a2⟩ := hx _ _ hp'
  rcases hu' with ⟨hm, rfl⟩ | ⟨hm, rfl⟩
  · rw [show j / 2 * 2 = j by omega] at a1; exact a1
  · rw [add_of_add, show j / 2 * 2 + 1 = j by omega] at a2; exact a2
theorem open_fl' {t e : TypeId} {k : FloatKind} {fuel : Nat} {cs : List Value} {x : DataW H × List MemPlace} (ht : P.underlying t = some (.slice e)) (he : P.underlying e = some (.float k)) (hC : P.cellsOf e = 1)
    (h : DataW.trod enc P w base spare held fuel t cs = some x) :
    ∃ (A : Option Addr) (n c : Nat) (xs : List Nat), cs = [.slice A n c] ∧ Reads w w.heap.size 1 A n (xs.map (Value.float k)) ∧ n ≤ c ∧ c ≤ maxLen ∧ ∀ a ∈ xs, Wf k a := by
  have hs : ∃ A n c, cs = [.slice A n c] := by
    rcases Deep.open_slice ht h with ⟨hcs, _⟩ | ⟨a, len, cap, m, n', D, Pl, hcs, _⟩
    · exact ⟨none, 0, 0, hcs⟩
    · exact ⟨_, _, _, hcs⟩
  obtain ⟨A, n, c, rfl⟩ := hs
  obtain ⟨xs, h1, _, h3, h4, h5⟩ := open_fl (d := x.1) (ps := x.2) ht he hC ⟨fuel, h⟩
  exact ⟨A, n, c, xs, rfl, h1, h3, h4, h5⟩
end

section
variable {H : Type} {enc : TypeId × Value → H} {w : World} {base : Nat} {spare : Nat → Bool} {held : Bool} {r : Reach} {b0 : Nat}
theorem array8 {cs : Array Value} (h : cs.size = 8) : ∃ a b c d e f g i, cs = #[a, b, c, d, e, f, g, i] := by
  have hl : cs.toList.length = 8 := by simpa using h
  match hcs : cs.toList, hl with
  | [a, b, c, d, e, f, g, i], _ => exact ⟨a, b, c, d, e, f, g, i, by rw [← hcs]⟩
end
end Go.Proofs.YtlpfnpcnidaijaaDoor.Opn
