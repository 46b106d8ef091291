/-
  How arguments that are systems with signals, or lists of these, are opened.
-/
import Derived.Test.YtjfmjeffmnjilaaOpen
import Derived.Test.YtjfmjeffmnjilaaSvD
import Derived.Lib.SmallJoins
import Derived.ChangeSame
import Derived.Deep.Strs
namespace Go.Proofs.Ytjfmjeffmnjilaa.Opn
open Go.RowKit Go.Deep Go.ChangeShapes Go.WideShapes Go.Joins Fl Mem
set_option linter.unusedVariables false
set_option maxRecDepth 100000

section
variable {H : Type} {enc : TypeId × Value → H} {w : World} {base : Nat} {spare : Nat → Bool} {held : Bool} {P : Program}
theorem open_fs {t e : TypeId} {k : FloatKind} {fuel : Nat} {cs : List Value} {x : DataW H × List MemPlace} (ht : P.underlying t = some (.slice e)) (he : P.underlying e = some (.float k)) (hC : P.cellsOf e = 1)
    (h : DataW.trod enc P w base spare held fuel t cs = some x) :
    ∃ (A : Option Addr) (n c : Nat) (xs : List Nat), cs = [.slice A n c] ∧ Reads w w.heap.size 1 A n (xs.map (Value.float k)) ∧ n ≤ c ∧ c ≤ maxLen ∧ ∀ a ∈ xs, Wf k a := by
  have hs : ∃ A n c, cs = [.slice A n c] := by
    rcases Deep.open_slice ht h with ⟨hcs, _⟩ | ⟨a, len, cap, m, n', D, Pl, hcs, _⟩
    · exact ⟨none, 0, 0, hcs⟩
    · exact ⟨_, _, _, hcs⟩
  obtain ⟨A, n, c, rfl⟩ := hs
  obtain ⟨xs, h1, _, h3, h4, h5⟩ := open_fl (d := x.1) (ps := x.2) ht he hC ⟨fuel, h⟩
  exact ⟨A, n, c, xs, rfl, h1, h3, h4, h5⟩
theorem open_is {t e : TypeId} {k : IntKind} {fuel : Nat} {cs : List Value} {x : DataW H × List MemPlace} (ht : P.underlying t = some (.slice e)) (he : P.underlying e = some (.int k)) (hC : P.cellsOf e = 1)
    (h : DataW.trod enc P w base spare held fuel t cs = some x) :
    ∃ (A : Option Addr) (n c : Nat) (xs : List Int), cs = [.slice A n c] ∧ Reads w w.heap.size 1 A n (xs.map (Value.int k)) ∧ n ≤ c ∧ c ≤ maxLen ∧ ∀ a ∈ xs, (Lit.int k a).wf = true := by
  have hs : ∃ A n c, cs = [.slice A n c] := by
    rcases Deep.open_slice ht h with ⟨hcs, _⟩ | ⟨a, len, cap, m, n', D, Pl, hcs, _⟩
    · exact ⟨none, 0, 0, hcs⟩
    · exact ⟨_, _, _, hcs⟩
  obtain ⟨A, n, c, rfl⟩ := hs
  obtain ⟨xs, h1, _, h3, h4, h5⟩ := open_il (d := x.1) (ps := x.2) ht he hC ⟨fuel, h⟩
  exact ⟨A, n, c, xs, rfl, h1, h3, h4, h5⟩
/-- A list of elements of four cells that came in. -/
theorem open_fours {α : Type} (F : α → List Value) (p : α → Prop) {t e : TypeId} {fuel : Nat} {cs : List Value} {x : DataW H × List MemPlace} (ht : P.underlying t = some (.slice e)) (hC : P.cellsOf e = 4)
    (hel : ∀ fuel cs x, DataW.trod enc P w base spare held fuel e cs = some x → ∃ a, cs = F a ∧ p a)
    (h : DataW.trod enc P w base spare held fuel t cs = some x) :
    ∃ (A : Option Addr) (n c : Nat) (xs : List α), cs = [.slice A n c] ∧ xs.length = n ∧ n ≤ c ∧ c ≤ maxLen ∧ (∀ a ∈ xs, p a) ∧
      (0 < n → ∃ ad, A = some ad ∧ ad.block < w.heap.size ∧ ∀ i a j u, xs[i]? = some a → (F a)[j]? = some u → w.cell? ((ad.add (i * 4)).add j) = some u) := by
  rcases Deep.open_slice ht h with ⟨hcs, _⟩ | ⟨a, len, cap, m, n', D, Pl, hcs, hb, hl, hm, hmm, _, hi⟩
  · exact ⟨none, 0, 0, [], hcs, rfl, Nat.le_refl _, by simp [maxLen], by simp, fun h => absurd h (by omega)⟩
  · obtain ⟨xs, hlen, hx⟩ := list_of (fun i b => ((∀ j u, (F b)[j]? = some u → w.cell? ((a.add (i * 4)).add j) = some u) ∧ (F b).length = 4) ∧ p b) len (fun i hin => by
      obtain ⟨cs', hc, ht'⟩ := hi i (by rw [hmm]; split <;> omega)
      obtain ⟨b, rfl, hp⟩ := hel _ _ _ ht'
      rw [hC] at hc
      obtain ⟨_, hc1, hc2⟩ := World.cells?_some hc
      refine ⟨b, ⟨?_, hc1⟩, hp⟩
      intro j u hu
      have hj : j < 4 := by rw [← hc1]; exact (List.getElem?_eq_some_iff.1 hu).1
      rw [hc2 j hj]
      exact hu)
    refine ⟨some a, len, cap, xs, hcs, hlen, hl, hm, fun b hb' => ?_, fun h0 => ⟨a, rfl, ?_, fun i b j u hb' hu => (hx i b hb').1.1 j u hu⟩⟩
    · obtain ⟨i, hi'⟩ := List.getElem?_of_mem hb'
      exact (hx i b hi').2
    · obtain ⟨b, hb'⟩ : ∃ b, xs[0]? = some b := ⟨xs[0]'(by omega), List.getElem?_eq_getElem _⟩
      have h4 := (hx 0 b hb').1
      obtain ⟨u, hu⟩ : ∃ u, (F b)[0]? = some u := ⟨(F b)[0]'(by rw [h4.2]; omega), List.getElem?_eq_getElem _⟩
      have := World.block_lt_of_cell? w _ (h4.1 0 u hu)
      rwa [block_of_add, block_of_add] at this
end
def svF (s : Sv) : List Value := [.string s.nm, .int .i64 s.parts, .slice s.PA s.pn s.pc, .slice s.SA s.sn s.sc]
theorem svC_get {ss : List Sv} {j : Nat} {u : Value} (h : (svC ss)[j]? = some u) : ∃ s, ss[j / 4]? = some s ∧ (svF s)[j % 4]? = some u := by
  have hj : j < ss.length * 4 := by rw [← svC_len]; exact (List.getElem?_eq_some_iff.1 h).1
  have hx : ss[j / 4]? = some ss[j / 4] := List.getElem?_eq_getElem (by omega)
  refine ⟨_, hx, ?_⟩
  obtain ⟨h1, h2, h3, h4⟩ := svC_at hx
  have h5 : j % 4 = 0 ∨ j % 4 = 1 ∨ j % 4 = 2 ∨ j % 4 = 3 := by omega
  rcases h5 with hm | hm | hm | hm
  · rw [show j / 4 * 4 = j by omega, h] at h1; rw [hm]; exact h1.symm
  · rw [show j / 4 * 4 + 1 = j by omega, h] at h2; rw [hm]; exact h2.symm
  · rw [show j / 4 * 4 + 2 = j by omega, h] at h3; rw [hm]; exact h3.symm
  · rw [show j / 4 * 4 + 3 = j by omega, h] at h4; rw [hm]; exact h4.symm
section
variable {H : Type} {enc : TypeId × Value → H} {w : World} {base : Nat} {spare : Nat → Bool} {held : Bool} {r : Reach} {b0 : Nat}
theorem open_svF_laws {fuel : Nat} {cs : List Value} {x : DataW H × List MemPlace} (h : DataW.trod enc Try.prog w base spare held fuel 33 cs = some x) : ∃ s : Sv, cs = svF s ∧ SvOk w w.heap.size s ∧ SvBig s := by
  obtain ⟨y0, y1, y2, n, _, hl, g0, g1, g2⟩ := trod_struct3 Try.underlying33 h
  have hC : Try.prog.cellsOf 33 = 4 := by kernel_rfl
  rw [hC] at hl
  have k0 : Try.prog.cellsOf 9 = 1 := by kernel_rfl
  have k1 : Try.prog.cellsOf 30 = 2 := by kernel_rfl
  have k2 : Try.prog.cellsOf 31 = 1 := by kernel_rfl
  have k3 : Try.prog.cellsOf 2 = 1 := by kernel_rfl
  have k4 : Try.prog.cellsOf 28 = 1 := by kernel_rfl
  simp only [k0, k1, k2] at g0 g1 g2
  match cs, hl with
  | [c0, c1, c2, c3], _ =>
    obtain ⟨nm, e0, _, hz⟩ := DataW.trod_string Try.underlying9 g0
    obtain ⟨z0, z1, n2, _, _, f0, f1⟩ := trod_struct2 Try.underlying30 g1
    simp only [k3, k4] at f0 f1
    obtain ⟨parts, e1, _, w1⟩ := DataW.trod_int Try.underlying2 f0
    obtain ⟨PA, pn, pc, ps, e2, hr, hn, hc, hw⟩ := open_is Try.underlying28 Try.underlying2 (by kernel_rfl) f1
    obtain ⟨SA, sn, sc, xs, e3, hr2, hn2, hc2, hw2⟩ := open_fs Try.underlying31 Try.underlying63 (by kernel_rfl) g2
    simp at e0 e1 e2 e3
    subst e0 e1 e2 e3
    unfold maxLen at hz hc hc2
    exact ⟨⟨nm, parts, PA, pn, pc, ps, SA, sn, sc, xs⟩, rfl, ⟨hr, hr2, hw2, hw, w1⟩, ⟨hz, by show pn ≤ _; omega, by show sn ≤ _; omega⟩⟩
theorem open_svs_laws {d : DataW H} {ps : List MemPlace} {A : Option Addr} {n c : Nat} (h : DataW.Trod enc Try.prog w base spare held 22 (.slice A n c) d ps) :
    ∃ ss : List Sv, SvR w w.heap.size A n ss ∧ n ≤ c ∧ c ≤ maxLen ∧ ∀ s ∈ ss, SvBig s := by
  obtain ⟨fuel, hf⟩ := h
  obtain ⟨A', n', c', ss, hcs, hl, hn, hc, hp, hr⟩ := open_fours svF (fun s => SvOk w w.heap.size s ∧ SvBig s) Try.underlying22 (by kernel_rfl) (fun _ _ _ hf => open_svF_laws hf) hf
  simp [Value.cells] at hcs
  obtain ⟨rfl, rfl, rfl⟩ := hcs
  refine ⟨ss, ⟨⟨by rw [svC_len, hl], fun h0 => ?_⟩, fun s hs => (hp s hs).1⟩, hn, hc, fun s hs => (hp s hs).2⟩
  obtain ⟨ad, e, hb, hx⟩ := hr h0
  refine ⟨ad, e, hb, fun j u hu => ?_⟩
  obtain ⟨s, hs, hu'⟩ := svC_get hu
  have := hx _ _ _ _ hs hu'
  rw [add_of_add, show j / 4 * 4 + j % 4 = j by omega] at this
  exact this
theorem open_sv_laws {v : Value} {d : DataW H} {ps : List MemPlace} (hv : Value.okWide Try.prog w r b0 33 v) (h : DataW.Trod enc Try.prog w base spare held 33 v d ps) : ∃ s : Sv, v = svV s ∧ SvOk w w.heap.size s ∧ SvBig s := by
  obtain ⟨cs, rfl, hsz⟩ := okWide_struct Try.underlying33 hv
  obtain ⟨fuel, hf⟩ := h
  obtain ⟨s, hs, h1, h2⟩ := open_svF_laws hf
  simp only [Value.cells] at hs
  refine ⟨s, ?_, h1, h2⟩
  have : cs = (svF s).toArray := by rw [← hs]
  rw [this]
  rfl
theorem open_svF_impl {fuel : Nat} {cs : List Value} {x : DataW H × List MemPlace} (h : DataW.trod enc Try.prog w base spare held fuel 38 cs = some x) : ∃ s : Sv, cs = svF s ∧ SvOk w w.heap.size s ∧ SvBig s := by
  obtain ⟨y0, y1, y2, n, _, hl, g0, g1, g2⟩ := trod_struct3 Try.underlying38 h
  have hC : Try.prog.cellsOf 38 = 4 := by kernel_rfl
  rw [hC] at hl
  have k0 : Try.prog.cellsOf 9 = 1 := by kernel_rfl
  have k1 : Try.prog.cellsOf 36 = 2 := by kernel_rfl
  have k2 : Try.prog.cellsOf 31 = 1 := by kernel_rfl
  have k3 : Try.prog.cellsOf 2 = 1 := by kernel_rfl
  have k4 : Try.prog.cellsOf 28 = 1 := by kernel_rfl
  simp only [k0, k1, k2] at g0 g1 g2
  match cs, hl with
  | [c0, c1, c2, c3], _ =>
    obtain ⟨nm, e0, _, hz⟩ := DataW.trod_string Try.underlying9 g0
    obtain ⟨z0, z1, n2, _, _, f0, f1⟩ := trod_struct2 Try.underlying36 g1
    simp only [k3, k4] at f0 f1
    obtain ⟨parts, e1, _, w1⟩ := DataW.trod_int Try.underlying2 f0
    obtain ⟨PA, pn, pc, ps, e2, hr, hn, hc, hw⟩ := open_is Try.underlying28 Try.underlying2 (by kernel_rfl) f1
    obtain ⟨SA, sn, sc, xs, e3, hr2, hn2, hc2, hw2⟩ := open_fs Try.underlying31 Try.underlying63 (by kernel_rfl) g2
    simp at e0 e1 e2 e3
    subst e0 e1 e2 e3
    unfold maxLen at hz hc hc2
    exact ⟨⟨nm, parts, PA, pn, pc, ps, SA, sn, sc, xs⟩, rfl, ⟨hr, hr2, hw2, hw, w1⟩, ⟨hz, by show pn ≤ _; omega, by show sn ≤ _; omega⟩⟩
theorem open_svs_impl {d : DataW H} {ps : List MemPlace} {A : Option Addr} {n c : Nat} (h : DataW.Trod enc Try.prog w base spare held 25 (.slice A n c) d ps) :
    ∃ ss : List Sv, SvR w w.heap.size A n ss ∧ n ≤ c ∧ c ≤ maxLen ∧ ∀ s ∈ ss, SvBig s := by
  obtain ⟨fuel, hf⟩ := h
  obtain ⟨A', n', c', ss, hcs, hl, hn, hc, hp, hr⟩ := open_fours svF (fun s => SvOk w w.heap.size s ∧ SvBig s) Try.underlying25 (by kernel_rfl) (fun _ _ _ hf => open_svF_impl hf) hf
  simp [Value.cells] at hcs
  obtain ⟨rfl, rfl, rfl⟩ := hcs
  refine ⟨ss, ⟨⟨by rw [svC_len, hl], fun h0 => ?_⟩, fun s hs => (hp s hs).1⟩, hn, hc, fun s hs => (hp s hs).2⟩
  obtain ⟨ad, e, hb, hx⟩ := hr h0
  refine ⟨ad, e, hb, fun j u hu => ?_⟩
  obtain ⟨s, hs, hu'⟩ := svC_get hu
  have := hx _ _ _ _ hs hu'
  rw [add_of_add, show j / 4 * 4 + j % 4 = j by omega] at this
  exact this
theorem open_sv_impl {v : Value} {d : DataW H} {ps : List MemPlace} (hv : Value.okWide Try.prog w r b0 38 v) (h : DataW.Trod enc Try.prog w base spare held 38 v d ps) : ∃ s : Sv, v = svV s ∧ SvOk w w.heap.size s ∧ SvBig s := by
  obtain ⟨cs, rfl, hsz⟩ := okWide_struct Try.underlying38 hv
  obtain ⟨fuel, hf⟩ := h
  obtain ⟨s, hs, h1, h2⟩ := open_svF_impl hf
  simp only [Value.cells] at hs
  refine ⟨s, ?_, h1, h2⟩
  have : cs = (svF s).toArray := by rw [← hs]
  rw [this]
  rfl
end
end Go.Proofs.Ytjfmjeffmnjilaa.Opn
