/-
  The row's frame for a law that reads listed tables and, besides, a cell of the library's own: both the condition and the world's shape are handed on.
-/
import Derived.Test.YtjmpldcnhjgpkaaGreatDoorProg
import Derived.Test.YtjmpldcnhjgpkaaGreatDoorOps
import Derived.Test.YtjmpldcnhjgpkaaGreatDoorHelp
import Derived.Test.YtjmpldcnhjgpkaaGreatDoorVal
import Derived.Test.YtjmpldcnhjgpkaaGreatDoorRows
import Derived.HandedShaped
import Derived.WalkKit
import Derived.ProofKit
import Derived.LaidMore
import Derived.OpenShut
import Derived.Stop.Joined
import Derived.ShutString
import Derived.ChangeOld
import Derived.Below
import Derived.SevenTiedAt
import Derived.Deep.Slices
import Derived.Lib.LaidU8
import Derived.Stop.LaidErr
import Derived.Lib.LaidTab
import Derived.Shelf.Strconv.Itoa4
namespace Go.Proofs.YtjmpldcnhjgpkaaGreatDoor
open Go.ChangeShapes Go.WideShapes Go.ChangeAt Go.RowKit
set_option linter.unusedVariables false

theorem frame_shaped {H : Type} {enc : TypeId × Value → H} {a : Assume} {C : Checked} {os : Os} {f : FuncId} {fn : Func} {s : ChangeSpec} {conds : List PathCond} {X : World → Array Value → Prop}
    (heap : ∀ (w w' : World) (args : Array Value), w.heap = w'.heap → X w args → X w' args)
    (own : ownKnob C.prog.godebug = none) (started : os.Started) (noInit : C.prog.inits.idxOf? f = none) (hfn : C.prog.funcs[f]? = some fn)
    (seen : ∃ (w : World) (tape : Tape) (i : Input), w.os = os ∧ (w.forCall tape i).Shaped C.prog ∧ i.vars = [] ∧ Input.okWide C.prog (w.forCall tape i) .any w.heap.size f i ∧
      ((s.pre enc C.prog fn conds false (w.forCall tape i).memory i.args ∧ X (w.forCall tape i).memory i.args) ∧ sizedMet enc C.prog fn (OpenSpec.ofChange s) false (w.forCall tape i).memory i.args) ∧ a.holds C.prog (lone (Frame.enter C.prog f i.args .normal) [] (w.forCall tape i)))
    (walk : ∀ (W : World) (base : Nat) (args : Array Value) (ds gs : List (DataW H)) (before : List MemPlace),
      (∀ (j : Nat) t v, fn.params[j]? = some t → args[j]? = some v → Value.okWide C.prog W .any base t v) →
      DataW.Whole enc C.prog fn.params.toList s.vars false W args.toList ds gs before → X W args → W.ShapedOpen C.prog →
      Calls C.prog f args W fun e W' => ∃ v, e = .returned v ∧ s.post enc C.prog fn false true false false W args v W') :
    ReturnsInHanded a C os f .any (fun w args => (s.pre enc C.prog fn conds false w args ∧ X w args) ∧ sizedMet enc C.prog fn (OpenSpec.ofChange s) false w args) (s.post enc C.prog fn false true false false) :=
  returnsInHanded_of_calls own started noInit seen fun w tape i _ shape _ ok pre _ => by
    obtain ⟨_, _, _, g, hg, _, _, _, _, vals⟩ := ok
    obtain rfl : g = fn := Option.some.inj (hg.symm.trans hfn)
    obtain ⟨⟨⟨ds, gs, before, whole, _⟩, x⟩, _⟩ := pre
    exact (walk _ w.heap.size i.args ds gs before vals (DataW.Whole.of_heap (w' := w.forCall tape i) (by rfl) whole) (heap _ _ _ (by rfl) x) shape).mono
      fun e W' ⟨v, he, hp⟩ => by subst he; exact ChangeSpec.post_blind hp
end Go.Proofs.YtjmpldcnhjgpkaaGreatDoor

/-
  How the arguments of a law are opened: a slice of numbers that came in reads as a list; nil is let in.
-/
namespace Go.Proofs.YtjmpldcnhjgpkaaGreatDoor.Opn
open Go.RowKit Go.ChangeShapes Go.WideShapes Fl Mem

theorem list_of {α : Type} (Q : Nat → α → Prop) : ∀ n, (∀ i, i < n → ∃ a, Q i a) → ∃ xs : List α, xs.length = n ∧ ∀ i a, xs[i]? = some a → Q i a := by
  intro n
  induction n with
  | zero => intro _; exact ⟨[], rfl, by simp⟩
  | succ n ih =>
    intro h
    obtain ⟨xs, hl, hx⟩ := ih (fun i hi => h i (by omega))
    obtain ⟨a, ha⟩ := h n (by omega)
    refine ⟨xs ++ [a], by simp [hl], fun i b hb => ?_⟩
    rcases Nat.lt_or_ge i n with hi | hi
    · rw [List.getElem?_append_left (by omega)] at hb
      exact hx i b hb
    · rw [List.getElem?_append_right (by omega)] at hb
      rcases Nat.eq_or_lt_of_le hi with he | he
      · subst he; rw [hl] at hb; simp at hb; subst hb; exact ha
      · rw [List.getElem?_eq_none (by simp; omega)] at hb; cases hb

section
variable {H : Type} {enc : TypeId × Value → H} {P : Program} {w : World} {base : Nat} {spare : Nat → Bool} {held : Bool}

theorem trod_float {t : TypeId} {k : FloatKind} {fuel : Nat} {cs : List Value} {x : DataW H × List MemPlace} (ht : P.underlying t = some (.float k)) (h : DataW.trod enc P w base spare held fuel t cs = some x) :
    ∃ b, cs = [.float k b] ∧ Wf k b := by
  cases fuel with
  | zero => simp [DataW.trod] at h
  | succ n =>
    cases cs with
    | nil => simp [DataW.trod, ht] at h
    | cons v r =>
      cases r with
      | cons _ _ => simp [DataW.trod, ht] at h
      | nil =>
        cases v <;> simp [DataW.trod, ht] at h
        rename_i k' b
        obtain ⟨⟨rfl, hw⟩, _⟩ := h
        exact ⟨b, rfl, lt_of_wf hw⟩

/-- A slice of one-celled elements that came in. -/
theorem open_list {α : Type} (F : α → Value) (p : α → Prop) {t e : TypeId} {A : Option Addr} {n c : Nat} {d : DataW H} {ps : List MemPlace} (ht : P.underlying t = some (.slice e)) (hC : P.cellsOf e = 1)
    (hel : ∀ fuel cs x, DataW.trod enc P w base spare held fuel e cs = some x → ∃ a, cs = [F a] ∧ p a)
    (h : DataW.Trod enc P w base spare held t (.slice A n c) d ps) :
    ∃ xs : List α, Reads w w.heap.size 1 A n (xs.map F) ∧ xs.length = n ∧ n ≤ c ∧ c ≤ maxLen ∧ ∀ a ∈ xs, p a := by
  obtain ⟨fuel, hf⟩ := h
  rcases Deep.open_slice ht hf with ⟨hcs, _⟩ | ⟨a, len, cap, m, n', D, Pl, hcs, hb, hl, hm, hmm, _, hi⟩
  · simp [Value.cells] at hcs
    obtain ⟨rfl, rfl, rfl⟩ := hcs
    exact ⟨[], Reads.none_, rfl, Nat.le_refl _, by simp [maxLen], by simp⟩
  · simp [Value.cells] at hcs
    obtain ⟨rfl, rfl, rfl⟩ := hcs
    obtain ⟨xs, hlen, hx⟩ := list_of (fun i b => w.cell? (a.add i) = some (F b) ∧ p b) n (fun i hin => by
      obtain ⟨cs', hc, ht'⟩ := hi i (by rw [hmm]; split <;> omega)
      obtain ⟨b, rfl, hp⟩ := hel _ _ _ ht'
      rw [hC, Nat.mul_one] at hc
      exact ⟨b, cell_of_cells?_one hc, hp⟩)
    refine ⟨xs, ⟨by simp [hlen], fun h0 => ⟨a, rfl, ?_, fun j u hu => ?_⟩⟩, hlen, hl, hm, fun b hb => ?_⟩
    · obtain ⟨b, hb⟩ : ∃ b, xs[0]? = some b := ⟨xs[0]'(by omega), List.getElem?_eq_getElem _⟩
      have := World.block_lt_of_cell? w _ (hx 0 b hb).1
      rwa [block_of_add] at this
    · rw [List.getElem?_map] at hu
      cases hj : xs[j]? with
      | none => rw [hj] at hu; cases hu
      | some b => rw [hj] at hu; injection hu with hu; subst hu; exact (hx j b hj).1
    · obtain ⟨i, hi'⟩ := List.getElem?_of_mem hb
      exact (hx i b hi').2

theorem open_fl {t e : TypeId} {k : FloatKind} {A : Option Addr} {n c : Nat} {d : DataW H} {ps : List MemPlace} (ht : P.underlying t = some (.slice e)) (he : P.underlying e = some (.float k)) (hC : P.cellsOf e = 1)
    (h : DataW.Trod enc P w base spare held t (.slice A n c) d ps) :
    ∃ xs : List Nat, Reads w w.heap.size 1 A n (xs.map (Value.float k)) ∧ xs.length = n ∧ n ≤ c ∧ c ≤ maxLen ∧ ∀ a ∈ xs, Wf k a :=
  open_list (Value.float k) (Wf k) ht hC (fun _ _ _ hf => trod_float he hf) h

theorem open_il {t e : TypeId} {k : IntKind} {A : Option Addr} {n c : Nat} {d : DataW H} {ps : List MemPlace} (ht : P.underlying t = some (.slice e)) (he : P.underlying e = some (.int k)) (hC : P.cellsOf e = 1)
    (h : DataW.Trod enc P w base spare held t (.slice A n c) d ps) :
    ∃ xs : List Int, Reads w w.heap.size 1 A n (xs.map (Value.int k)) ∧ xs.length = n ∧ n ≤ c ∧ c ≤ maxLen ∧ ∀ a ∈ xs, (Lit.int k a).wf = true :=
  open_list (Value.int k) (fun a => (Lit.int k a).wf = true) ht hC (fun _ _ _ hf => by
    obtain ⟨m, h1, _, h2⟩ := DataW.trod_int he hf
    exact ⟨m, h1, h2⟩) h
end
end Go.Proofs.YtjmpldcnhjgpkaaGreatDoor.Opn

/-
  The witness's world where a row lists unicode/utf8.first, whose text the translation bears no literal of: what the door's run leaves, the table laid into its variable.
-/
namespace Go.Proofs.YtjmpldcnhjgpkaaGreatDoor
open Go.ChangeShapes Go.WideShapes Go.ChangeAt Go.RowKit

noncomputable def doorW (os : Os) : World :=
  { World.doorLaid Tryz.prog 400 os with
    heap := (World.doorLaid Tryz.prog 400 os).heap.modify 5 fun
      | .cells _ t fz => .cells (Lib.firstTab.map fun z => Value.int .u8 z).toArray t fz
      | o => o }
end Go.Proofs.YtjmpldcnhjgpkaaGreatDoor

/-
  The library's two errors, out of what a row lists.
-/
namespace Go.Proofs.YtjmpldcnhjgpkaaGreatDoor
open Go.RowKit Mem
set_option linter.unusedVariables false

theorem err_star : "*" ++ "errors.errorString" = "*errors.errorString" := by decide
theorem err_row (u : TypeId) (h : Tryz.prog.typeName? 3 u = some "*errors.errorString") : u = 265 :=
  typeName_ptr_named (nm := "errors.errorString") (by rw [err_star]; kernel_rfl) (by kernel_rfl) (by decide) u (by rw [err_star]; exact h)
theorem err_cell {n : String} {g : Nat} {text : List UInt8} {r : List (String × DataW Unit)} {W : World} (hg : Tryz.prog.globalNamed n = some g) (ht : (Tryz.prog.globals[g]?).map (·.type) = some 86)
    (h : laidMet Tryz.prog ((n, .iface "*errors.errorString" (.ptr (.agg [.lit (.string text)]))) :: r) W) : ∃ te pe, W.cell? ⟨g, 0, none⟩ = some (.iface te pe) := by
  obtain ⟨a0, s0, hv0, -, -, -⟩ := laid_sentinel h hg ht Tryz.underlying86 err_row Tryz.underlying265 Tryz.underlying267 rfl rfl Tryz.underlying9 (by kernel_rfl) (by kernel_rfl)
  exact ⟨_, _, by have h0 := World.var?_cell hg hv0 0; simpa using h0⟩
theorem errs_of {W : World} {t1 t2 : List UInt8} {r1 r2 : List (String × DataW Unit)}
    (h1 : laidMet Tryz.prog (("strconv.ErrRange", .iface "*errors.errorString" (.ptr (.agg [.lit (.string t1)]))) :: r1) W)
    (h2 : laidMet Tryz.prog (("strconv.ErrSyntax", .iface "*errors.errorString" (.ptr (.agg [.lit (.string t2)]))) :: r2) W) : Errs W :=
  ⟨err_cell (show Tryz.prog.globalNamed "strconv.ErrSyntax" = some 7 by kernel_rfl) (by kernel_rfl) h2, err_cell (show Tryz.prog.globalNamed "strconv.ErrRange" = some 8 by kernel_rfl) (by kernel_rfl) h1⟩
end Go.Proofs.YtjmpldcnhjgpkaaGreatDoor

/-
  What the rows list of the library's tables, as the walks want it: the cells.
-/
namespace Go.Proofs.YtjmpldcnhjgpkaaGreatDoor
open Go.RowKit
set_option linter.unusedVariables false
set_option maxRecDepth 100000

theorem tab_reads {P : Program} {W : World} {name : String} {k : IntKind} {zs : List Int} {g : Nat} {t e : TypeId} {n : Nat}
    (hg : P.globalNamed name = some g) (hty : (P.globals[g]?).map (·.type) = some t) (ht : P.underlying t = some (.array n e)) (he : P.underlying e = some (.int k)) (hce : P.cellsOf e = 1) (hct : P.cellsOf t = n)
    (h : Lib.VarReads P W name (Lib.tabData k zs)) : Lib.TabIs P W name k zs := by
  obtain ⟨g', t', cs, fuel, p, hg', ht', hvar, hd⟩ := h
  obtain rfl := Option.some.inj (hg.symm.trans hg')
  obtain rfl := Option.some.inj (hty.symm.trans ht')
  unfold Lib.TabIs
  rw [hvar, ← Lib.cells_of_tab ht he hce hct hd]
def debTab : List Int := [0, 1, 56, 2, 57, 49, 28, 3, 61, 58, 42, 50, 38, 29, 17, 4, 62, 47, 59, 36, 45, 43, 51, 22, 53, 39, 33, 30, 24, 18, 12, 5, 63, 55, 48, 27, 60, 41, 37, 16, 46, 35, 44, 21, 52, 32, 23, 11, 54, 26, 40, 15, 34, 20, 31, 10, 25, 14, 19, 9, 13, 8, 7, 6]
theorem deb_is : (Rows.laid_math_bits_deBruijn64tab : DataW Unit) = Lib.tabData .u8 debTab := by kernel_rfl
theorem deb_named : Tryz.prog.globalNamed "math/bits.deBruijn64tab" = some 4 := by kernel_rfl
theorem deb_cell {W : World} (h : Lib.VarReads Tryz.prog W "math/bits.deBruijn64tab" Rows.laid_math_bits_deBruijn64tab) : W.cell? ⟨4, 15, none⟩ = some (.int .u8 4) := by
  rw [deb_is] at h
  exact (tab_reads deb_named (by kernel_rfl) (ht := Tryz.underlying234) Tryz.underlying5 (by kernel_rfl) (by kernel_rfl) h).cell deb_named 15 (by decide)
theorem pow_is : (Rows.laid_internal_strconv_uint64pow10 : DataW Unit) = Lib.tabData .u64 Lib.pow10Tab := by kernel_rfl
theorem pow_named : Tryz.prog.globalNamed "internal/strconv.uint64pow10" = some 1 := by kernel_rfl
theorem pow_tab {W : World} (h : Lib.VarReads Tryz.prog W "internal/strconv.uint64pow10" Rows.laid_internal_strconv_uint64pow10) : Lib.TabIs Tryz.prog W "internal/strconv.uint64pow10" .u64 Lib.pow10Tab := by
  rw [pow_is] at h
  exact tab_reads pow_named (by kernel_rfl) (ht := Tryz.underlying183) Tryz.underlying115 (by kernel_rfl) (by kernel_rfl) h
end Go.Proofs.YtjmpldcnhjgpkaaGreatDoor
