/-
  strings.Builder: what its parts do (as in the walk of JournalOf).
-/
import Derived.Test.YtjmpldcnhjgpkaaGreatDoorLtT
import Derived.Test.YtjmpldcnhjgpkaaGreatDoorDkG
import Derived.Test.YtjmpldcnhjgpkaaGreatDoorReadP
import Derived.Shelf.Strings.BuilderF
import Derived.Shelf.Strings.BuilderK
import Derived.Lib.SmallJoins
import Derived.Lib.AppendIntMem
namespace Go.Proofs.YtjmpldcnhjgpkaaGreatDoor
open Go.RowKit Mem Go.Shelf
set_option linter.unusedVariables false
set_option maxRecDepth 100000

theorem builder_below {T e : TypeId} {B b : Nat} {bs : List Value} {W W' : World} (h : Lib.IsBuilderF T e B b bs W) (hb : Below W.heap.size W W') : Lib.IsBuilderF T e B b bs W' := by
  have one : ∀ p, Lib.BuilderAtF T e B b p bs W → Lib.BuilderAtF T e B b p bs W' := by
    rintro p ⟨hB, v, hv, hown, hne⟩
    exact ⟨hB, v, (hb.block b (Array.getElem?_eq_some_iff.1 hv).1).trans hv, hown.kept (row := none) ⟨hb.os, hb.tape, hb.output, hb.size, fun k hk _ => hb.block k hk⟩ (Classical.em _), hne⟩
  exact h.elim (fun x => .inl (one _ x)) (fun x => .inr (one _ x))
abbrev Bld (B b : Nat) (s : ByteArray) (w : World) : Prop := Lib.IsBuilderF 82 5 B b (Lib.strCells s) w
theorem writeString_calls {B b : Nat} {s t : ByteArray} {w : World} (h : Bld B b s w) (hlen : s.size + t.size ≤ 140737488355328) (hB : B ≤ w.heap.size) :
    Calls Tryz.prog 39 #[.pointer (some ⟨b, 0, none⟩), .string t] w fun e w' => e = .returned (.tuple #[.int .i64 t.size, .nilIface]) ∧ Bld B b (s ++ t) w' ∧ Below B w w' := by
  refine (Any.Builder_WriteString_f { laysRepeat with } extraRepeat B b (Lib.strCells s) t w h (by rw [Lib.strCells_length]; exact hlen) hB).mono ?_
  rintro e w' ⟨rfl, h1, h2⟩
  refine ⟨rfl, .inr ?_, h2⟩
  have : Lib.strCells (s ++ t) = Lib.strCells s ++ Lib.strCells t := by unfold Lib.strCells; simp
  rw [this]
  exact h1
theorem builderString_calls {B b : Nat} {s : ByteArray} {w : World} (h : Bld B b s w) (hB : B ≤ w.heap.size) :
    Calls Tryz.prog 41 #[.pointer (some ⟨b, 0, none⟩)] w fun e w' => e = .returned (.string s) ∧ Below B w w' := by
  refine (Any.Builder_String_any_f { laysRepeat with } extraRepeat B b s.data.toList w h hB).mono ?_
  rintro e w' ⟨rfl, _, h2⟩
  exact ⟨rfl, h2⟩
theorem writeK_calls {B b : Nat} {s t : ByteArray} {w : World} (h : Bld B b s w) (hlen : s.size + t.size ≤ 140737488355328) (hB : B ≤ w.heap.size) :
    Calls Tryz.prog 39 #[.pointer (some ⟨b, 0, none⟩), .string t] w fun e w' => e = .returned (.tuple #[.int .i64 t.size, .nilIface]) ∧ Bld B b (s ++ t) w' ∧ Below B w w' ∧ Lib.OthersKept 5 (some b) w w' := by
  refine (Any.Builder_WriteString_k { laysRepeat with } extraRepeat B b (Lib.strCells s) t w h (by rw [Lib.strCells_length]; exact hlen) hB).mono ?_
  rintro e w' ⟨rfl, h1, h2, h3⟩
  refine ⟨rfl, .inr ?_, h2, h3⟩
  have : Lib.strCells (s ++ t) = Lib.strCells s ++ Lib.strCells t := by unfold Lib.strCells; simp
  rw [this]
  exact h1
theorem builderStringK {B b : Nat} {s : ByteArray} {w : World} (h : Bld B b s w) (h0 : s.data.toList ≠ []) :
    Calls Tryz.prog 41 #[.pointer (some ⟨b, 0, none⟩)] w fun e w' => e = .returned (.string s) ∧ Below B w w' ∧ Lib.OthersKept 5 (some b) w w' := by
  refine (Any.Builder_String_k { laysRepeat with } extraRepeat B b s.data.toList w h h0).mono ?_
  rintro e w' ⟨rfl, _, h2, h3⟩
  exact ⟨rfl, h2, h3⟩
theorem bld_off {B b : Nat} {s : ByteArray} {w : World} (h : Bld B b s w) {p : Addr} (hp : p.block < B) (u : Value) : Bld B b s (w.setCell p u) := by
  have one : ∀ q, Lib.BuilderAtF 82 5 B b q (Lib.strCells s) w → Lib.BuilderAtF 82 5 B b q (Lib.strCells s) (w.setCell p u) := by
    rintro q ⟨hB, v, hv, hown, hne⟩
    refine ⟨hB, v, (Below.heap_setCell w p u b (by omega)).trans hv, hown.kept (row := some p.block) (only_setCell (g := p.block) (World.grownBy.refl _ _) (.inl rfl) u) ?_, hne⟩
    cases ho : v.ownBlock with
    | none => exact .inl rfl
    | some k =>
      refine .inr ?_
      rcases hown.2 with ⟨rfl, _⟩ | ⟨g, cap, cur, fz, rfl, hb, _⟩
      · simp [Value.ownBlock] at ho
      · simp [Value.ownBlock] at ho
        intro e; injection e with e; omega
  exact h.elim (fun x => .inl (one _ x)) (fun x => .inr (one _ x))
theorem bld_blk {B b : Nat} {s : ByteArray} {w : World} (h : Bld B b s w) : B ≤ b ∧ ∃ cs fr, w.heap[b]? = some (.cells cs 82 fr) := by
  rcases h with ⟨hB, v, hv, _⟩ | ⟨hB, v, hv, _⟩
  · exact ⟨hB, _, _, hv⟩
  · exact ⟨hB, _, _, hv⟩
end Go.Proofs.YtjmpldcnhjgpkaaGreatDoor

/-
  Desks: what keeps their rows; what a script outputs.
-/
namespace Go.Proofs.YtjmpldcnhjgpkaaGreatDoor
open Go.RowKit Mem Fl Go.Shelf
set_option linter.unusedVariables false
set_option maxRecDepth 100000

theorem results_row_tmp2 {P : Program} {fn : Func} {p u x : Tmp} {ty : TypeId} (h : fn.results = #[.cell p ty, .tmp u, .tmp x]) (tmps : Array Value) (w : World) (g : Nat) (t : TypeId) (cs : Array Value) (fr : Nat × Nat) (d : TypeDesc)
    (hp : tmps.getD p undef = .pointer (some ⟨g, 0, none⟩)) (hg : w.heap[g]? = some (.cells cs t fr))
    (hu : P.underlying ty = some d) (hd : (match d with | .struct _ | .array _ _ => true | _ => false) = true) (hi : (P.info? ty).map (·.size) = some cs.size) :
    (results fn tmps).run P w = .ok (.tuple #[.agg cs, tmps.getD u undef, tmps.getD x undef]) w := by
  have e : (results fn tmps).run P w = ((asAddr (tmps.getD p undef)).run P w).andThen fun a w₁ => ((loadVar ty a).run P w₁).andThen fun v w₂ => .ok (.tuple #[v, tmps.getD u undef, tmps.getD x undef]) w₂ := by
    simp only [results, h]
    simp [Sem.run_bind, Result.andThen]
  rw [e, hp]
  simp [asAddr, run_loadVar_row w g t ty cs fr d hg hu hd hi, Result.andThen]
/-- A store into a block of another type. -/
theorem DkR.off {w : World} {lo B : Nat} {LA RA : Option Addr} {ln rn rc : Nat} {D : Dk} {T : TypeId} (h : DkR w lo B LA ln RA rn rc D) {p : Addr} (hp : BT w p.block T) (h1 : T ≠ 69) (h2 : T ≠ 25) (u : Value) : DkR (w.setCell p u) lo B LA ln RA rn rc D := by
  refine ⟨⟨h.l.1, fun hn => ?_⟩, ⟨h.r.1, fun hn => ?_⟩, h.l1, h.l2, h.r1, h.r2, h.rc, fun ad e => ⟨(h.la ad e).1, (h.la ad e).2.setCell _ _⟩, fun ad e => ⟨(h.ra ad e).1, (h.ra ad e).2.setCell _ _⟩⟩
  · obtain ⟨ad, e, hb, hc⟩ := h.l.2 hn
    have := hp.ne (h.la ad e).2 h1
    exact ⟨ad, e, hb, fun j v hv => (World.cell?_setCell_other w p _ u (fun e2 => by subst e2; exact this (block_of_add _ _))).trans (hc j v hv)⟩
  · obtain ⟨ad, e, hb, hc⟩ := h.r.2 hn
    have := hp.ne (h.ra ad e).2 h2
    exact ⟨ad, e, hb, fun j v hv => (World.cell?_setCell_other w p _ u (fun e2 => by subst e2; exact this (block_of_add _ _))).trans (hc j v hv)⟩
/-- Blocks that a builder leaves. -/
theorem others_block {w w' : World} {b g : Nat} {T : TypeId} (h : Lib.OthersKept 5 (some b) w w') (hg : BT w g T) (hT : T ≠ 5) (hb : g ≠ b) : w'.heap[g]? = w.heap[g]? := by
  obtain ⟨cs, fr, e⟩ := hg
  rw [h g _ e (fun e' => hb (by injection e')) (fun c fz e' => by injection e' with _ e'; exact hT e'), e]
theorem reads_block {w w' : World} {B size n : Nat} {A : Option Addr} {xs : List Value} (h : Reads w B size A n xs) (hk : ∀ ad, A = some ad → w'.heap[ad.block]? = w.heap[ad.block]?) : Reads w' B size A n xs :=
  ⟨h.1, fun hn => by
    obtain ⟨ad, e, hb, hc⟩ := h.2 hn
    exact ⟨ad, e, hb, fun j u hu => (World.cell?_of_block (by rw [block_of_add]; exact hk ad e)).trans (hc j u hu)⟩⟩
theorem DkR.others {w w' : World} {lo B b : Nat} {LA RA : Option Addr} {ln rn rc : Nat} {D : Dk} (h : DkR w lo B LA ln RA rn rc D) (hk : Lib.OthersKept 5 (some b) w w') (hb : BT w b 82) : DkR w' lo B LA ln RA rn rc D := by
  have k1 : ∀ ad, LA = some ad → w'.heap[ad.block]? = w.heap[ad.block]? := fun ad e => others_block hk (h.la ad e).2 (by decide) ((h.la ad e).2.ne hb (by decide))
  have k2 : ∀ ad, RA = some ad → w'.heap[ad.block]? = w.heap[ad.block]? := fun ad e => others_block hk (h.ra ad e).2 (by decide) ((h.ra ad e).2.ne hb (by decide))
  exact ⟨reads_block h.l k1, reads_block h.r k2, h.l1, h.l2, h.r1, h.r2, h.rc, fun ad e => ⟨(h.la ad e).1, (h.la ad e).2.kept (k1 ad e)⟩, fun ad e => ⟨(h.ra ad e).1, (h.ra ad e).2.kept (k2 ad e)⟩⟩
/-- A line that is carried out at a desk. -/
def Cmd (D : Dk) (line : ByteArray) (D' : Dk) (t : ByteArray) : Prop :=
  ∀ (v : Value) (w : World), DkV w v D → Gl w → Calls Tryz.prog 38 #[v, .string line] w fun e w' => ∃ v', e = .returned (.tuple #[v', .string t]) ∧ DkV w' v' D' ∧ Below w.heap.size w w'
/-- What is output of the first lines. -/
def outB (T : Nat → ByteArray) : Nat → ByteArray
  | 0 => ⟨#[]⟩
  | k + 1 => outB T k ++ (T k ++ ⟨#[10]⟩)
theorem outB_size {T : Nat → ByteArray} (h : ∀ k, (T k).size ≤ 100000) : ∀ k, (outB T k).size ≤ 100001 * k
  | 0 => Nat.le_refl _
  | k + 1 => by
    have := outB_size h k
    have h2 := h k
    have e : (⟨#[10]⟩ : ByteArray).size = 1 := rfl
    simp only [outB]
    rw [ByteArray.size_append, ByteArray.size_append]
    omega
end Go.Proofs.YtjmpldcnhjgpkaaGreatDoor
