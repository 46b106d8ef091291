/-
  Contracts of TurnMean: the reference's.
-/
import Derived.Test.YthfdgffgihjglaaTurn
import Derived.RegionTactic
import Derived.BigRegion
namespace Go.Proofs.Ythfdgffgihjglaa
open Go.RowKit Fl Mem
set_option linter.unusedVariables false
set_option maxRecDepth 100000

/-- The sums and the counts behind k numbers. -/
def sumsAt (xs : List Nat) (p k : Nat) : List Nat := (List.range p).map fun r => fsum (pickTo xs p r k)
def countsAt (xs : List Nat) (p k : Nat) : List Nat := (List.range p).map fun r => (pickTo xs p r k).length

theorem sumsAt_len (xs : List Nat) (p k : Nat) : (sumsAt xs p k).length = p := by simp [sumsAt]
theorem sumsAt_at {xs : List Nat} {p k r : Nat} (h : r < p) : (sumsAt xs p k)[r]? = some (fsum (pickTo xs p r k)) := by simp [sumsAt, h]
theorem countsAt_at {xs : List Nat} {p k r : Nat} (h : r < p) : (countsAt xs p k)[r]? = some (pickTo xs p r k).length := by simp [countsAt, h]
theorem sumsAt_succ {xs : List Nat} {p k x : Nat} (hp : 0 < p) (hx : xs[k]? = some x) : sumsAt xs p (k + 1) = (sumsAt xs p k).set (k % p) (fb .add .f32 (fsum (pickTo xs p (k % p) k)) x) := by
  have hr := Nat.mod_lt k hp
  apply List.ext_getElem?
  intro i
  rcases Nat.lt_or_ge i p with hi | hi
  · rw [sumsAt_at hi, List.getElem?_set, sumsAt_at hi]
    by_cases he : k % p = i
    · rw [if_pos he, if_pos (by rw [sumsAt_len]; omega), he, pickTo_yes hx he, fsum_snoc]
    · rw [if_neg he, pickTo_no he]
  · rw [List.getElem?_eq_none (by rw [sumsAt_len]; omega), List.getElem?_eq_none (by rw [List.length_set, sumsAt_len]; omega)]
theorem countsAt_succ {xs : List Nat} {p k x : Nat} (hp : 0 < p) (hx : xs[k]? = some x) : countsAt xs p (k + 1) = (countsAt xs p k).set (k % p) ((pickTo xs p (k % p) k).length + 1) := by
  have hr := Nat.mod_lt k hp
  have hl : ∀ k, (countsAt xs p k).length = p := by intro k; simp [countsAt]
  apply List.ext_getElem?
  intro i
  rcases Nat.lt_or_ge i p with hi | hi
  · rw [countsAt_at hi, List.getElem?_set, countsAt_at hi]
    by_cases he : k % p = i
    · rw [if_pos he, if_pos (by rw [hl]; omega), he, pickTo_yes hx he, List.length_append]; rfl
    · rw [if_neg he, pickTo_no he]
  · rw [List.getElem?_eq_none (by rw [hl]; omega), List.getElem?_eq_none (by rw [List.length_set, hl]; omega)]
theorem at_cn {zs ys : List Nat} {i z y : Nat} (h : zs.map (cn .f32) = ys) (hz : zs[i]? = some z) (hy : ys[i]? = some y) : cn .f32 z = y := by
  rw [← h, List.getElem?_map, hz] at hy
  injection hy
theorem blk_setF {α : Type} (F : α → Value) {w : World} {g : Nat} {t : TypeId} {xs : List α} {k : Nat} {y : α} (h : Blk w g t (xs.map F).toArray) : Blk (w.setCell ⟨g, k, none⟩ (F y)) g t ((xs.set k y).map F).toArray := by
  have := h.set_ k (F y)
  rwa [show ((xs.map F).toArray.setIfInBounds k (F y)) = ((xs.set k y).map F).toArray by simp [List.map_set]] at this

end Go.Proofs.Ythfdgffgihjglaa
