/-
  The reference's decimal numeral: its walk.
-/
import Derived.Test.YtlpfnpcnidaijaaDoorDec
namespace Go.Proofs.YtlpfnpcnidaijaaDoor
open Go.RowKit Mem
set_option linter.unusedVariables false
set_option maxRecDepth 100000

def lenOf : Value → Nat
  | .slice _ n _ => n
  | _ => 0
theorem own_lit {w : World} {base : Nat} {e : TypeId} {u : Value} (hb : base ≤ w.heap.size) : (w.alloc (.cells #[u] e)).ownsRow base e 1 (.slice (some ⟨w.heap.size, 0, none⟩) 1 1) 1 [u] :=
  ⟨rfl, .inr ⟨w.heap.size, 1, #[u], rfl, hb, heap_alloc_new w _, by omega, by simp [maxLen], rfl, rfl⟩⟩
/-- The bytes of a row. -/
def Row8 (w : World) (g : Nat) (L : List UInt8) : Prop := ∀ j (hj : j < L.length), w.cell? ⟨g, j, none⟩ = some (.int .u8 (L[j].toNat : Int))
theorem row8_own {w : World} {base m : Nat} {v : Value} {xs : List Value} {L : List UInt8} (hne : L ≠ []) (h : w.ownsRow base 5 1 v m xs) (hx : xs = by8 L) (hm : L.length = m) : ∃ g cap, v = .slice (some ⟨g, 0, none⟩) m cap ∧ base ≤ g ∧ g < w.heap.size ∧ Row8 w g L := by
  subst hx hm
  have hlen : 0 < L.length := List.length_pos_iff.2 hne
  obtain ⟨h1, h2⟩ := h
  rcases h2 with ⟨_, h2⟩ | ⟨g, cap, cur, rfl, hb, hg, hn, hc, hs, ht⟩
  · omega
  · refine ⟨g, cap, rfl, hb, ?_, fun j hj => ?_⟩
    · exact (Array.getElem?_eq_some_iff.1 hg).1
    · rw [cell_of_row w g j cur _ _ hg]
      have : (by8 L)[j]? = some (.int .u8 (L[j].toNat : Int)) := by simp [hj]
      rw [← ht, List.getElem?_take, if_pos (by omega)] at this
      rwa [← Array.getElem?_toList]
theorem by8_get {w : World} {g : Nat} {L : List UInt8} (h : Row8 w g L) : ∀ j u, (by8 L)[j]? = some u → w.cell? ((⟨g, 0, none⟩ : Addr).add j) = some u := by
  intro j u hu
  have hj : j < L.length := by have := (List.getElem?_eq_some_iff.1 hu).1; simpa using this
  have := h j hj
  simp [hj] at hu
  subst hu
  by_cases h0 : j = 0
  · subst h0; simpa [Addr.add] using this
  · simpa [Addr.add, h0] using this
theorem by8_one {L : List UInt8} : ∀ u ∈ by8 L, u.oneCell' = true := by
  intro u hu
  simp at hu
  obtain ⟨b, _, rfl⟩ := hu
  rfl

theorem dig_val (k : Nat) (h : k < 10) : (((UInt8.ofNat (48 + k)).toNat : Nat) : Int) = 48 + (k : Int) := by
  have : (UInt8.ofNat (48 + k)).toNat = 48 + k := by simp [UInt8.toNat_ofNat']; omega
  rw [this]; push_cast; rfl
theorem dig_neg {r : Int} (h : r.tmod 10 < 0) : wrap64 (48 + wrap64 (-r.tmod 10)) % 256 = (((UInt8.ofNat (48 + (r.tmod 10).natAbs)).toNat : Nat) : Int) := by
  have h2 := tmod_abs r
  rw [dig_val _ (by omega)]
  unfold wrap64
  omega
theorem dig_pos {r : Int} (h : ¬ r.tmod 10 < 0) : wrap64 (48 + r.tmod 10) % 256 = (((UInt8.ofNat (48 + (r.tmod 10).natAbs)).toNat : Nat) : Int) := by
  have h2 := tmod_abs r
  rw [dig_val _ (by omega)]
  unfold wrap64
  omega
theorem row8_one {w : World} {g : Nat} {b : UInt8} {v : Int} (h : w.cell? ⟨g, 0, none⟩ = some (.int .u8 v)) (hv : v = (b.toNat : Int)) : Row8 w g [b] := by
  intro j hj
  obtain rfl : j = 0 := by simp at hj; exact hj
  rw [h, hv]; rfl
theorem dec_meas {r : Int} {m : Nat} (h : r ≠ 0 ∨ m = 0) : (r.tdiv 10).natAbs < r.natAbs + (if m = 0 then 1 else 0) := by
  rw [tdiv_abs]
  rcases h with h | h
  · split <;> omega
  · rw [if_pos h]; omega

theorem add_zero' (g j : Nat) : (⟨g, 0, none⟩ : Addr).add j = ⟨g, j, none⟩ := by
  by_cases h0 : j = 0
  · subst h0; simp [Addr.add]
  · simp [Addr.add, h0]
theorem conv_row {w : World} {g m cap : Nat} {L : List UInt8} (h : Row8 w g L) (hm : L.length = m) : (convert 22 9 (.slice (some ⟨g, 0, none⟩) m cap)).run Tryd.prog w = .ok (.string ⟨L.toArray⟩) w := by
  subst hm
  exact run_convert_bytes_back w _ _ 5 _ cap L Tryd.underlying22 Tryd.underlying5 Tryd.underlying9 (fun j hj => by rw [add_zero']; exact h j hj)
end Go.Proofs.YtlpfnpcnidaijaaDoor
