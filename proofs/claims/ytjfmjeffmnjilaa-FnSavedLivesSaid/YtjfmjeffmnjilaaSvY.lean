/-
  Is a system with a signal valid: both sides.
-/
import Derived.Test.YtjfmjeffmnjilaaSvX
import Derived.Test.YtjfmjeffmnjilaaSvC
namespace Go.Proofs.Ytjfmjeffmnjilaa
open Go.RowKit Fl Mem
set_option linter.unusedVariables false
set_option maxRecDepth 100000

def svB (s : Sv) : Bool := nameB s.nm && (sysB s.parts s.ps && isSig s.xs)
theorem blk4_cell {w : World} {t : TypeId} {c0 c1 c2 c3 : Value} {w' : World} (hb : Below (w.alloc (.cells #[c0, c1, c2, c3] t)).heap.size (w.alloc (.cells #[c0, c1, c2, c3] t)) w') (i : Nat) : w'.cell? ⟨w.heap.size, i, none⟩ = #[c0, c1, c2, c3][i]? := box_cell1 hb i
set_option maxHeartbeats 2000000 in
theorem i_ValidSavedG {s : Sv} {B : Nat} {w : World} (h : SvOk w B s) (hB : B ≤ w.heap.size) (hl : SvLe 9223372036854775807 s) :
    Calls Try.prog 19 #[svV s] w fun e w' => e = .returned (.bool (svB s)) ∧ Below w.heap.size w w' := by
  rcases s with ⟨nm, parts, PA, pn, pc, ps, SA, sn, sc, xs⟩
  have P1 := fun o => h.paths.alloc hB o
  have S1 := fun o => h.sig.alloc hB o
  have l1 := hl.pn
  have l2 := hl.sn
  have l3 := hl.nm
  dsimp only at P1 S1 l1 l2 l3
  have HU : Hid (svB ⟨nm, parts, PA, pn, pc, ps, SA, sn, sc, xs⟩ = (nameB nm && (sysB parts ps && isSig xs))) := hide rfl
  cases h1 : nameB nm with
  | false =>
    rw [h1] at HU
    go_enter Try.func19, Try.ntmps19
    go_wp2_with (go_at_call 48; refine (calls_bool (i_IsName (by omega)) h1).mono ?_; rintro e w' ⟨rfl, rfl⟩)
    go_ret
    exact ⟨ret_bool HU.out.symm, below_al' (Nat.le_refl _) _⟩
  | true =>
    rw [h1, Bool.true_and] at HU
    cases h2 : sysB parts ps with
    | false =>
      rw [h2] at HU
      go_enter Try.func19, Try.ntmps19
      go_wp2_with (first | (go_at_call 48; refine (calls_bool (i_IsName (by omega)) h1).mono ?_; rintro e w' ⟨rfl, rfl⟩) | (go_at_call 49; refine (calls_bool (i_ValidSystem (P1 _) (by simp; omega) l1) h2).mono ?_; rintro e w3 ⟨rfl, hb3⟩))
      go_ret
      exact ⟨ret_bool HU.out.symm, (below_al' (Nat.le_refl _) _).trans (hb3.mono (by simp))⟩
    | true =>
      rw [h2, Bool.true_and] at HU
      go_enter Try.func19, Try.ntmps19
      go_wp2_with (first | (go_at_call 48; refine (calls_bool (i_IsName (by omega)) h1).mono ?_; rintro e w' ⟨rfl, rfl⟩) | (go_at_call 49; refine (calls_bool (i_ValidSystem (P1 _) (by simp; omega) l1) h2).mono ?_; rintro e w3 ⟨rfl, hb3⟩; have c3 : w3.cell? ⟨w.heap.size, 3, none⟩ = some (.slice SA sn sc) := blk4_cell hb3 3) | (go_at_call 50; refine (i_IsSignal _ _ _ xs _ _ ((S1 _).below (hb3.mono (by simp; omega))) (by unfold maxLen; omega)).mono ?_; rintro e w4 ⟨rfl, m, rfl⟩))
      go_ret
      exact ⟨ret_bool HU.out.symm, below_drewN ((below_al' (Nat.le_refl _) _).trans (hb3.mono (by simp))) _⟩
set_option maxHeartbeats 2000000 in
theorem s_l07SavedG {nm : ByteArray} {parts : Int} {PA SA : Option Addr} {pn pc sn sc B : Nat} {p : Addr} {ps : List Int} {xs : List Nat} {w : World} (c0 : w.cell? p = some (.string nm)) (c1 : w.cell? ⟨p.block, p.off + 1, none⟩ = some (.int .i64 parts)) (c2 : w.cell? ⟨p.block, p.off + 2, none⟩ = some (.slice PA pn pc)) (c3 : w.cell? ⟨p.block, p.off + 3, none⟩ = some (.slice SA sn sc))
    (h : SvOk w B ⟨nm, parts, PA, pn, pc, ps, SA, sn, sc, xs⟩) (l3 : nm.size ≤ 9223372036854775807) (l1 : pn ≤ 9223372036854775807) (l2 : sn ≤ 9223372036854775807) :
    Calls Try.prog 45 #[.pointer (some p)] w fun e w' => e = .returned (.bool (nameB nm && (sysB parts ps && isSig xs))) ∧ ∃ m, w' = w.drewN m := by
  have P1 := h.paths
  have S1 := fun m => h.sig.drewN m
  have W1 := h.wfi
  dsimp only at P1 S1 W1
  clear h
  cases h1 : nameB nm with
  | false =>
    go_enter Try.func45, Try.ntmps45
    go_wp2_with (go_at_call 76; refine (calls_bool (s_l07Name (by omega)) h1).mono ?_; rintro e w' ⟨rfl, hw⟩; rw [hw])
    go_ret
    exact ⟨rfl, 0, rfl⟩
  | true =>
    cases h2 : sysB parts ps with
    | false =>
      go_enter Try.func45, Try.ntmps45
      go_wp2_with (first | (go_at_call 76; refine (calls_bool (s_l07Name (by omega)) h1).mono ?_; rintro e w' ⟨rfl, hw⟩; rw [hw]) | (go_at_call 77; refine (calls_bool (s_l03Is (b := p.block) (o := p.off + 1) c1 c2 P1 l1 W1) h2).mono ?_; rintro e w3 ⟨rfl, m, rfl⟩))
      go_ret
      exact ⟨rfl, _, rfl⟩
    | true =>
      go_enter Try.func45, Try.ntmps45
      go_wp2_with (first | (go_at_call 76; refine (calls_bool (s_l07Name (by omega)) h1).mono ?_; rintro e w' ⟨rfl, hw⟩; rw [hw]) | (go_at_call 77; refine (calls_bool (s_l03Is (b := p.block) (o := p.off + 1) c1 c2 P1 l1 W1) h2).mono ?_; rintro e w3 ⟨rfl, m, rfl⟩) | (go_at_call 78; refine (s_l07Signal _ _ _ xs _ _ (S1 _) (by unfold maxLen; omega)).mono ?_; rintro e w4 ⟨rfl, m2, rfl⟩))
      go_ret
      exact ⟨rfl, by first | exact ⟨_, rfl⟩ | exact ⟨_, World.drewN_drewN _ _ _⟩⟩
theorem s_l07Saved {nm : ByteArray} {parts : Int} {PA SA : Option Addr} {pn pc sn sc B : Nat} {p : Addr} {ps : List Int} {xs : List Nat} {w : World} (c0 : w.cell? p = some (.string nm)) (c1 : w.cell? ⟨p.block, p.off + 1, none⟩ = some (.int .i64 parts)) (c2 : w.cell? ⟨p.block, p.off + 2, none⟩ = some (.slice PA pn pc)) (c3 : w.cell? ⟨p.block, p.off + 3, none⟩ = some (.slice SA sn sc))
    (h : SvOk w B ⟨nm, parts, PA, pn, pc, ps, SA, sn, sc, xs⟩) (l3 : nm.size ≤ 1048576) (l1 : pn ≤ 1048576) (l2 : sn ≤ 1048576) :
    Calls Try.prog 45 #[.pointer (some p)] w fun e w' => e = .returned (.bool (nameB nm && (sysB parts ps && isSig xs))) ∧ ∃ m, w' = w.drewN m := s_l07SavedG c0 c1 c2 c3 h (by omega) (by omega) (by omega)
theorem i_ValidSaved {s : Sv} {B : Nat} {w : World} (h : SvOk w B s) (hB : B ≤ w.heap.size) (hl : SvLe 1048576 s) :
    Calls Try.prog 19 #[svV s] w fun e w' => e = .returned (.bool (svB s)) ∧ Below w.heap.size w w' := i_ValidSavedG h hB (hl.up (by omega))
theorem s_ValidSaved {s : Sv} {B : Nat} {w : World} (h : SvOk w B s) (hB : B ≤ w.heap.size) (hl : SvLe 1048576 s) :
    Calls Try.prog 17 #[svV s] w fun e w' => e = .returned (.bool (svB s)) ∧ Below w.heap.size w w' := by
  rcases s with ⟨nm, parts, PA, pn, pc, ps, SA, sn, sc, xs⟩
  have H1 := fun o => h.alloc hB o
  have l1 := hl.pn
  have l2 := hl.sn
  have l3 := hl.nm
  dsimp only at l1 l2 l3
  go_enter Try.func17, Try.ntmps17
  go_wp2_with fail
  refine (s_l07Saved (p := ⟨w.heap.size, 0, none⟩) (by simp) (by simp) (by simp) (by simp) (H1 _) l3 l1 l2).mono ?_
  rintro e w3 ⟨rfl, m, rfl⟩
  go_wp2
  go_ret
  exact ⟨rfl, below_drewN (below_al' (Nat.le_refl _) _) _⟩
end Go.Proofs.Ytjfmjeffmnjilaa
