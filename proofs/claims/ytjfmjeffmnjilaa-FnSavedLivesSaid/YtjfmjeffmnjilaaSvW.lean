/-
  Is a system with a signal valid: the program's walk.
-/
import Derived.Test.YtjfmjeffmnjilaaSvV
import Derived.Test.YtjfmjeffmnjilaaSvI
import Derived.Laws.BitsLemmas
namespace Go.Proofs.Ytjfmjeffmnjilaa
open Go.RowKit Fl Mem
set_option linter.unusedVariables false
set_option maxRecDepth 100000

theorem pow_wrap {p : Int} (h0 : 1 ≤ p) (h1 : p ≤ 10) : ∃ M : Int, M = (2 : Int) ^ p.toNat ∧ 2 ≤ M ∧ M ≤ 1024 := by
  refine ⟨_, rfl, ?_, ?_⟩
  · have : (2 : Int) ^ 1 ≤ 2 ^ p.toNat := by exact_mod_cast Nat.pow_le_pow_right (by decide : 0 < 2) (show 1 ≤ p.toNat by omega)
    omega
  · have : (2 : Int) ^ p.toNat ≤ 2 ^ 10 := by exact_mod_cast Nat.pow_le_pow_right (by decide : 0 < 2) (show p.toNat ≤ 10 by omega)
    omega
theorem sysB'_eq {p : Int} {xs : List Int} {n : Nat} (hl : xs.length = n) : sysB' p xs = (inB p 1 10 && (manyB xs n 1 64 1 ((2 : Int) ^ p.toNat - 1) && decide (xs = leastL xs))) := by
  subst hl
  unfold sysB' manyB inB
  rw [Bool.eq_iff_iff]
  simp only [Bool.and_eq_true, decide_eq_true_iff, List.all_eq_true, and_assoc]
  constructor
  · rintro ⟨h1, h2, h3, h4, h5, h6⟩
    exact ⟨h1, h2, by omega, by omega, h5, h6⟩
  · rintro ⟨h1, h2, h3, h4, h5, h6⟩
    exact ⟨h1, h2, by omega, by omega, h5, h6⟩
set_option maxHeartbeats 2000000 in
theorem i_ValidSystem {p : Int} {A : Option Addr} {n c B : Nat} {xs : List Int} {w : World} (h : Reads w B 1 A n (il xs)) (hB : B ≤ w.heap.size) (hn : n ≤ 9223372036854775807) :
    Calls Try.prog 49 #[sysV p A n c] w fun e w' => e = .returned (.bool (sysB p xs)) ∧ Below w.heap.size w w' := by
  have HU := hide ((sysB_eq p xs).symm.trans (sysB'_eq (p := p) h.map_len))
  have R1 : Reads (w.alloc (.cells #[.int .i64 p, .slice A n c] 36)) B 1 A n (il xs) := h.alloc hB _
  have hB1 : B ≤ (w.alloc (.cells #[.int .i64 p, .slice A n c] 36)).heap.size := by simp; omega
  have hbx : w.heap.size < (w.alloc (.cells #[.int .i64 p, .slice A n c] 36)).heap.size := by simp
  have bel1 : Below w.heap.size w (w.alloc (.cells #[.int .i64 p, .slice A n c] 36)) := (Below.refl _ _).alloc (Nat.le_refl _) _
  have c0 : ∀ q : BelW (w.alloc (.cells #[.int .i64 p, .slice A n c] 36)), q.v.cell? ⟨w.heap.size, 0, none⟩ = some (.int .i64 p) := cell_bel (by simp) (by simp)
  have c1 : ∀ q : BelW (w.alloc (.cells #[.int .i64 p, .slice A n c] 36)), q.v.cell? ⟨w.heap.size, 1, none⟩ = some (.slice A n c) := cell_bel (by simp) (by simp)
  cases hq : inB p 1 10 with
  | false =>
    rw [hq] at HU
    go_enter Try.func49, Try.ntmps49
    go_wp2_with fail
    refine wp_region_quiet_bel (by kernel_rfl) (by kernel_rfl) ?_
    repeat (go_big_quiet_step ((go_at_call 80; exact Calls.bel_same (calls_bool i_areParts hq))))
    refine wpQuiet_nil ?_
    intro w9 hw'
    obtain ⟨p, rfl⟩ := hw'
    have hqb := p.h
    generalize p.v = wq at hqb ⊢
    clear p
    go_wp2
    go_ret
    exact ⟨ret_bool HU.out.symm, bel1.trans (hqb.mono (by simp))⟩
  | true =>
    rw [hq, Bool.true_and] at HU
    obtain ⟨h0, h1⟩ := inB_iff.1 hq
    obtain ⟨M, hM, m0, m1⟩ := pow_wrap h0 h1
    rw [← hM] at HU
    have i0 : (0 : Int) ≤ p := by omega
    have i64 : p ≤ 64 := by omega
    have w1 : wrap64 ((2 : Int) ^ p.toNat) = M := by rw [← hM]; unfold wrap64; omega
    have w2 : wrap64 (M - 1) = M - 1 := by unfold wrap64; omega
    have w3 : IntKind.i64.wrap ((2 : Int) ^ p.toNat) = M := by rw [← hM, IntKind.wrap_i64]; omega
    have w4 : IntKind.i64.wrap (M - 1) = M - 1 := by rw [IntKind.wrap_i64]; omega
    clear hM h0 h1
    cases hm : manyB xs n 1 64 1 (M - 1) with
    | false =>
      rw [hm] at HU
      go_enter Try.func49, Try.ntmps49
      go_wp2_with fail
      refine wp_region_quiet_bel (by kernel_rfl) (by kernel_rfl) ?_
      repeat (go_big_quiet_step ((first | (go_at_call 80; exact Calls.bel_same (calls_bool i_areParts hq)) | (go_at_call 81; exact Calls.bel_of (calls_bool (i_areMany (reads_bel R1 hB1 _) (Nat.le_trans hB1 (BelW.h _).size) (by omega)) hm)))))
      refine wpQuiet_nil ?_
      intro w9 hw'
      obtain ⟨p, rfl⟩ := hw'
      have hqb := p.h
      generalize p.v = wq at hqb ⊢
      clear p
      go_wp2
      go_ret
      exact ⟨ret_bool HU.out.symm, bel1.trans (hqb.mono (by simp))⟩
    | true =>
      rw [hm, Bool.true_and] at HU
      have hn0 : 0 < n := by
        have := hm
        unfold manyB at this
        rw [Bool.and_eq_true, inB_iff] at this
        omega
      have hn6 : n ≤ 1048576 := by
        have := hm
        unfold manyB at this
        rw [Bool.and_eq_true, inB_iff] at this
        omega
      have d0 : (w.alloc (.cells #[.int .i64 p, .slice A n c] 36)).drew.cell? ⟨w.heap.size, 0, none⟩ = some (.int .i64 p) := c0 ⟨(w.alloc (.cells #[.int .i64 p, .slice A n c] 36)).drew, (Below.refl _ _).drew⟩
      have d1 : (w.alloc (.cells #[.int .i64 p, .slice A n c] 36)).drew.cell? ⟨w.heap.size, 1, none⟩ = some (.slice A n c) := c1 ⟨(w.alloc (.cells #[.int .i64 p, .slice A n c] 36)).drew, (Below.refl _ _).drew⟩
      have belD : Below w.heap.size w (w.alloc (.cells #[.int .i64 p, .slice A n c] 36)).drew := bel1.drew
      have R1D : Reads (w.alloc (.cells #[.int .i64 p, .slice A n c] 36)).drew B 1 A n (il xs) := R1.drew
      have hBD : B ≤ (w.alloc (.cells #[.int .i64 p, .slice A n c] 36)).drew.heap.size := hB1
      have hbD : w.heap.size < (w.alloc (.cells #[.int .i64 p, .slice A n c] 36)).drew.heap.size := hbx
      clear c0 c1
      go_enter Try.func49, Try.ntmps49
      go_wp2_with fail
      go_region_held3 (fun w' => w'.cell? ⟨w.heap.size, 0, none⟩ = some (.int .i64 p) ∧ w'.cell? ⟨w.heap.size, 1, none⟩ = some (.slice A n c)) (first | assumption | go_keep)
        (first
          | (go_at_call 80; refine (calls_bool i_areParts hq).mono ?_; rintro e w3 ⟨rfl, rfl⟩)
          | (go_at_call 81; refine (calls_bool (i_areMany R1D hBD (by omega)) hm).mono ?_; rintro e w4 ⟨rfl, hb4⟩; have K4 : w4.cell? ⟨w.heap.size, 0, none⟩ = some (.int .i64 p) ∧ w4.cell? ⟨w.heap.size, 1, none⟩ = some (.slice A n c) := ⟨(hb4.cell hbD).trans d0, (hb4.cell hbD).trans d1⟩; have R4 := R1D.below (hb4.mono hBD); have hB4 := Nat.le_trans hBD hb4.size; have hbx4 := Nat.lt_of_lt_of_le hbD hb4.size)
          | (go_at_call 82; refine (i_least R4 hB4 hn0 hn6).mono ?_; rintro e w5 ⟨g, k, cap, rfl, hr5, hb5⟩; have K5 : w5.cell? ⟨w.heap.size, 0, none⟩ = some (.int .i64 p) ∧ w5.cell? ⟨w.heap.size, 1, none⟩ = some (.slice A n c) := ⟨(hb5.cell hbx4).trans K4.1, (hb5.cell hbx4).trans K4.2⟩; have R5 := R4.below (hb5.mono hB4); have hk5 : k ≤ 1099511627776 := by (have e1 := hr5.map_len; have e2 := leastL_len xs; have e3 := R4.map_len; omega))
          | (go_at_call 73; refine (equal_ints R5 hr5 (by omega) hk5).mono ?_; rintro e w6 ⟨rfl, m, rfl⟩))
      go_wp2
      go_ret
      exact ⟨ret_bool HU.out.symm, below_drewN ((belD.trans (hb4.mono belD.size)).trans (hb5.mono (Nat.le_trans belD.size hb4.size))) _⟩
end Go.Proofs.Ytjfmjeffmnjilaa
