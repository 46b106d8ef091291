/-
  The law FnExactSameSaved returns true for all arguments, and writes nothing that was there.
-/
import Derived.Test.YtjfmjeffmnjilaaSvD
import Derived.BigGuardPart
namespace Go.Proofs.Ytjfmjeffmnjilaa
open Go.RowKit Fl Mem
set_option linter.unusedVariables false
set_option maxRecDepth 100000

theorem SvLe.up {M M' : Nat} {s : Sv} (h : SvLe M s) (hM : M ≤ M') : SvLe M' s := ⟨Nat.le_trans h.nm hM, Nat.le_trans h.pn hM, Nat.le_trans h.sn hM⟩
theorem svLes_up {M M' : Nat} {ss : List Sv} (h : ∀ s ∈ ss, SvLe M s) (hM : M ≤ M') : ∀ s ∈ ss, SvLe M' s := fun s hs => (h s hs).up hM
set_option maxHeartbeats 4000000 in
theorem law_SameSaved (A A' : Option Addr) (n c n' c' : Nat) (ss tt : List Sv) (w : World) (h : SvR w w.heap.size A n ss) (h' : SvR w w.heap.size A' n' tt) (hn : n ≤ 9223372036854775807) (hn' : n' ≤ 9223372036854775807) (hl : ∀ s ∈ ss, SvBig s) (hl' : ∀ s ∈ tt, SvBig s) :
    Calls Try.prog 3 #[.slice A n c, .slice A' n' c'] w fun e w' => e = .returned (.bool true) ∧ Below w.heap.size w w' := by
  go_enter Try.func3, Try.ntmps3
  go_wp2_with fail
  refine (l_szSavedS h (Nat.le_refl _) hn (by omega) (by omega) hl).mono ?_
  rintro e w1 ⟨r1, rfl, hr1, hb1⟩
  rcases hr1 with hr1 | ⟨a1, a2, a3, a4⟩
  · go_wp2
    go_ret
    exact ⟨rfl, hb1⟩
  have i1 : ¬ r1 < 0 := by omega
  go_wp2_with fail
  refine (l_szSavedS (h'.below hb1) hb1.size hn' a1 (by omega) hl').mono ?_
  rintro e w2 ⟨r2, rfl, hr2, hb2⟩
  have bel2 : Below w.heap.size w w2 := hb1.trans (hb2.mono hb1.size)
  clear hb1 hb2
  rcases hr2 with hr2 | ⟨d1, d2, d3, d4⟩
  · go_wp2
    go_ret
    exact ⟨rfl, bel2⟩
  have i2 : ¬ r2 < 0 := by omega
  have m1 : n ≤ 1048576 := by omega
  have m2 : n' ≤ 1048576 := by omega
  have H := hide h
  have H' := hide h'
  have L := hide a4
  have L' := hide d4
  clear h h' a4 d4 a3 d3 a2 d2
  go_wp2_with fail
  refine (l_toSavedS (H.out.below bel2) bel2.size m1 L.out).mono ?_
  rintro e w3 ⟨g3, s3, rfl, hs3, ht3, hl3, hg3, hb3⟩
  have bel3 : Below w.heap.size w w3 := bel2.trans (hb3.mono bel2.size)
  clear hb3 bel2
  go_wp2_with fail
  refine (l_toSavedS (H'.out.below bel3) bel3.size m2 L'.out).mono ?_
  rintro e w4 ⟨g4, s4, rfl, hs4, ht4, hl4, hg4, hb4⟩
  have bel4 : Below w.heap.size w w4 := bel3.trans (hb4.mono bel3.size)
  replace hs3 := (hs3.below hb4).more hb4.size
  clear hb4 bel3
  go_wp2_with fail
  refine (s_SameSaved hs3 hs4 (Nat.le_refl _) (by omega) (by omega) (svLes_up hl3 (by omega)) (svLes_up hl4 (by omega))).mono ?_
  rintro e w5 ⟨rfl, hb5⟩
  rw [sameSvs_told ht3 ht4]
  have bel5 : Below w.heap.size w w5 := bel4.trans (hb5.mono bel4.size)
  clear hb5 bel4 hs3 hs4 ht3 ht4 hl3 hl4 hg3 hg4
  generalize hR : sameSvs ss tt = R
  have HR := hide hR
  clear hR
  go_wp2_with fail
  refine (l_toSavedS (H.out.below bel5) bel5.size m1 L.out).mono ?_
  rintro e w6 ⟨g6, s6, rfl, hs6, ht6, hl6, hg6, hb6⟩
  have bel6 : Below w.heap.size w w6 := bel5.trans (hb6.mono bel5.size)
  clear hb6 bel5
  go_wp2_with fail
  refine (l_toSavedS (H'.out.below bel6) bel6.size m2 L'.out).mono ?_
  rintro e w7 ⟨g7, s7, rfl, hs7, ht7, hl7, hg7, hb7⟩
  have bel7 : Below w.heap.size w w7 := bel6.trans (hb7.mono bel6.size)
  replace hs6 := (hs6.below hb7).more hb7.size
  clear hb7 bel6
  go_wp2_with fail
  refine (i_SameSaved hs6 hs7 (Nat.le_refl _) (by omega) (by omega) (svLes_up hl6 (by omega)) (svLes_up hl7 (by omega))).mono ?_
  rintro e w8 ⟨rfl, hb8⟩
  rw [sameSvs_told ht6 ht7, HR.out]
  have bel8 : Below w.heap.size w w8 := bel7.trans (hb8.mono bel7.size)
  replace hs6 := (hs6.below hb8).more hb8.size
  replace hs7 := (hs7.below hb8).more hb8.size
  clear hb8 bel7
  have hne : (R != R) = false := by simp
  go_wp2_with fail
  refine (l_toSavedS (H.out.below bel8) bel8.size m1 L.out).mono ?_
  rintro e w9 ⟨g9, s9, rfl, hs9, ht9, hl9, hg9, hb9⟩
  have bel9 : Below w.heap.size w w9 := bel8.trans (hb9.mono bel8.size)
  replace hs6 := (hs6.below hb9).more hb9.size
  replace hs7 := (hs7.below hb9).more hb9.size
  clear hb9 bel8
  go_wp2_with fail
  refine (l_eqSavedS hs6 hs9 (Nat.le_refl _) (Nat.le_refl _) (by omega) (svLes_up hl6 (by omega)) (svLes_up hl9 (by omega)) (svKs_of_T (ht6.trans ht9.symm))).mono ?_
  rintro e w10 ⟨rfl, hb10⟩
  have bel10 : Below w.heap.size w w10 := bel9.trans (hb10.mono bel9.size)
  replace hs7 := (hs7.below hb10).more hb10.size
  clear hb10 bel9 hs6 hs9
  go_wp2_with fail
  refine (l_toSavedS (H'.out.below bel10) bel10.size m2 L'.out).mono ?_
  rintro e w11 ⟨g11, s11, rfl, hs11, ht11, hl11, hg11, hb11⟩
  have bel11 : Below w.heap.size w w11 := bel10.trans (hb11.mono bel10.size)
  replace hs7 := (hs7.below hb11).more hb11.size
  clear hb11 bel10
  go_wp2_with fail
  refine (l_eqSavedS hs7 hs11 (Nat.le_refl _) (Nat.le_refl _) (by omega) (svLes_up hl7 (by omega)) (svLes_up hl11 (by omega)) (svKs_of_T (ht7.trans ht11.symm))).mono ?_
  rintro e w12 ⟨rfl, hb12⟩
  have bel12 : Below w.heap.size w w12 := bel11.trans (hb12.mono bel11.size)
  clear hb12 bel11
  go_wp2
  go_ret
  exact ⟨rfl, bel12⟩
end Go.Proofs.Ytjfmjeffmnjilaa
