/-
  The law FnExactRecoverAll returns true for all texts.
-/
import Derived.Test.YtjfmjeffmnjilaaRcM
namespace Go.Proofs.Ytjfmjeffmnjilaa
open Go.RowKit Fl Mem
set_option linter.unusedVariables false
set_option maxRecDepth 100000

theorem svK_ofR {s t : Sv} (h : svT s = svT t) : svK s = svK t := by
  unfold svT at h
  rw [Prod.mk.injEq, Prod.mk.injEq, Prod.mk.injEq] at h
  exact svK_iff.2 ⟨h.1, h.2.1, h.2.2.1, by rw [h.2.2.2]⟩
theorem svLe_upR {a b : Nat} {s : Sv} (h : SvLe a s) (hb : a ≤ b) : SvLe b s := ⟨Nat.le_trans h.nm hb, Nat.le_trans h.pn hb, Nat.le_trans h.sn hb⟩
theorem svR_own {w : World} {b base n : Nat} {A : Option Addr} {c : Nat} {ss : List Sv} (ho : w.ownsRow b 38 4 (.slice A n c) n (svC ss)) (hs : SvsOwn w base ss) : SvR w w.heap.size A n ss := ⟨Reads.of_own ho, fun s h => (hs.each s h).ok⟩
theorem rec_len {l : List UInt8} {ss : List Sv} (h : ss.map svT = (recN 8 l).1) : ss.length ≤ 8 := by
  have h1 := (recN_told 8 l).1
  rw [← h, List.length_map] at h1
  exact h1
theorem svK_all {ss ts : List Sv} (h : ss.map svT = ts.map svT) : ss.map svK = ts.map svK := by
  have e : ∀ l : List Sv, l.map svK = (l.map svT).map (fun q => (q.1, q.2.1, q.2.2.1, q.2.2.2.map (cn .f32))) := fun l => by rw [List.map_map]; rfl
  rw [e, e, h]
set_option maxHeartbeats 4000000 in
theorem law_RecoverAll (s : ByteArray) (w : World) (hz : s.size ≤ maxLen) :
    Calls Try.prog 10 #[.string s] w fun e w' => e = .returned (.bool true) ∧ Below w.heap.size w w' := by
  by_cases hx : 1048576 < s.size
  · have hy : 1048576 < (s.size : Int) := by omega
    go_enter Try.func10, Try.ntmps10
    go_wp2
    go_ret
    exact ⟨rfl, Below.refl _ _⟩
  have hs : s.size ≤ 1048576 := by omega
  have hy : ¬ 1048576 < (s.size : Int) := by omega
  have LS := hide hs
  clear hx hs hz
  obtain ⟨N, hN⟩ : ∃ N, (recN 8 s.data.toList).2 = N := ⟨_, rfl⟩
  go_enter Try.func10, Try.ntmps10
  go_wp2_with fail
  refine (s_RecoverAll LS.out).mono ?_
  rintro e w1 ⟨v0, s0, rfl, hb1, ht0, ho0, hs0, hl0⟩
  rw [hN]
  obtain ⟨A0, c0, rfl⟩ := own_shape ho0
  have R0 := hide (svR_own ho0 hs0)
  have n0 := rec_len ht0
  have T0 := hide ht0
  have L0 : Hid (∀ a ∈ s0, SvLe 1099511627776 a) := hide (fun a ha => svLe_upR (hl0 a ha) (by omega))
  clear ho0 hs0 ht0 hl0
  go_wp2_with fail
  refine (i_RecoverAll LS.out).mono ?_
  rintro e w2 ⟨v1, s1, rfl, hb2, ht1, ho1, hs1, hl1⟩
  rw [hN]
  obtain ⟨A1, c1, rfl⟩ := own_shape ho1
  have n1 := rec_len ht1
  have L1 := hide hl1
  have L1' : Hid (∀ a ∈ s1, SvLe 1099511627776 a) := hide (fun a ha => svLe_upR (hl1 a ha) (by omega))
  have K1 := hide (svK_all (ht1.trans T0.out.symm))
  have O1 := hide ho1
  have S1 := hide hs1
  have R0' := hide (R0.out.below hb2)
  have z1 : w.heap.size ≤ w1.heap.size := hb1.size
  have z2 : w1.heap.size ≤ w2.heap.size := hb2.size
  have bel2 := hb1.trans (hb2.mono z1)
  clear ho1 hs1 hl1 ht1 hb1 hb2 R0
  go_wp2_with fail
  refine (l_eqSavedS (svR_own O1.out S1.out) R0'.out (Nat.le_refl _) z2 (by omega) L1'.out L0.out K1.out).mono ?_
  rintro e w3 ⟨rfl, hb3⟩
  have O3 := hide (own_below O1.out hb3)
  have S3 := hide (S1.out.below hb3)
  have R3 := hide (R0'.out.below (hb3.mono z2))
  have bel3 := bel2.trans (hb3.mono bel2.size)
  have z3 : w2.heap.size ≤ w3.heap.size := hb3.size
  clear hb3 O1 S1 R0' bel2
  go_wp2_with fail
  refine (l_markSavedS (k := 1) O3.out S3.out L1.out n1 (by omega) (by omega)).mono ?_
  rintro e w4 ⟨rfl, ho4, hr4, hb4⟩
  have O4 := hide ho4
  have S4 := hide hr4
  have R4 := hide (R3.out.below hb4)
  have bel4 := bel3.trans (hb4.mono z1)
  have z4 : w3.heap.size ≤ w4.heap.size := hb4.size
  clear ho4 hr4 hb4 bel3 O3 S3 R3
  obtain ⟨m, hm⟩ : ∃ m, mkN 1 s1 = m := ⟨_, rfl⟩
  rw [hm]
  have i1 : ¬ (m : Int) < 0 := by omega
  go_wp2_with fail
  refine (l_heldSavedS (k := 1) (Reads.of_own O4.out) (fun x hx => ⟨Reads.of_own (S4.out x hx).paths, Reads.of_own (S4.out x hx).sig⟩) (Nat.le_refl _) rfl L1.out n1 (by omega)).mono ?_
  rintro e w5 ⟨rfl, hb5⟩
  rw [hm]
  have O5 := hide (own_below O4.out hb5)
  have S5 : Hid (∀ x ∈ mkSvs 1 s1, SvRw w5 w1.heap.size x) := hide (fun x hx => (S4.out x hx).below hb5)
  have R5 := hide (R4.out.below (hb5.mono (by omega)))
  have bel5 := bel4.trans (hb5.mono bel4.size)
  have z5 : w4.heap.size ≤ w5.heap.size := hb5.size
  clear hb5 bel4 O4 S4 R4
  go_wp2_with fail
  refine (i_RecoverAll LS.out).mono ?_
  rintro e w6 ⟨v2, s2, rfl, hb6, ht2, ho2, hs2, hl2⟩
  rw [hN]
  obtain ⟨A2, c2, rfl⟩ := own_shape ho2
  have n2 := rec_len ht2
  have L2 : Hid (∀ a ∈ s2, SvLe 1099511627776 a) := hide (fun a ha => svLe_upR (hl2 a ha) (by omega))
  have K2 := hide (svK_all (ht2.trans T0.out.symm))
  have R2 := hide (svR_own ho2 hs2)
  have O6 := hide (own_below O5.out hb6)
  have S6 : Hid (∀ x ∈ mkSvs 1 s1, SvRw w6 w1.heap.size x) := hide (fun x hx => (S5.out x hx).below hb6)
  have R6 := hide (R5.out.below (hb6.mono (by omega)))
  have bel6 := bel5.trans (hb6.mono bel5.size)
  have z6 : w5.heap.size ≤ w6.heap.size := hb6.size
  clear hb6 bel5 O5 S5 R5 ho2 hs2 hl2 ht2
  go_wp2_with fail
  refine (l_eqSavedS R2.out R6.out (Nat.le_refl _) (by omega) (by omega) L2.out L0.out K2.out).mono ?_
  rintro e w7 ⟨rfl, hb7⟩
  have O7 := hide (own_below O6.out hb7)
  have S7 : Hid (∀ x ∈ mkSvs 1 s1, SvRw w7 w1.heap.size x) := hide (fun x hx => (S6.out x hx).below hb7)
  have bel7 := bel6.trans (hb7.mono bel6.size)
  clear hb7 bel6 O6 S6 R6 R2
  go_wp2_with fail
  refine (l_heldSavedS (k := 1) (Reads.of_own O7.out) (fun x hx => ⟨Reads.of_own (S7.out x hx).paths, Reads.of_own (S7.out x hx).sig⟩) (Nat.le_refl _) rfl L1.out n1 (by omega)).mono ?_
  rintro e w8 ⟨rfl, hb8⟩
  rw [hm]
  have bel8 := bel7.trans (hb8.mono bel7.size)
  clear hb8 bel7
  go_wp2
  go_ret
  exact ⟨rfl, bel8⟩
end Go.Proofs.Ytjfmjeffmnjilaa
