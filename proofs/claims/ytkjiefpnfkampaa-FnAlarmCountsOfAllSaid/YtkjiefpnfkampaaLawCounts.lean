/-
  The law FnAlarmCountsOfAll returns true for all arguments, and writes nothing that was there.
-/
import Derived.Test.YtkjiefpnfkampaaAlarm2
namespace Go.Proofs.Ytkjiefpnfkampaa
open Go.RowKit Fl Mem
set_option linter.unusedVariables false
set_option maxRecDepth 100000

/-- 'sameInts' of two lists that are equal. -/
theorem sameInts_eq (A A' : Option Addr) (n n' c c' : Nat) (xs : List Int) (B B' : Nat) (w : World) (h : Reads w B 1 A n (il xs)) (h' : Reads w B' 1 A' n' (il xs)) (hn : n ≤ maxLen) :
    Calls Try.prog 21 #[.slice A n c, .slice A' n' c'] w fun e w' => e = .returned (.bool true) ∧ ∃ n, w' = w.drewN n := by
  have hl : n' = n := by rw [← h.map_len, ← h'.map_len]
  subst hl
  unfold maxLen at hn
  go_enter Try.func21, Try.ntmps21
  go_wp2
  go_loopw [5] (fun i wr => ∃ k m : Nat, k ≤ n' ∧ i = .int .i64 k ∧ wr = w.drewN m) (fun i _ => n' - (intOf i).toNat)
  case atStart => exact ⟨0, 0, Nat.zero_le _, rfl, rfl⟩
  case round =>
    obtain ⟨k, m, hk, rfl, rfl⟩ := hrel
    by_cases hlt : k < n'
    · obtain ⟨ad, x, rfl, _, hx, hc⟩ := h.map_at hlt
      obtain ⟨ad', y, rfl, _, hy, hc'⟩ := h'.map_at hlt
      obtain rfl : y = x := by rw [hx] at hy; injection hy with hy; exact hy.symm
      have hne : (y != y) = false := by simp
      clear hx hy
      have h1 : (0 : Int) ≤ k := by omega
      have h2 : (k : Int) < n' := by omega
      go_wp2
      go_quiet (fail)
      go_wp2
      go_roundw
      case rel => exact ⟨k + 1, _, by omega, by go_num, rfl⟩
      case measure => simp [intOf]; omega
    · go_wp2
      go_ret
      exact ⟨rfl, m, rfl⟩

set_option maxHeartbeats 1000000 in
theorem law_AlarmCountsOfAll (A : Option Addr) (n c : Nat) (xs : List Nat) (A' : Option Addr) (n' c' : Nat) (bars : List Nat) (d k k' : Int) (w : World) (h : Reads w w.heap.size 1 A n (fl .f32 xs)) (hn : n ≤ c) (hc : c ≤ maxLen)
    (h' : Reads w w.heap.size 1 A' n' (fl .f32 bars)) (hn' : n' ≤ c') (hc' : c' ≤ maxLen) :
    Calls Try.prog 4 #[.slice A n c, .slice A' n' c', .int .i64 d, .int .i64 k, .int .i64 k'] w fun e w' => e = .returned (.bool true) ∧ Below w.heap.size w w' := by
  have hm : n ≤ maxLen := by omega
  have hm' : n' ≤ maxLen := by omega
  have hz : c ≤ 9223372036854775807 := hc
  have hz' : c' ≤ 9223372036854775807 := hc'
  clear hc hc'
  by_cases h0 : 10000 < n ∨ 10000 < n'
  · go_enter Try.func4, Try.ntmps4
    rcases h0 with h0 | h0
    all_goals go_wp2
    all_goals (go_ret; exact ⟨rfl, Below.refl _ _⟩)
  have h1 : (n : Int) ≤ 10000 := by omega
  have h2 : (n' : Int) ≤ 10000 := by omega
  have h3 : decide (10000 < (n : Int)) = false := by simp; omega
  have h4 : decide (10000 < (n' : Int)) = false := by simp; omega
  clear h0
  have HK : Hid (1 ≤ k → k ≤ 8 → 1 ≤ k' → k' ≤ 8 → countsOk xs bars d k = countsOk xs bars d k') := hide (fun a1 a2 a3 a4 => by
    unfold countsOk
    rw [show inB k 1 8 = true from inB_iff.2 ⟨a1, a2⟩, show inB k' 1 8 = true from inB_iff.2 ⟨a3, a4⟩])
  have HR : Hid (countsOk xs bars d k = true → countsOk xs bars d k' = true → countsR xs bars d k' = countsR xs bars d k) := hide (fun a1 a2 => by unfold countsR; rw [if_pos a1, if_pos a2])
  have hle : (countsR xs bars d k).length ≤ n' := by
    unfold countsR
    split
    · unfold countsL; simp [h'.map_len]
    · simp
  go_enter Try.func4, Try.ntmps4
  go_wp2_with fail
  refine (i_AlarmCounts _ _ _ _ _ _ xs bars _ _ _ _ h h' (Nat.le_refl _) hm hm').mono ?_
  rintro e w1 ⟨v1, rfl, ho1, hb1⟩
  go_wp2_with fail
  refine (i_AlarmCounts _ _ _ _ _ _ xs bars _ _ _ _ (h.below hb1) (h'.below hb1) hb1.size hm hm').mono ?_
  rintro e w2 ⟨v2, rfl, ho2, hb2⟩
  have hb02 : Below w.heap.size w w2 := hb1.trans (hb2.mono hb1.size)
  go_wp2_with fail
  refine (s_AlarmCounts _ _ _ _ _ _ xs bars _ _ _ _ (h.below hb02) (h'.below hb02) hb02.size hm hm').mono ?_
  rintro e w3 ⟨v3, rfl, ho3, hb3⟩
  have hb03 : Below w.heap.size w w3 := hb02.trans (hb3.mono hb02.size)
  obtain ⟨A1, c1, rfl⟩ := own_shape ho1
  obtain ⟨A2, c2, rfl⟩ := own_shape ho2
  obtain ⟨A3, c3, rfl⟩ := own_shape ho3
  have r1 : Reads w3 w1.heap.size 1 A1 _ (il (countsR xs bars d k)) := ((Reads.of_own ho1).below hb2).below (hb3.mono hb2.size)
  have r2 : Reads w3 w2.heap.size 1 A2 _ (il (countsR xs bars d k')) := (Reads.of_own ho2).below hb3
  have r3 : Reads w3 w3.heap.size 1 A3 _ (il (countsR xs bars d k)) := Reads.of_own ho3
  clear ho1 ho2 ho3 hb1 hb2 hb3 hb02
  have hmx : (countsR xs bars d k).length ≤ maxLen := by unfold maxLen; omega
  by_cases hin : (1 ≤ k ∧ k ≤ 8) ∧ 1 ≤ k' ∧ k' ≤ 8
  · obtain ⟨⟨g1, g2⟩, g3, g4⟩ := hin
    have hKK := HK.out g1 g2 g3 g4
    cases hk : countsOk xs bars d k with
    | true =>
      rw [hk] at hKK
      have hk' : countsOk xs bars d k' = true := hKK.symm
      clear hKK
      have er := HR.out hk hk'
      have r2' : Reads w3 w2.heap.size 1 A2 (countsR xs bars d k').length (il (countsR xs bars d k)) := by rw [← er]; exact r2
      clear er r2
      go_wp2_with fail
      refine (sameInts_eq _ _ _ _ _ _ _ _ _ _ r1 r3 hmx).mono ?_
      rintro e w4 ⟨rfl, m4, rfl⟩
      go_wp2_with fail
      refine (sameInts_eq _ _ _ _ _ _ _ _ _ _ (r1.drewN _) (r2'.drewN _) hmx).mono ?_
      rintro e w5 ⟨rfl, m5, rfl⟩
      go_wp2
      go_ret
      exact ⟨rfl, below_drewN hb03 _⟩
    | false =>
      rw [hk] at hKK
      have hk' : countsOk xs bars d k' = false := hKK.symm
      clear hKK
      go_wp2
      all_goals first
        | (exfalso; omega)
        | (go_ret; exact ⟨rfl, hb03⟩)
  · cases hk : countsOk xs bars d k with
    | true =>
      go_wp2_with fail
      refine (sameInts_eq _ _ _ _ _ _ _ _ _ _ r1 r3 hmx).mono ?_
      rintro e w4 ⟨rfl, m4, rfl⟩
      have hb04 := below_drewN hb03 m4
      go_wp2_with fail
      all_goals first
        | (exfalso; omega)
        | (go_ret; exact ⟨rfl, hb04⟩)
    | false =>
      go_wp2
      all_goals first
        | (exfalso; omega)
        | (go_ret; exact ⟨rfl, hb03⟩)
end Go.Proofs.Ytkjiefpnfkampaa
