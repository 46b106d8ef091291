/-
  Is a system valid: the reference's walk over its sets.
-/
import Derived.Test.YtjfmjeffmnjilaaSvW
import Derived.BigRegion
namespace Go.Proofs.Ytjfmjeffmnjilaa
open Go.RowKit Fl Mem
set_option linter.unusedVariables false
set_option maxRecDepth 100000

theorem sysB_eq2 {p : Int} {xs : List Int} {n : Nat} (hl : xs.length = n) : sysB p xs = (inB p 1 10 && (inB n 1 64 && decide (∀ j, j < n → stepB p xs j = true))) := by
  subst hl
  unfold sysB inB
  rw [Bool.eq_iff_iff]
  simp only [Bool.and_eq_true, decide_eq_true_iff]
  constructor
  · rintro ⟨⟨h1, h2⟩, ⟨h3, h4⟩, h5⟩
    exact ⟨⟨h1, h2⟩, ⟨by omega, by omega⟩, h5⟩
  · rintro ⟨⟨h1, h2⟩, ⟨h3, h4⟩, h5⟩
    exact ⟨⟨h1, h2⟩, ⟨by omega, by omega⟩, h5⟩
theorem bits_and_comm (a b : Int) : bits .and .i64 a b = bits .and .i64 b a := by
  unfold bits
  simp only
  rw [BitVec.and_comm]
theorem bang_of {xs : List Int} {k : Nat} {x : Int} (h : xs[k]? = some x) : xs[k]! = x := by
  obtain ⟨hk, rfl⟩ := List.getElem?_eq_some_iff.1 h
  exact getElem!_pos xs k hk
/-- What the reference has seen of one set when it has compared it with the first k. -/
def partB (l : List Int) (j k : Nat) : Prop := ∀ t, t < k → hasB l[j]! l[t]! = false ∧ hasB l[t]! l[j]! = false
theorem stepB_no1 {p M : Int} {xs : List Int} {j : Nat} {x : Int} (hM : M = (2 : Int) ^ p.toNat) (hx : xs[j]? = some x) (h : inB x 1 (M - 1) = false) : stepB p xs j = false := by
  unfold stepB
  rw [bang_of hx, ← hM]
  have : decide (1 ≤ x ∧ x ≤ M - 1) = false := by
    rw [decide_eq_false_iff_not]
    intro h1
    rw [inB_iff.2 h1] at h
    cases h
  rw [this]; rfl
theorem stepB_no2 {p : Int} {xs : List Int} {j : Nat} {x y : Int} (hx : xs[j]? = some x) (hy : xs[j - 1]? = some y) (h0 : 0 < j) (h : x ≤ y) : stepB p xs j = false := by
  unfold stepB
  rw [bang_of hx, bang_of hy]
  have : decide (j = 0 ∨ y < x) = false := by rw [decide_eq_false_iff_not]; omega
  rw [this]; simp
theorem stepB_no3 {p : Int} {xs : List Int} {j k : Nat} {x y : Int} (hx : xs[j]? = some x) (hy : xs[k]? = some y) (h0 : k < j) (h : hasB x y = true ∨ hasB y x = true) : stepB p xs j = false := by
  unfold stepB
  have : decide (∀ k, k < j → hasB xs[j]! xs[k]! = false ∧ hasB xs[k]! xs[j]! = false) = false := by
    rw [decide_eq_false_iff_not]
    intro h1
    have h2 := h1 k h0
    rw [bang_of hx, bang_of hy] at h2
    rcases h with h | h
    · rw [h2.1] at h; cases h
    · rw [h2.2] at h; cases h
  rw [this]; simp
theorem stepB_yes {p M : Int} {xs : List Int} {j : Nat} {x : Int} (hM : M = (2 : Int) ^ p.toNat) (hx : xs[j]? = some x) (h : inB x 1 (M - 1) = true) (h0 : j = 0 ∨ ∃ y, xs[j - 1]? = some y ∧ y < x) (hp : partB xs j j) : stepB p xs j = true := by
  unfold stepB
  rw [Bool.and_eq_true, Bool.and_eq_true, decide_eq_true_iff, decide_eq_true_iff, decide_eq_true_iff, ← hM]
  refine ⟨by rw [bang_of hx]; exact inB_iff.1 h, ?_, hp⟩
  rcases h0 with h0 | ⟨y, hy, h0⟩
  · exact .inl h0
  · rw [bang_of hx, bang_of hy]; exact .inr h0
theorem stepB_pos {p : Int} {xs : List Int} {j : Nat} {x : Int} (hx : xs[j]? = some x) (h : stepB p xs j = true) : 1 ≤ x := by
  unfold stepB at h
  rw [Bool.and_eq_true, decide_eq_true_iff, bang_of hx] at h
  exact h.1.1
theorem sysB_no {p : Int} {xs : List Int} {n j : Nat} (hl : xs.length = n) (hj : j < n) (h : stepB p xs j = false) : sysB p xs = false := by
  rw [sysB_eq2 hl]
  have : decide (∀ j, j < n → stepB p xs j = true) = false := by
    rw [decide_eq_false_iff_not]
    intro h1
    rw [h1 j hj] at h; cases h
  rw [this]; simp
theorem partB_step {xs : List Int} {j k : Nat} {x y : Int} (hx : xs[j]? = some x) (hy : xs[k]? = some y) (hp : partB xs j k) (h1 : hasB x y = false) (h2 : hasB y x = false) : partB xs j (k + 1) := by
  intro t ht
  rcases Nat.lt_or_ge t k with h | h
  · exact hp t h
  · obtain rfl : t = k := by omega
    rw [bang_of hx, bang_of hy]
    exact ⟨h1, h2⟩

set_option maxHeartbeats 4000000 in
theorem s_l03Is {p : Int} {A : Option Addr} {n c B b o : Nat} {xs : List Int} {w : World} (hp : w.cell? ⟨b, o, none⟩ = some (.int .i64 p)) (hs : w.cell? ⟨b, o + 1, none⟩ = some (.slice A n c)) (h : Reads w B 1 A n (il xs)) (hn : n ≤ 9223372036854775807) (wfi : ∀ a ∈ xs, (Lit.int .i64 a).wf = true) :
    Calls Try.prog 77 #[.pointer (some ⟨b, o, none⟩)] w fun e w' => e = .returned (.bool (sysB p xs)) ∧ ∃ m, w' = w.drewN m := by
  have Hl := hide h.map_len
  have HU := hide (sysB_eq2 (p := p) Hl.out)
  cases hq : inB p 1 10 with
  | false =>
    rw [hq] at HU
    go_enter Try.func77, Try.ntmps77
    go_wp2_with (go_at_call 98; refine (calls_bool s_l03Parts hq).mono ?_; rintro e w' ⟨rfl, rfl⟩)
    go_ret
    exact ⟨ret_bool HU.out.symm, 0, rfl⟩
  | true =>
    rw [hq, Bool.true_and] at HU
    obtain ⟨h0, h1⟩ := inB_iff.1 hq
    obtain ⟨M, hM, m0, m1⟩ := pow_wrap h0 h1
    by_cases n1 : 1 ≤ n
    · have j1 : ¬ (n : Int) < 1 := by omega
      by_cases n2 : n ≤ 64
      · have j2 : ¬ (64 : Int) < (n : Int) := by omega
        have HU2 : Hid (sysB p xs = decide (∀ j, j < n → stepB p xs j = true)) := hide (by rw [HU.out, inB_iff.2 ⟨by omega, by omega⟩, Bool.true_and])
        have i0 : (0 : Int) ≤ p := by omega
        have i64 : p ≤ 64 := by omega
        have w1 : wrap64 ((2 : Int) ^ p.toNat) = M := by rw [← hM]; unfold wrap64; omega
        have w2 : wrap64 (M - 1) = M - 1 := by unfold wrap64; omega
        have w3 : IntKind.i64.wrap ((2 : Int) ^ p.toNat) = M := by rw [← hM, IntKind.wrap_i64]; omega
        have w4 : IntKind.i64.wrap (M - 1) = M - 1 := by rw [IntKind.wrap_i64]; omega
        have HM := hide hM
        clear hM h0 h1 HU
        go_enter Try.func77, Try.ntmps77
        go_wp2_with (go_at_call 98; refine (calls_bool s_l03Parts hq).mono ?_; rintro e w' ⟨rfl, rfl⟩)
        go_loopw [3, 4, 5, 33] (fun _ _ _ i wr => ∃ j m : Nat, j ≤ n ∧ i = .int .i64 j ∧ wr = w.drewN m ∧ Hid (∀ t, t < j → stepB p xs t = true)) (fun _ _ _ i _ => n - (intOf i).toNat)
        case atStart => exact ⟨0, 0, Nat.zero_le _, rfl, rfl, hide (fun t ht => by omega)⟩
        case round =>
          obtain ⟨j, m, hj, rfl, rfl, HS⟩ := hrel
          by_cases hlt : j < n
          · obtain ⟨ad, x, rfl, _, hx, hc⟩ := h.map_at hlt
            have Hx := hide hx
            have hjI : (j : Int) < (n : Int) := by omega
            have hjI0 : (0 : Int) ≤ (j : Int) := by omega
            clear hx
            cases hbx : inB x 1 (M - 1) with
            | false =>
              have HN := hide (sysB_no Hl.out hlt (stepB_no1 HM.out Hx.out hbx))
              go_wp2
              go_quiet ((go_at_call 99; exact quiet_plus (calls_draw0 (s_l00In_b hbx))))
              go_wp2
              go_ret
              exact ⟨ret_bool HN.out.symm, by first | exact ⟨_, rfl⟩ | exact ⟨_, World.drewN_drewN _ _ _⟩⟩
            | true =>
              obtain ⟨x0, x1⟩ := inB_iff.1 hbx
              by_cases hj0 : j = 0
              · have H0 : Hid (j = 0 ∨ ∃ y, xs[j - 1]? = some y ∧ y < x) := hide (.inl hj0)
                have d0 : decide ((0 : Int) < (j : Int)) = false := decide_eq_false (by omega)
                have d0n : decide (0 < j) = false := decide_eq_false (by omega)
                clear hj0
                go_wp2
                go_quiet ((go_at_call 99; exact quiet_plus (calls_draw0 (s_l00In_b hbx))))
                go_wp2
                go_loopw [4, 5] (fun s4 _ wr => ∃ k m' : Nat, k ≤ j ∧ s4 = .int .i64 k ∧ wr = w.drewN m' ∧ Hid (partB xs j k)) (fun s4 _ _ => j - (intOf s4).toNat)
                case atStart => exact ⟨0, _, Nat.zero_le _, rfl, (by first | exact World.drewN_drewN _ _ _ | rfl), hide (fun t ht => by omega)⟩
                case round =>
                  obtain ⟨k, m', hk, rfl, rfl, hpt⟩ := hrel
                  by_cases hkj : k < j
                  · obtain ⟨ad2, y, had2, _, hy, hcy⟩ := h.map_at (show k < n by omega)
                    have e9 := Option.some.inj had2
                    rw [← e9] at hcy
                    have Hy := hide hy
                    have y1 : 1 ≤ y := stepB_pos Hy.out (HS.out k hkj)
                    have hkI : (k : Int) < (j : Int) := by omega
                    have hkI0 : (0 : Int) ≤ (k : Int) := by omega
                    have hkI1 : (k : Int) < (n : Int) := by omega
                    clear hy e9 had2
                    have E1 := hide ((congrArg (· == y) (bits_and_comm x y)).trans (hasB_and (a := y) (b := x) (by omega) (by have := wfi y (List.mem_of_getElem? Hy.out); unfold Lit.wf at this; simp at this; omega)))
                    have E2 := hide (hasB_and (a := x) (b := y) (by omega) (by omega))
                    cases hb1 : hasB x y with
                    | true =>
                      have HN := hide (sysB_no Hl.out hlt (stepB_no3 (p := p) Hx.out Hy.out hkj (.inl hb1)))
                      have e1 : (bits .and .i64 x y == y) = true := E1.out.trans hb1
                      clear E1 E2
                      go_wp2
                      go_quiet ((fail))
                      go_wp2
                      go_ret
                      exact ⟨ret_bool HN.out.symm, by first | exact ⟨_, rfl⟩ | exact ⟨_, World.drewN_drewN _ _ _⟩⟩
                    | false =>
                      have e1 : (bits .and .i64 x y == y) = false := E1.out.trans hb1
                      cases hb2 : hasB y x with
                      | true =>
                        have HN := hide (sysB_no Hl.out hlt (stepB_no3 (p := p) Hx.out Hy.out hkj (.inr hb2)))
                        have e2 : (bits .and .i64 x y == x) = true := E2.out.trans hb2
                        clear E1 E2
                        go_wp2
                        go_quiet ((fail))
                        go_wp2
                        go_ret
                        exact ⟨ret_bool HN.out.symm, by first | exact ⟨_, rfl⟩ | exact ⟨_, World.drewN_drewN _ _ _⟩⟩
                      | false =>
                        have e2 : (bits .and .i64 x y == x) = false := E2.out.trans hb2
                        have HP := hide (partB_step Hx.out Hy.out hpt.out hb1 hb2)
                        clear E1 E2
                        go_wp2
                        go_quiet ((fail))
                        go_wp2
                        go_roundw
                        case rel => exact ⟨k + 1, _, by omega, by go_num, (by first | exact World.drewN_drewN _ _ _ | rfl), HP⟩
                        case measure => simp [intOf]; omega
                  · obtain rfl : k = j := by omega
                    have hkI : ¬ (k : Int) < (k : Int) := by omega
                    have HY := hide (stepB_yes HM.out Hx.out hbx H0.out hpt.out)
                    go_wp2
                    go_roundw
                    case rel => exact ⟨k + 1, _, by omega, by go_num, rfl, hide (fun t ht => by
                      rcases Nat.lt_or_ge t k with h9 | h9
                      · exact HS.out t h9
                      · obtain rfl : t = k := by omega
                        exact HY.out)⟩
                    case measure => simp [intOf]; omega
              · have hj1 : (0 : Int) < (j : Int) := by omega
                have d0 : decide ((0 : Int) < (j : Int)) = true := decide_eq_true hj1
                have d0n : decide (0 < j) = true := decide_eq_true (by omega)
                have s1 : wrap64 ((j : Int) - 1) = ((j - 1 : Nat) : Int) := by unfold wrap64; omega
                have s2 : IntKind.i64.wrap ((j : Int) - 1) = ((j - 1 : Nat) : Int) := by rw [IntKind.wrap_i64]; omega
                have s3 : (0 : Int) ≤ ((j - 1 : Nat) : Int) := by omega
                have s4 : ((j - 1 : Nat) : Int) < (n : Int) := by omega
                obtain ⟨ad3, z, had3, _, hz, hcz⟩ := h.map_at (show j - 1 < n by omega)
                have e9 := Option.some.inj had3
                rw [← e9] at hcz
                have Hz := hide hz
                clear hz e9 had3
                by_cases hle : x ≤ z
                · have d1 : decide (x ≤ z) = true := decide_eq_true hle
                  have HN := hide (sysB_no Hl.out hlt (stepB_no2 (p := p) Hx.out Hz.out (by omega) hle))
                  go_wp2
                  go_quiet ((go_at_call 99; exact quiet_plus (calls_draw0 (s_l00In_b hbx))))
                  go_wp2
                  go_ret
                  exact ⟨ret_bool HN.out.symm, by first | exact ⟨_, rfl⟩ | exact ⟨_, World.drewN_drewN _ _ _⟩⟩
                · have d1 : decide (x ≤ z) = false := decide_eq_false hle
                  have H0 : Hid (j = 0 ∨ ∃ y, xs[j - 1]? = some y ∧ y < x) := hide (.inr ⟨z, Hz.out, by omega⟩)
                  go_wp2
                  go_quiet ((go_at_call 99; exact quiet_plus (calls_draw0 (s_l00In_b hbx))))
                  clear hcz Hz s1 s2 s3 s4 d1 d0 d0n
                  go_wp2
                  go_loopw [4, 5] (fun s4 _ wr => ∃ k m' : Nat, k ≤ j ∧ s4 = .int .i64 k ∧ wr = w.drewN m' ∧ Hid (partB xs j k)) (fun s4 _ _ => j - (intOf s4).toNat)
                  case atStart => exact ⟨0, _, Nat.zero_le _, rfl, (by first | exact World.drewN_drewN _ _ _ | rfl), hide (fun t ht => by omega)⟩
                  case round =>
                    obtain ⟨k, m', hk, rfl, rfl, hpt⟩ := hrel
                    by_cases hkj : k < j
                    · obtain ⟨ad2, y, had2, _, hy, hcy⟩ := h.map_at (show k < n by omega)
                      have e9 := Option.some.inj had2
                      rw [← e9] at hcy
                      have Hy := hide hy
                      have y1 : 1 ≤ y := stepB_pos Hy.out (HS.out k hkj)
                      have hkI : (k : Int) < (j : Int) := by omega
                      have hkI0 : (0 : Int) ≤ (k : Int) := by omega
                      have hkI1 : (k : Int) < (n : Int) := by omega
                      clear hy e9 had2
                      have E1 := hide ((congrArg (· == y) (bits_and_comm x y)).trans (hasB_and (a := y) (b := x) (by omega) (by have := wfi y (List.mem_of_getElem? Hy.out); unfold Lit.wf at this; simp at this; omega)))
                      have E2 := hide (hasB_and (a := x) (b := y) (by omega) (by omega))
                      cases hb1 : hasB x y with
                      | true =>
                        have HN := hide (sysB_no Hl.out hlt (stepB_no3 (p := p) Hx.out Hy.out hkj (.inl hb1)))
                        have e1 : (bits .and .i64 x y == y) = true := E1.out.trans hb1
                        clear E1 E2
                        go_wp2
                        go_quiet ((fail))
                        go_wp2
                        go_ret
                        exact ⟨ret_bool HN.out.symm, by first | exact ⟨_, rfl⟩ | exact ⟨_, World.drewN_drewN _ _ _⟩⟩
                      | false =>
                        have e1 : (bits .and .i64 x y == y) = false := E1.out.trans hb1
                        cases hb2 : hasB y x with
                        | true =>
                          have HN := hide (sysB_no Hl.out hlt (stepB_no3 (p := p) Hx.out Hy.out hkj (.inr hb2)))
                          have e2 : (bits .and .i64 x y == x) = true := E2.out.trans hb2
                          clear E1 E2
                          go_wp2
                          go_quiet ((fail))
                          go_wp2
                          go_ret
                          exact ⟨ret_bool HN.out.symm, by first | exact ⟨_, rfl⟩ | exact ⟨_, World.drewN_drewN _ _ _⟩⟩
                        | false =>
                          have e2 : (bits .and .i64 x y == x) = false := E2.out.trans hb2
                          have HP := hide (partB_step Hx.out Hy.out hpt.out hb1 hb2)
                          clear E1 E2
                          go_wp2
                          go_quiet ((fail))
                          go_wp2
                          go_roundw
                          case rel => exact ⟨k + 1, _, by omega, by go_num, (by first | exact World.drewN_drewN _ _ _ | rfl), HP⟩
                          case measure => simp [intOf]; omega
                    · obtain rfl : k = j := by omega
                      have hkI : ¬ (k : Int) < (k : Int) := by omega
                      have HY := hide (stepB_yes HM.out Hx.out hbx H0.out hpt.out)
                      go_wp2
                      go_roundw
                      case rel => exact ⟨k + 1, _, by omega, by go_num, rfl, hide (fun t ht => by
                        rcases Nat.lt_or_ge t k with h9 | h9
                        · exact HS.out t h9
                        · obtain rfl : t = k := by omega
                          exact HY.out)⟩
                      case measure => simp [intOf]; omega
          · obtain rfl : j = n := by omega
            have hjI : ¬ (j : Int) < (j : Int) := by omega
            go_wp2
            go_ret
            exact ⟨ret_bool (by rw [HU2.out, decide_eq_true HS.out]), _, rfl⟩
      · have j2 : (64 : Int) < (n : Int) := by omega
        have HN : Hid (sysB p xs = false) := hide (by rw [HU.out]; unfold inB; rw [decide_eq_false (show ¬ (n : Int) ≤ 64 by omega), Bool.and_false]; rfl)
        clear HU hM
        go_enter Try.func77, Try.ntmps77
        go_wp2_with (go_at_call 98; refine (calls_bool s_l03Parts hq).mono ?_; rintro e w' ⟨rfl, rfl⟩)
        go_ret
        exact ⟨ret_bool HN.out.symm, 0, rfl⟩
    · have j1 : (n : Int) < 1 := by omega
      have HN : Hid (sysB p xs = false) := hide (by rw [HU.out]; unfold inB; rw [decide_eq_false (show ¬ (1 : Int) ≤ (n : Int) by omega)]; rfl)
      clear HU hM
      go_enter Try.func77, Try.ntmps77
      go_wp2_with (go_at_call 98; refine (calls_bool s_l03Parts hq).mono ?_; rintro e w' ⟨rfl, rfl⟩)
      go_ret
      exact ⟨ret_bool HN.out.symm, 0, rfl⟩
end Go.Proofs.Ytjfmjeffmnjilaa
