/-
  The ratio of fourth powers: where it is finite, the square of the mean of squares is finite too.
-/
import Derived.Test.YteabfkgbakoljaaNn
import Derived.Test.YteabfkgbakoljaaRoot
namespace Go.Proofs.Yteabfkgbakoljaa
open Go.RowKit Fl Mem
set_option linter.unusedVariables false

/-- The rungs of few times 2 ^ 62, of 9 times 2 ^ 124, of 2 ^ 64 and of the greatest numbers. -/
def few (c : Nat) : Nat := rungOf F32 c 62
theorem few_iv : ∀ c < 301, iv (few c) = c * 2 ^ 211 := by decide +kernel
theorem few_nn : ∀ c < 301, few c < 2139095040 := by decide +kernel
def bigV : Nat := rungOf F32 9 124
theorem bigV_iv : iv bigV = 9 * 2 ^ 273 := by decide +kernel
theorem bigV_le : bigV ≤ 2139095040 := by decide +kernel
theorem inf_iv : iv 2139095040 = 2 ^ 277 := by decide +kernel

theorem nn_zero : Nn 0 := by unfold Nn; omega
theorem iv_zero : iv 0 = 0 := by decide +kernel

/-- What is known of the sums of k squares and of their squares, these being finite. -/
def FrInv (k p2 p4 : Nat) : Prop := Nn p2 ∧ Nn p4 ∧ (iv p2 ≤ 3 * k * 2 ^ 211 ∨ (1 ≤ k ∧ iv p2 ≤ (3 * k + 1) * 2 ^ 211 ∧ 9 * 2 ^ 273 ≤ iv p4))

theorem nn_of_le {x C : Nat} (h : x ≤ C) (hC : C < 2139095040) : Nn x := by unfold Nn; omega

theorem fr_step {k p2 p4 s : Nat} (hk : k < 96) (h : FrInv k p2 p4) (hs : Nn s) (ht : Nn (fb .mul .f32 s s)) (hf : Nn (fb .add .f32 p4 (fb .mul .f32 s s))) :
    FrInv (k + 1) (fb .add .f32 p2 s) (fb .add .f32 p4 (fb .mul .f32 s s)) := by
  obtain ⟨h2, h4, h⟩ := h
  generalize ht' : fb .mul .f32 s s = t at *
  -- the square is known from the number
  have sq_dn : ∀ C, C ≤ 2139095040 → iv C * 2 ^ 149 ≤ iv s * iv s → C ≤ t := by
    intro C hC hh
    rw [← ht']
    exact mul_dn hs hs hC hh
  have hs4 : iv s ≤ 4 * 2 ^ 211 := by
    rcases Nat.lt_or_ge (4 * 2 ^ 211) (iv s) with h1 | h1
    · exfalso
      have := sq_dn 2139095040 (by omega) (by
        rw [inf_iv]
        have := Nat.mul_le_mul (Nat.le_of_lt h1) (Nat.le_of_lt h1)
        refine Nat.le_trans ?_ this
        decide +kernel)
      unfold Nn at ht
      omega
    · exact h1
  have sum_up : ∀ c, c < 301 → iv p2 + iv s ≤ c * 2 ^ 211 → Nn (fb .add .f32 p2 s) ∧ iv (fb .add .f32 p2 s) ≤ c * 2 ^ 211 := by
    intro c hc hh
    have h1 := add_up h2 hs (C := few c) (by rw [few_iv c hc]; exact hh)
    have h3 := iv_le.1 h1
    rw [few_iv c hc] at h3
    exact ⟨nn_of_le h1 (few_nn c hc), h3⟩
  have four_dn : ∀ C, C ≤ 2139095040 → iv C ≤ iv p4 + iv t → iv C ≤ iv (fb .add .f32 p4 t) := fun C hC hh => iv_le.1 (add_dn h4 ht hC hh)
  have key : 3 * 2 ^ 211 < iv s → 9 * 2 ^ 273 ≤ iv t := by
    intro h1
    have := sq_dn bigV bigV_le (by
      rw [bigV_iv]
      refine Nat.le_trans ?_ (Nat.mul_le_mul (Nat.le_of_lt h1) (Nat.le_of_lt h1))
      decide +kernel)
    have := iv_le.1 this
    rwa [bigV_iv] at this
  have hinf := iv_lt.1 (show fb .add .f32 p4 t < 2139095040 from hf)
  rw [inf_iv] at hinf
  have hV := four_dn bigV bigV_le
  rw [bigV_iv] at hV
  have hI := four_dn 2139095040 (by omega)
  rw [inf_iv] at hI
  rcases Nat.lt_or_ge (3 * 2 ^ 211) (iv s) with h1 | h1
  · have ht9 := key h1
    rcases h with h | ⟨h5, h6, h7⟩
    · obtain ⟨a1, a2⟩ := sum_up (3 * (k + 1) + 1) (by omega) (by omega)
      exact ⟨a1, hf, .inr ⟨by omega, a2, hV (by omega)⟩⟩
    · exfalso
      have := hI (by omega)
      omega
  · rcases h with h | ⟨h5, h6, h7⟩
    · obtain ⟨a1, a2⟩ := sum_up (3 * (k + 1)) (by omega) (by omega)
      exact ⟨a1, hf, .inl a2⟩
    · obtain ⟨a1, a2⟩ := sum_up (3 * (k + 1) + 1) (by omega) (by omega)
      exact ⟨a1, hf, .inr ⟨by omega, a2, hV (by omega)⟩⟩

theorem fsum_take {xs : List Nat} {k x : Nat} (h : xs[k]? = some x) : fsum (xs.take (k + 1)) = fb .add .f32 (fsum (xs.take k)) x := by rw [take_eq h, fsum_snoc]

/-- A sum that is finite is one of finite numbers, as far as it is taken. -/
theorem fsum_fin {xs : List Nat} (h : fin .f32 (fsum xs) = true) : ∀ k, k ≤ xs.length → fin .f32 (fsum (xs.take k)) = true := by
  have : ∀ d k, k + d = xs.length → fin .f32 (fsum (xs.take k)) = true := by
    intro d
    induction d with
    | zero => intro k hk; rw [List.take_of_length_le (by omega)]; exact h
    | succ d ih =>
      intro k hk
      have h1 := ih (k + 1) (by omega)
      rw [fsum_take (List.getElem?_eq_getElem (by omega : k < xs.length))] at h1
      exact (fin_add h1).1
  intro k hk
  exact this (xs.length - k) k (by omega)

theorem sqs_at {xs : List Nat} {k x : Nat} (h : xs[k]? = some x) : (sqs xs)[k]? = some (fb .mul .f32 x x) := by unfold sqs; rw [List.getElem?_map, h]; rfl

theorem fr_inv {D : List Nat} (hn : D.length ≤ 96) (h : fin .f32 (fsum (sqs (sqs D))) = true) : ∀ k, k ≤ D.length → FrInv k (fsum ((sqs D).take k)) (fsum ((sqs (sqs D)).take k)) := by
  have hall := fsum_fin h
  intro k
  induction k with
  | zero => intro _; exact ⟨nn_zero, nn_zero, .inl (by show iv 0 ≤ _; rw [iv_zero]; exact Nat.zero_le _)⟩
  | succ k ih =>
    intro hk
    have hd : D[k]? = some D[k] := List.getElem?_eq_getElem (by omega)
    have h1 := sqs_at hd
    have h2 := sqs_at h1
    have hf := hall (k + 1) (by simp [sqs_len]; omega)
    rw [fsum_take h1, fsum_take h2]
    rw [fsum_take h2] at hf
    have hft := (fin_add hf).2
    have hi := ih (by omega)
    have hp4 := hi.2.1
    obtain ⟨hfs, hnt⟩ := fin_sq hft
    obtain ⟨_, hns⟩ := fin_sq hfs
    refine fr_step (by omega) hi hns hnt ?_
    -- the sum is finite and not negative
    have hw := wf_fb .add .f32 (fsum ((sqs (sqs D)).take k)) (fb .mul .f32 (fb .mul .f32 D[k] D[k]) (fb .mul .f32 D[k] D[k]))
    rw [fb_add_nn hp4 hnt] at hf hw ⊢
    obtain ⟨s, m, i, hr⟩ := (fin_iff _ _).1 hf
    rw [← word_false F32 (min _ _)] at hr
    rcases Nat.lt_or_ge (rungOf F32 (iv (fsum ((sqs (sqs D)).take k)) + iv (fb .mul .f32 (fb .mul .f32 D[k] D[k]) (fb .mul .f32 D[k] D[k]))) (-149)) F32.infRung with h5 | h5
    · rw [Nat.min_eq_left (by omega)]
      unfold Nn
      rw [f32_inf] at h5
      exact h5
    · exfalso
      rw [Nat.min_eq_right h5] at hr
      have hr2 : FloatKind.f32.format.read (F32.word false F32.infRung) = .infinity false := by decide +kernel
      rw [hr2] at hr; cases hr

theorem int_iv : ∀ n : Nat, n < 97 → Nn (floatOfInt .f32 (n : Int)) ∧ iv (floatOfInt .f32 (n : Int)) = n * 2 ^ 149 := by
  unfold Nn
  decide +kernel

/-- The greatest number below 2 ^ 64, the greatest number, and 49 times 2 ^ 122. -/
theorem top_iv : iv 1602224127 = 16777215 * 2 ^ 189 ∧ iv 1602224128 = 4 * 2 ^ 211 ∧ iv 2139095039 = 16777215 * 2 ^ 253 := by decide +kernel
theorem half_iv : iv (rungOf F32 7 61) = 7 * 2 ^ 210 ∧ rungOf F32 7 61 < 2139095040 ∧ iv (rungOf F32 49 122) = 49 * 2 ^ 271 ∧ rungOf F32 49 122 < 2139095040 := by decide +kernel

theorem fin_of_le {x C : Nat} (h : x ≤ C) (hC : C < 2139095040) : fin .f32 x = true := nn_fin (nn_of_le h hC)

/-- Where the quotient is finite, what is divided by is finite. -/
theorem fr_finF {D : List Nat} (h1 : 1 ≤ D.length) (hn : D.length ≤ 96)
    (h : fin .f32 (fb .quo .f32 (fmean (sqs (sqs D))) (fb .mul .f32 (fmean (sqs D)) (fmean (sqs D)))) = true) :
    fin .f32 (fb .mul .f32 (fmean (sqs D)) (fmean (sqs D))) = true := by
  have h4 := fin_quo h
  unfold fmean at h4
  have h5 := fin_quo h4
  clear h h4
  have hi := fr_inv hn h5 D.length (Nat.le_refl _)
  have e1 : (sqs D).take D.length = sqs D := List.take_of_length_le (by rw [sqs_len]; omega)
  rw [e1] at hi
  obtain ⟨hp2, _, hc⟩ := hi
  unfold fmean
  rw [sqs_len]
  obtain ⟨i1, i2⟩ := int_iv D.length (by omega)
  rcases Nat.lt_or_ge D.length 2 with hl | hl
  · -- one number
    have hl1 : D.length = 1 := by omega
    have hd : D[0]? = some D[0] := List.getElem?_eq_getElem (by omega)
    have g1 := sqs_at hd
    have g2 := sqs_at g1
    have hs1 : sqs D = [fb .mul .f32 D[0] D[0]] := by
      apply List.ext_getElem?
      intro i
      rcases Nat.eq_zero_or_pos i with rfl | hp
      · rw [g1]; rfl
      · rw [List.getElem?_eq_none (by rw [sqs_len]; omega), List.getElem?_eq_none (by simp; omega)]
    rw [hs1] at h5 ⊢
    generalize hss : fb .mul .f32 D[0] D[0] = s at *
    have e2 : sqs [s] = [fb .mul .f32 s s] := rfl
    rw [e2] at h5
    have e3 : ∀ y, fsum [y] = fb .add .f32 0 y := fun y => rfl
    rw [e3] at h5 ⊢
    have ht := (fin_add h5).2
    obtain ⟨hfs, hnt⟩ := fin_sq ht
    have hns : Nn s := by rw [← hss] at hfs ⊢; exact (fin_sq hfs).2
    obtain ⟨t1, t2, t3⟩ := top_iv
    have hsM : s ≤ 1602224127 := by
      rcases Nat.lt_or_ge 1602224127 s with h6 | h6
      · exfalso
        have h7 := iv_le.1 (show 1602224128 ≤ s by omega)
        rw [t2] at h7
        have := mul_dn hns hns (C := 2139095040) (by omega) (by
          rw [inf_iv]
          refine Nat.le_trans ?_ (Nat.mul_le_mul h7 h7)
          decide +kernel)
        unfold Nn at hnt
        omega
      · exact h6
    have hsi := iv_le.1 hsM
    have a1 := add_up nn_zero hns (C := 1602224127) (by rw [iv_zero]; omega)
    have na := nn_of_le a1 (by omega)
    have a2 := iv_le.1 a1
    rw [hl1] at i1 i2 ⊢
    have a3 := quo_up na i1 (C := 1602224127) (by rw [i2]; decide) (by
      rw [i2, Nat.mul_comm]
      exact Nat.mul_le_mul (by decide) a2)
    have nb := nn_of_le a3 (by omega)
    have a4 := iv_le.1 a3
    refine fin_of_le (mul_up nb nb (C := 2139095039) ?_) (by omega)
    refine Nat.le_trans (Nat.mul_le_mul a4 a4) ?_
    rw [t1, t3]
    decide +kernel
  · -- more numbers
    obtain ⟨t1, t2, t3, t4⟩ := half_iv
    have hb : iv (fsum (sqs D)) ≤ (3 * D.length + 1) * 2 ^ 211 := by omega
    have a3 := quo_up hp2 i1 (C := rungOf F32 7 61) (by
      rw [i2]
      have := Nat.mul_pos (show 0 < D.length by omega) (Nat.two_pow_pos 149)
      omega) (by
      rw [i2, t1]
      refine Nat.le_trans (Nat.mul_le_mul_right _ hb) ?_
      rw [show (3 * D.length + 1) * 2 ^ 211 * 2 ^ 149 = (2 * (3 * D.length + 1)) * (2 ^ 210 * 2 ^ 149) by rw [show (2 : Nat) ^ 211 = 2 * 2 ^ 210 by decide +kernel]; ac_rfl]
      rw [show D.length * 2 ^ 149 * (7 * 2 ^ 210) = (7 * D.length) * (2 ^ 210 * 2 ^ 149) by ac_rfl]
      exact Nat.mul_le_mul_right _ (by omega))
    have nb := nn_of_le a3 t2
    have a4 := iv_le.1 a3
    refine fin_of_le (mul_up nb nb (C := rungOf F32 49 122) ?_) t4
    refine Nat.le_trans (Nat.mul_le_mul a4 a4) ?_
    rw [t1, t3]
    decide +kernel

/-- What FourthRatio answers, and whether it answers. -/
def frD (xs : List Nat) : List Nat := xs.map fun x => fb .sub .f32 x (fmean xs)
def frBy (xs : List Nat) : Nat := fb .mul .f32 (fmean (sqs (frD xs))) (fmean (sqs (frD xs)))
def frV (xs : List Nat) : Nat := fb .quo .f32 (fmean (sqs (sqs (frD xs)))) (frBy xs)
def frTop (xs : List Nat) : Bool := isSig xs && (FloatKind.f32.format.order (frBy xs) 0 == some .gt)
def frOk (xs : List Nat) : Bool := frTop xs && fin .f32 (frV xs)
def frR (xs : List Nat) : Nat := if frOk xs = true then frV xs else 0
theorem frOk_by {xs : List Nat} (h : frOk xs = true) : fin .f32 (frBy xs) = true := by
  unfold frOk frTop at h
  simp only [Bool.and_eq_true] at h
  have hl := isSig_len h.1.1
  have hD : (frD xs).length = xs.length := by simp [frD]
  unfold frV frBy at h
  unfold frBy
  exact fr_finF (by omega) (by omega) h.2
end Go.Proofs.Yteabfkgbakoljaa
