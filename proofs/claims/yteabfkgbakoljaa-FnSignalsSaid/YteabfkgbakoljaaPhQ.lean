/-
  The point of the unit circle at some turns: the plain law.
-/
import Derived.Test.YteabfkgbakoljaaPhP
namespace Go.Proofs.Yteabfkgbakoljaa.Fl
open Go.RowKit
set_option linter.unusedVariables false

def gq (x : Nat) : Bool := (FloatKind.f64.format.order x 4598175219545276416 == some .gt || FloatKind.f64.format.order x 4598175219545276416 == some .eq)
theorem gq_pos {x : Nat} (h : x < 9218868437227405312) : gq x = decide (4598175219545276416 ≤ x) := ge_pos (by rw [d64_inf]; exact h) (by rw [d64_inf]; omega)
theorem gq_nz : gq 9223372036854775808 = false := by decide +kernel
def phI (y : Nat) : Nat → Nat
  | 0 => frV y
  | j + 1 => fb .sub .f64 (phI y j) 4598175219545276416
def capN (j : Nat) : Nat := if j = 0 then 4607182418800017408 else if j = 1 then 4604930618986332160 else if j = 2 then 4602678819172646912 else if j = 3 then 4598175219545276416 else 0
theorem cap_step : ∀ j : Nat, j < 4 → vv .f64 (capN j) ≤ vv .f64 (capN (j + 1)) + vv .f64 4598175219545276416 := by decide +kernel
theorem cap_le (j : Nat) : capN j ≤ 4607182418800017408 := by
  unfold capN
  split
  · omega
  · split
    · omega
    · split
      · omega
      · split
        · omega
        · omega
theorem phI_cap {y : Nat} (h : Fr 4607182418800017408 (frV y)) : ∀ j, j ≤ 4 → (∀ i, i < j → gq (phI y i) = true) → Fr (capN j) (phI y j)
  | 0, _, _ => h
  | j + 1, h4, hg => by
    have ih := phI_cap h j (by omega) (fun i hi => hg i (by omega))
    have hj := hg j (by omega)
    have hcl := cap_le j
    rcases ih with ih | ih
    · rw [gq_pos (by omega)] at hj
      have hq := of_decide_eq_true hj
      have hi := d64_inf
      have hc1 := cap_le (j + 1)
      obtain ⟨R, h1, h2⟩ := sub_pos (k := .f64) (r := phI y j) (q := 4598175219545276416) (C := capN (j + 1)) (by omega) hq (by omega) (Nat.le_trans (vv_le ih) (cap_step j (by omega)))
      exact .inl (by rw [phI, h2]; exact h1)
    · rw [ih, gq_nz] at hj
      cases hj
theorem gq_end {y : Nat} (h : Fr 4607182418800017408 (frV y)) (hg : ∀ i, i < 4 → gq (phI y i) = true) : gq (phI y 4) = false := by
  rcases phI_cap h 4 (Nat.le_refl _) hg with h1 | h1
  · have h0 : phI y 4 = 0 := Nat.le_zero.1 h1
    rw [h0]; decide +kernel
  · rw [h1]; exact gq_nz
def phQ (y : Nat) : Nat := if gq (phI y 0) = false then 0 else if gq (phI y 1) = false then 1 else if gq (phI y 2) = false then 2 else if gq (phI y 3) = false then 3 else 4
theorem phQ_of {y j : Nat} (hj : j ≤ 4) (h : ∀ i, i < j → gq (phI y i) = true) (hn : gq (phI y j) = false) : phQ y = j := by
  unfold phQ
  match j, hj, h, hn with
  | 0, _, _, hn => rw [if_pos hn]
  | 1, _, h, hn => rw [h 0 (by omega), if_neg (by simp), if_pos hn]
  | 2, _, h, hn => rw [h 0 (by omega), h 1 (by omega), if_neg (by simp), if_neg (by simp), if_pos hn]
  | 3, _, h, hn => rw [h 0 (by omega), h 1 (by omega), h 2 (by omega), if_neg (by simp), if_neg (by simp), if_neg (by simp), if_pos hn]
  | 4, _, h, hn => rw [h 0 (by omega), h 1 (by omega), h 2 (by omega), h 3 (by omega), if_neg (by simp), if_neg (by simp), if_neg (by simp), if_neg (by simp)]
def phF (y : Nat) : Nat := phI y (phQ y)
/-- What is left of the turns, and a quarter without it, are from 0 to a quarter. -/
theorem left_fr {x C : Nat} (h : Fr C x) (hC : C ≤ 4607182418800017408) (hn : gq x = false) : Fr 4598175219545276416 x ∧ Fr 4598175219545276416 (fb .sub .f64 4598175219545276416 x) := by
  rcases h with h | h
  · rw [gq_pos (by omega)] at hn
    have hlt := of_decide_eq_false hn
    have hi := d64_inf
    obtain ⟨R, h1, h2⟩ := sub_pos (k := .f64) (r := 4598175219545276416) (q := x) (C := 4598175219545276416) (by omega) (by omega) (by omega) (Nat.le_add_right _ _)
    exact ⟨.inl (by omega), .inl (by rw [h2]; exact h1)⟩
  · subst h
    exact ⟨.inr rfl, .inl (by decide +kernel)⟩
theorem sub_zero_pos {r : Nat} (h : r < 9218868437227405312) : fb .sub .f64 r 0 = r := by
  have hi : r < FloatKind.f64.format.infRung := by rw [d64_inf]; exact h
  have rx := read_pos (k := .f64) hi
  have ry := read_pos (k := .f64) (r := 0) (by rw [d64_inf]; omega)
  have hz : magOf FloatKind.f64.format 0 = 0 ∧ placeOf FloatKind.f64.format 0 = FloatKind.f64.format.leastPlace := by decide +kernel
  have pr := place_ge FloatKind.f64.format r
  unfold fb floatBits Ieee.Format.sub
  simp only
  rw [rx, ry, hz.1, hz.2]
  simp only [Ieee.Datum.sum, Ieee.Datum.opposite, Option.map_some, Option.getD_some, Ieee.Format.write]
  rw [Int.min_eq_right pr, Int.sub_self, sgn_f, show Ieee.signed (!false) 0 (Int.toNat 0) = 0 by rw [show (!false) = true from rfl, sgn_t, Nat.zero_mul]; rfl, Int.add_zero, Int.natAbs_natCast]
  have hsg : (if ((magOf FloatKind.f64.format r * 2 ^ (placeOf FloatKind.f64.format r - FloatKind.f64.format.leastPlace).toNat : Nat) : Int) = 0 then false && !false else decide (((magOf FloatKind.f64.format r * 2 ^ (placeOf FloatKind.f64.format r - FloatKind.f64.format.leastPlace).toNat : Nat) : Int) < 0)) = false := by
    split
    · rfl
    · exact decide_eq_false (by omega)
  rw [hsg]
  refine (cn_nearest (k := .f64) (s := false) (R := r) ?_ hi).trans rfl
  refine rung_num (b := FloatKind.f64.format.leastPlace) (Int.le_refl _) pr ?_
  rw [Int.sub_self, Int.toNat_zero, Nat.pow_zero, Nat.mul_one]
theorem int_zero : floatOfInt .f64 0 = 0 := by decide +kernel
theorem fr_sub {C x : Nat} (h : Fr C x) (hC : C ≤ 4607182418800017408) : fb .sub .f64 x (floatOfInt .f64 0) = x := by
  rw [int_zero]
  rcases h with h | h
  · exact sub_zero_pos (by omega)
  · subst h; decide +kernel
theorem q25_vv : ∃ d : Nat, vv .f64 4598175219545276416 = 2 ^ d ∧ d < 1074 := ⟨1072, by decide +kernel, by decide⟩
theorem fr_int {x : Nat} (h : Fr 4598175219545276416 x) : floatToIntVal .f64 x .i64 = some 0 := by
  rcases h with h | h
  · have hi : x < FloatKind.f64.format.infRung := by rw [d64_inf]; omega
    have rx := read_pos (k := .f64) hi
    have pr := place_ge FloatKind.f64.format x
    rw [d64_least] at pr
    have hv := vv_le (k := .f64) h
    obtain ⟨d, hq, hd⟩ := q25_vv
    have hf : floorv (magOf FloatKind.f64.format x) (placeOf FloatKind.f64.format x) < 2 ^ 0 := by
      obtain ⟨c, hc⟩ : ∃ c : Nat, c = 1074 := ⟨_, rfl⟩
      refine floor_lt (c := c) (by omega) ?_
      have h2 : vv .f64 x = magOf FloatKind.f64.format x * 2 ^ (placeOf FloatKind.f64.format x + c).toNat := by
        unfold vv; rw [d64_least, hc]; congr 2
      rw [← h2]
      refine Nat.lt_of_le_of_lt hv ?_
      rw [hq, Nat.zero_add]
      exact Nat.pow_lt_pow_right (by omega) (by omega)
    rw [trunc_val rx (Nat.lt_of_lt_of_le hf (by decide))]
    have : floorv (magOf FloatKind.f64.format x) (placeOf FloatKind.f64.format x) = 0 := by
      rw [Nat.pow_zero] at hf; omega
    rw [this]; rfl
  · subst h; decide +kernel
theorem fr_bd {x : Nat} (h : Fr 4598175219545276416 x) : Bd .f64 4607182418800017408 x := by
  rcases h with h | h
  · exact bd_pos (by omega) (by rw [d64_inf]; omega)
  · subst h
    exact ⟨by decide +kernel, true, 0, by decide +kernel, by decide⟩
/-- 'p' behind j rounds. -/
def sinP (u : Nat) : Nat → Nat
  | 0 => 4607182418800017408
  | j + 1 => fb .sub .f64 4607182418800017408 (fb .quo .f64 (fb .mul .f64 u (sinP u j)) (floatOfInt .f64 (2 * (8 - (j : Int)) * (2 * (8 - (j : Int)) + 1))))
def sinZ (x : Nat) : Nat := fb .mul .f64 x 4618760256179416344
def sinV (x : Nat) : Nat := fb .mul .f64 (sinZ x) (sinP (fb .mul .f64 (sinZ x) (sinZ x)) 8)
theorem den_lo : ∀ j : Nat, j < 8 → pw 2 ≤ floatOfInt .f64 (2 * (8 - ((j : Nat) : Int)) * (2 * (8 - ((j : Nat) : Int)) + 1)) ∧ floatOfInt .f64 (2 * (8 - ((j : Nat) : Int)) * (2 * (8 - ((j : Nat) : Int)) + 1)) < FloatKind.f64.format.infRung := by decide +kernel
theorem sin_pow : ∀ j : Nat, j < 8 → vv .f64 (pw 6) * vv .f64 (pw (5 * j)) ≤ vv .f64 (pw (6 + 5 * j)) * 2 ^ (-FloatKind.f64.format.leastPlace).toNat ∧ vv .f64 (pw (6 + 5 * j)) * 2 ^ (-FloatKind.f64.format.leastPlace).toNat ≤ vv .f64 (pw 2) * vv .f64 (pw (4 + 5 * j)) ∧ vv .f64 4607182418800017408 + vv .f64 (pw (4 + 5 * j)) ≤ vv .f64 (pw (5 * (j + 1))) ∧ pw (6 + 5 * j) < FloatKind.f64.format.infRung ∧ pw (4 + 5 * j) < FloatKind.f64.format.infRung ∧ pw (5 * (j + 1)) < FloatKind.f64.format.infRung ∧ vv .f64 (pw 2) ≠ 0 := by decide +kernel
theorem bd_sinP {u : Nat} (hu : Bd .f64 (pw 6) u) : ∀ j, j ≤ 8 → Bd .f64 (pw (5 * j)) (sinP u j)
  | 0, _ => bd_pos (show (4607182418800017408 : Nat) ≤ pw (5 * 0) by decide +kernel) (by decide +kernel)
  | j + 1, h => by
    obtain ⟨p1, p2, p3, p4, p5, p6, p7⟩ := sin_pow j (by omega)
    obtain ⟨d1, d2⟩ := den_lo j (by omega)
    have hm := bd_mul hu (bd_sinP hu j (by omega)) p4 p1
    have hq := bd_quo hm (⟨_, rfl, d1, d2⟩ : Lo .f64 (pw 2) _) p5 p7 p2
    exact bd_sub (bd_pos (Nat.le_refl 4607182418800017408) (by decide +kernel)) hq p6 p3
theorem bd_sin {x : Nat} (h : Fr 4598175219545276416 x) : Bd .f64 (pw 43) (sinV x) := by
  have hx := fr_bd h
  have hz : Bd .f64 (pw 3) (sinZ x) := bd_mul hx (bd_pos (R := pw 3) (by decide +kernel) (by decide +kernel)) (by decide +kernel) (by decide +kernel)
  have hu : Bd .f64 (pw 6) (fb .mul .f64 (sinZ x) (sinZ x)) := bd_mul hz hz (by decide +kernel) (by decide +kernel)
  exact bd_mul hz (bd_sinP hu 8 (Nat.le_refl _)) (by decide +kernel) (by decide +kernel)
theorem bd_neg {s : Nat} (h : Bd .f64 (pw 43) s) : Bd .f64 (pw 44) (fb .sub .f64 0 s) := bd_sub (bd_pos (R := pw 0) (by decide) (by decide +kernel)) h (by decide +kernel) (by decide +kernel)
theorem nar_small {z : Nat} (h : Bd .f64 (pw 44) z) : narOk z := narOk_bd (h.mono (by decide) (by decide +kernel))
theorem nar_sin {z : Nat} (h : Bd .f64 (pw 43) z) : narOk z := narOk_bd (h.mono (by decide) (by decide +kernel))
def phC (y : Nat) : Nat := sinV (fb .sub .f64 4598175219545276416 (phF y))
def phS (y : Nat) : Nat := sinV (phF y)
def phRe (y : Nat) : Nat := if phQ y = 1 then nar (fb .sub .f64 0 (phS y)) else if phQ y = 2 then nar (fb .sub .f64 0 (phC y)) else if phQ y = 3 then nar (phS y) else nar (phC y)
def phIm (y : Nat) : Nat := if phQ y = 1 then nar (phC y) else if phQ y = 2 then nar (fb .sub .f64 0 (phS y)) else if phQ y = 3 then nar (fb .sub .f64 0 (phC y)) else nar (phS y)
end Go.Proofs.Yteabfkgbakoljaa.Fl
