/-
  How well two agree, in plain numbers: from -1 to 1, nearly; and 1, nearly, where they do.
-/
import Derived.Test.YtolbibpmngmpdaaRe
namespace Go.Proofs.Ytolbibpmngmpdaa
open Go.RowKit Fl
set_option linter.unusedVariables false
set_option maxRecDepth 100000

/-- The shares that agree by chance, from the sums of rows and columns. -/
def agB (t : Int) : List (Int × Int) → Nat
  | [] => 0
  | q :: r => fb .add .f32 (agB t r) (fb .quo .f32 (floatOfInt .f32 (q.1 * q.2)) (floatOfInt .f32 (t * t)))
def agA (m t : Int) : Nat := fb .quo .f32 (floatOfInt .f32 m) (floatOfInt .f32 t)
def agV (m t : Int) (l : List (Int × Int)) : Nat := fb .quo .f32 (fb .sub .f32 (agA m t) (agB t l)) (fb .sub .f32 1065353216 (agB t l))
def rcS : List (Int × Int) → Int
  | [] => 0
  | q :: r => rcS r + q.1 * q.2
/-- Twice what is expected is at most what is, and all. -/
theorem rc_term {r c p t : Int} (h1 : r + c ≤ t + p) (hr : 0 ≤ r) (hc : 0 ≤ c) (hp : 0 ≤ p) (hpt : p ≤ t) : 4 * (r * c) ≤ (r + c) * t + 2 * t * p := by
  have a1 : 0 ≤ (r - c) * (r - c) := by
    rcases Int.le_total 0 (r - c) with h | h
    · exact Int.mul_nonneg h h
    · have := Int.mul_nonneg (show 0 ≤ c - r by omega) (show 0 ≤ c - r by omega)
      grind
  have a2 := Int.mul_nonneg (show 0 ≤ t + p - (r + c) by omega) (show 0 ≤ r + c by omega)
  have a3 := Int.mul_nonneg (show 0 ≤ t + p - (r + c) by omega) hp
  have a4 := Int.mul_nonneg (show 0 ≤ t - p by omega) hp
  grind
theorem int_fin {n : Int} (h0 : -10000 ≤ n) (h1 : n ≤ 10000) : fin .f32 (floatOfInt .f32 n) = true ∧ fv .f32 (floatOfInt .f32 n) = (n : Rat) :=
  re_int (k := .f32) (by
    have : FloatKind.f32.format.fractionBits = 23 := by decide +kernel
    rw [this]; omega)
theorem uu32' : uu .f32 = 1 / 16777216 := by decide +kernel
theorem eta32' : p2 (FloatKind.f32.format.leastPlace - 1) ≤ 1 / 16777216 / 1024 := by decide +kernel
theorem big32' : (1000000 : Rat) ≤ big .f32 := by decide +kernel
theorem icast_le {a b : Int} : ((a : Rat) ≤ (b : Rat)) ↔ a ≤ b := Rat.intCast_le_intCast
/-- A share of whole numbers. -/
theorem quo_int {m t : Int} (h0 : 0 ≤ m) (h1 : m ≤ t) (h2 : 0 < t) (h3 : t ≤ 10000) : ∃ v : Rat, v * (t : Rat) = (m : Rat) ∧ 0 ≤ v ∧ v ≤ 1 ∧ fin .f32 (fb .quo .f32 (floatOfInt .f32 m) (floatOfInt .f32 t)) = true ∧
    fv .f32 (fb .quo .f32 (floatOfInt .f32 m) (floatOfInt .f32 t)) - v ≤ 3 / 16777216 ∧ v - fv .f32 (fb .quo .f32 (floatOfInt .f32 m) (floatOfInt .f32 t)) ≤ 3 / 16777216 := by
  obtain ⟨fm, vm⟩ := int_fin (n := m) (by omega) (by omega)
  obtain ⟨ft, vt⟩ := int_fin (n := t) (by omega) (by omega)
  have tp : (0 : Rat) < (t : Rat) := Rat.intCast_pos.2 h2
  have mp : (0 : Rat) ≤ (m : Rat) := Rat.intCast_nonneg.2 h0
  have mt : (m : Rat) ≤ (t : Rat) := icast_le.2 h1
  have hv : (m : Rat) / (t : Rat) * (t : Rat) = (m : Rat) := Rat.div_mul_cancel (Rat.ne_of_gt tp)
  have v1 : (m : Rat) / (t : Rat) ≤ 1 := Rat.le_of_mul_le_mul_right (c := (t : Rat)) (by rw [hv]; grind) tp
  have v0 : 0 ≤ (m : Rat) / (t : Rat) := Rat.le_of_mul_le_mul_right (c := (t : Rat)) (by rw [hv]; grind) tp
  have hb := big32'
  obtain ⟨a, b⟩ := re_quo fm ft (by rw [vt]; exact Rat.ne_of_gt tp) (by rw [vm, vt]; grind) (by rw [vm, vt]; grind)
  rw [vm, vt, uu32'] at b
  have he := eta32'
  have := b 1 v1 (by grind)
  exact ⟨(m : Rat) / (t : Rat), hv, v0, v1, a, by grind, by grind⟩
/-- The sum of shares, nearly. -/
theorem agB_ok {t : Int} (ht : 0 < t) (ht2 : t ≤ 84) : ∀ l : List (Int × Int), l.length ≤ 4 → (∀ q ∈ l, 0 ≤ q.1 ∧ 0 ≤ q.2 ∧ q.1 ≤ t ∧ q.2 ≤ t) → 
    ∃ v : Rat, v * ((t : Rat) * (t : Rat)) = ((rcS l : Int) : Rat) ∧ 0 ≤ v ∧ v ≤ l.length ∧ fin .f32 (agB t l) = true ∧ fv .f32 (agB t l) - v ≤ 8 / 16777216 * l.length ∧ v - fv .f32 (agB t l) ≤ 8 / 16777216 * l.length
  | [], _, _ => by
    have h1 : fv .f32 (agB t []) = 0 := (by decide +kernel : fv .f32 0 = 0)
    have h2 : fin .f32 (agB t []) = true := (by decide +kernel : fin .f32 0 = true)
    refine ⟨0, by simp [rcS], Rat.le_refl, by simp, h2, ?_, ?_⟩ <;> rw [h1] <;> simp <;> grind
  | q :: r, hl, h => by
    obtain ⟨v, e, v0, v1, f, d1, d2⟩ := agB_ok ht ht2 r (by simp at hl; omega) (fun x hx => h x (List.mem_cons_of_mem _ hx))
    obtain ⟨q1, q2, q3, q4⟩ := h q (List.mem_cons_self ..)
    have hp0 := Int.mul_nonneg q1 q2
    have hpt : q.1 * q.2 ≤ t * t := Int.mul_le_mul q3 q4 q2 (by omega)
    have htt : t * t ≤ 84 * 84 := Int.mul_le_mul ht2 ht2 (by omega) (by omega)
    have htt0 : 0 < t * t := Int.mul_pos ht ht
    obtain ⟨z, e2, z0, z1, f2, d3, d4⟩ := quo_int hp0 hpt htt0 (by omega)
    have hll : (r.length : Rat) ≤ ((3 : Nat) : Rat) := nat_le.2 (by simp at hl; omega)
    have e3 : ((3 : Nat) : Rat) = 3 := rfl
    rw [e3] at hll
    have hb := big32'
    have el : (((q :: r).length : Nat) : Rat) = (r.length : Rat) + 1 := by rw [List.length_cons, Rat.natCast_add]; rfl
    have hl0 : (0 : Rat) ≤ (r.length : Rat) := Rat.natCast_nonneg
    obtain ⟨a, b⟩ := re_add f f2 (by grind) (by grind)
    have hb2 := b 5 (by grind) (by grind)
    rw [uu32'] at hb2
    refine ⟨v + z, ?_, by grind, by rw [el]; grind, a, ?_, ?_⟩
    · rw [Rat.add_mul, e]
      rw [Rat.intCast_mul] at e2
      rw [e2]
      simp only [rcS, Rat.intCast_add]
    · rw [el]
      show fv .f32 (fb .add .f32 (agB t r) _) - (v + z) ≤ _
      grind
    · rw [el]
      show v + z - fv .f32 (fb .add .f32 (agB t r) _) ≤ _
      grind
/-- What is told lies from -1 to 1, nearly; and is 1, nearly, where all agree. -/
theorem agV_ok {m t : Int} {l : List (Int × Int)} (ht : 0 < t) (ht2 : t ≤ 84) (hl : l.length ≤ 4) (hq : ∀ q ∈ l, 0 ≤ q.1 ∧ 0 ≤ q.2 ∧ q.1 ≤ t ∧ q.2 ≤ t) (hm0 : 0 ≤ m) (hmt : m ≤ t)
    (h1 : 2 * rcS l ≤ t * t + t * m) (h2 : 22 * rcS l ≤ 21 * (t * t)) :
    fin .f32 (fb .sub .f32 1065353216 (agB t l)) = true ∧ 0 < fv .f32 (fb .sub .f32 1065353216 (agB t l)) ∧ fin .f32 (agV m t l) = true ∧ fv .f32 (agV m t l) ≤ 1 + 1 / 2000 ∧ -(1 + 1 / 2000) ≤ fv .f32 (agV m t l) ∧ (m = t → 1 - 1 / 2000 ≤ fv .f32 (agV m t l)) := by
  obtain ⟨v, e, v0, v1, f, d1, d2⟩ := agB_ok ht ht2 l hl hq
  obtain ⟨z, e2, z0, z1, f2, d3, d4⟩ := quo_int hm0 hmt ht (by omega)
  have hll : (l.length : Rat) ≤ ((4 : Nat) : Rat) := nat_le.2 hl
  have e4 : ((4 : Nat) : Rat) = 4 := rfl
  rw [e4] at hll
  have tp : (0 : Rat) < (t : Rat) := Rat.intCast_pos.2 ht
  have ttp : (0 : Rat) < (t : Rat) * (t : Rat) := Rat.mul_pos tp tp
  have c1 : 2 * v ≤ 1 + z := by
    refine Rat.le_of_mul_le_mul_right (c := (t : Rat) * (t : Rat)) ?_ ttp
    have h1' := icast_le.2 h1
    simp only [Rat.intCast_add, Rat.intCast_mul] at h1'
    have i2 : ((2 : Int) : Rat) = 2 := rfl
    rw [i2] at h1'
    have : z * ((t : Rat) * (t : Rat)) = (t : Rat) * (m : Rat) := by rw [← e2]; grind
    grind
  have c2 : 22 * v ≤ 21 := by
    refine Rat.le_of_mul_le_mul_right (c := (t : Rat) * (t : Rat)) ?_ ttp
    have h2' := icast_le.2 h2
    simp only [Rat.intCast_mul] at h2'
    have i2 : ((22 : Int) : Rat) = 22 := rfl
    have i3 : ((21 : Int) : Rat) = 21 := rfl
    rw [i2, i3] at h2'
    grind
  have hb := big32'
  have f1 : fin .f32 1065353216 = true := by decide +kernel
  have v1' : fv .f32 1065353216 = 1 := by decide +kernel
  have hz : fv .f32 (agA m t) = fv .f32 (fb .quo .f32 (floatOfInt .f32 m) (floatOfInt .f32 t)) := rfl
  rw [← hz] at d3 d4
  have f2' : fin .f32 (agA m t) = true := f2
  obtain ⟨a1, b1⟩ := re_sub f2' f (by grind) (by grind)
  obtain ⟨a2, b2⟩ := re_sub f1 f (by rw [v1']; grind) (by rw [v1']; grind)
  rw [v1'] at b2
  have b1' := b1 2 (by grind) (by grind)
  have b2' := b2 2 (by grind) (by grind)
  rw [uu32'] at b1' b2'
  have hV : agV m t l = fb .quo .f32 (fb .sub .f32 (agA m t) (agB t l)) (fb .sub .f32 1065353216 (agB t l)) := rfl
  rw [hV]
  obtain ⟨Y, hY⟩ : ∃ Y, fv .f32 (fb .sub .f32 1065353216 (agB t l)) = Y := ⟨_, rfl⟩
  rw [hY] at b2' ⊢
  obtain ⟨X, hX⟩ : ∃ X, fv .f32 (fb .sub .f32 (agA m t) (agB t l)) = X := ⟨_, rfl⟩
  rw [hX] at b1'
  have hY0 : 1 / 23 ≤ Y := by grind
  have hYp : 0 < Y := by grind
  have hq1 : X / Y * Y = X := Rat.div_mul_cancel (Rat.ne_of_gt hYp)
  have u1 : X / Y ≤ 1 + 1 / 4000 := Rat.le_of_mul_le_mul_right (c := Y) (by rw [hq1]; grind) hYp
  have u2 : -(1 + 1 / 4000) ≤ X / Y := Rat.le_of_mul_le_mul_right (c := Y) (by rw [hq1]; grind) hYp
  have u3 : m = t → 1 - 1 / 4000 ≤ X / Y := fun h => Rat.le_of_mul_le_mul_right (c := Y) (by
    have hz1 : z = 1 := by
      have : (z - 1) * (t : Rat) = 0 := by rw [h] at e2; grind
      rcases Rat.mul_eq_zero.1 this with h | h
      · grind
      · rw [h] at tp; exact absurd tp Rat.lt_irrefl
    rw [hq1]; grind) hYp
  obtain ⟨a3, b3⟩ := re_quo a1 a2 (by rw [hY]; exact Rat.ne_of_gt hYp) (by rw [hX, hY]; grind) (by rw [hX, hY]; grind)
  rw [hX, hY, uu32'] at b3
  have he := eta32'
  have b3' := b3 2 (by grind) (by grind)
  exact ⟨a2, hYp, a3, by grind, by grind, fun h => by have := u3 h; grind⟩
end Go.Proofs.Ytolbibpmngmpdaa
