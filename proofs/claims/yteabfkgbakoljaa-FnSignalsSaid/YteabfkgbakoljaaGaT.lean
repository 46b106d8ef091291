/-
  Means of turns, places between numbers and rates of bearings, of the signals that the laws draw.
-/
import Derived.Test.YteabfkgbakoljaaGaF
import Derived.Test.YteabfkgbakoljaaRest
import Derived.Test.YteabfkgbakoljaaPlace
import Derived.Test.YteabfkgbakoljaaBrgS
namespace Go.Proofs.Yteabfkgbakoljaa
open Go.RowKit Mem Fl
set_option linter.unusedVariables false
set_option maxRecDepth 100000

theorem getD_mem {xs : List Nat} {i : Nat} (h : i < xs.length) : xs.getD i 0 ∈ xs := by
  rw [List.getD_eq_getElem?_getD, List.getElem?_eq_getElem h]; exact List.getElem_mem h
theorem pick_sg {xs : List Nat} (h : Sg xs) {p r : Nat} (hp : p ≤ xs.length) (hr : r < p) : Sg (pickTo xs p r xs.length) := by
  have l2 := h.l2
  refine ⟨fun x hx => ?_, ?_, ?_⟩
  · unfold pickTo at hx
    obtain ⟨i, hi, rfl⟩ := List.mem_map.1 hx
    have hi2 := List.mem_range.1 (List.mem_filter.1 hi).1
    exact h.at_ (getD_mem hi2)
  · have : xs.getD r 0 ∈ pickTo xs p r xs.length := by
      unfold pickTo
      exact List.mem_map.2 ⟨r, List.mem_filter.2 ⟨List.mem_range.2 (by omega), by rw [Nat.mod_eq_of_lt hr]; simp⟩, rfl⟩
    exact List.length_pos_of_mem this
  · have := pickTo_len xs p r xs.length
    omega
theorem sg_sig {xs : List Nat} (h : Sg xs) : isSig xs = true := by
  have l1 := h.l1
  have l2 := h.l2
  unfold isSig
  simp only [Bool.and_eq_true, decide_eq_true_eq, List.all_eq_true]
  exact ⟨⟨l1, by omega⟩, fun x hx => (qF_gr (h.at_ hx)).1.1⟩
theorem turn_at {xs : List Nat} (h : Sg xs) {p r : Nat} (hp : p ≤ xs.length) (hr : r < p) : fin .f32 ((turnL xs p).getD r 0) = true ∧ fv .f32 ((turnL xs p).getD r 0) ≤ 4 + 1 / 1000 ∧ -fv .f32 ((turnL xs p).getD r 0) ≤ 4 + 1 / 1000 := by
  have : (turnL xs p).getD r 0 = fmean (pickTo xs p r xs.length) := by
    unfold turnL
    rw [List.getD_eq_getElem?_getD, List.getElem?_map, List.getElem?_range hr]; rfl
  rw [this]
  exact mean_told (pick_sg h hp hr)
theorem turn_ok {xs : List Nat} (h : Sg xs) {p : Nat} (h1 : 1 ≤ p) (hp : p ≤ xs.length) : turnOk xs (p : Int) = true ∧ restOk xs (p : Int) = true := by
  have hs := sg_sig h
  have hi : inB (p : Int) 1 (xs.length : Int) = true := by unfold inB; simp; omega
  have ht : turnOk xs (p : Int) = true := by
    unfold turnOk
    rw [hs, hi]
    simp only [Bool.true_and, List.all_eq_true]
    intro y hy
    rw [Int.toNat_natCast] at hy
    unfold turnL at hy
    obtain ⟨r, hr, rfl⟩ := List.mem_map.1 hy
    exact (mean_told (pick_sg h hp (List.mem_range.1 hr))).1
  refine ⟨ht, ?_⟩
  unfold restOk
  rw [ht, Bool.true_and, Int.toNat_natCast, List.all_eq_true]
  intro y hy
  unfold restTo at hy
  obtain ⟨i, hi, rfl⟩ := List.mem_map.1 hy
  obtain ⟨a, b, c⟩ := turn_at h hp (Nat.mod_lt i (show 0 < p by omega))
  obtain ⟨⟨x1, _⟩, _, _, x2, x3⟩ := qF_gr (h.at_ (getD_mem (List.mem_range.1 hi)))
  have hb := big12
  exact (re_sub x1 a (by grind) (by grind)).1
/-- The difference of two numbers in 64 bits. -/
def gap64 (a b : Nat) : Nat := if (FloatKind.f64.format.order a b == some .lt) = true then fb .sub .f64 b a else fb .sub .f64 a b
theorem u64b : uu .f64 ≤ 1 / 1000000000000 := by decide +kernel
theorem big64b : (1000000000000 : Rat) ≤ big .f64 := by decide +kernel
theorem gap64_le {x y : Nat} {d : Rat} (hx : fin .f64 x = true) (hy : fin .f64 y = true) (h1 : fv .f64 x - fv .f64 y ≤ d) (h2 : fv .f64 y - fv .f64 x ≤ d) (hd : d ≤ 1000) : fin .f64 (gap64 x y) = true ∧ fv .f64 (gap64 x y) ≤ d + 1 / 1000000 := by
  have hb := big64b
  have hu := u64b
  obtain ⟨c1, c2⟩ := re_sub hx hy (by grind) (by grind)
  obtain ⟨d1, d2⟩ := re_sub hy hx (by grind) (by grind)
  have c3 := c2 1000 (by grind) (by grind)
  have d3 := d2 1000 (by grind) (by grind)
  unfold gap64
  split
  · exact ⟨d1, by grind⟩
  · exact ⟨c1, by grind⟩
theorem c0001' : fin .f64 4562254508917369340 = true ∧ 999 / 1000000 ≤ fv .f64 4562254508917369340 ∧ fv .f64 4562254508917369340 ≤ 1 := by decide +kernel
theorem f64_add {x y : Nat} (hx : fin .f64 x = true) (hy : fin .f64 y = true) (h1 : fv .f64 x + fv .f64 y ≤ 1000000) (h2 : -(fv .f64 x + fv .f64 y) ≤ 1000000) : fin .f64 (fb .add .f64 x y) = true ∧ Near (fv .f64 (fb .add .f64 x y)) (fv .f64 x + fv .f64 y) (1 / 1000000) := by
  have hb := big64b
  have hu := u64b
  obtain ⟨c1, c2⟩ := re_add hx hy (by grind) (by grind)
  have c3 := c2 1000000 h1 h2
  exact ⟨c1, by grind, by grind⟩
theorem f64_mul {x y : Nat} (hx : fin .f64 x = true) (hy : fin .f64 y = true) (h1 : fv .f64 x * fv .f64 y ≤ 1000000) (h2 : -(fv .f64 x * fv .f64 y) ≤ 1000000) : fin .f64 (fb .mul .f64 x y) = true ∧ Near (fv .f64 (fb .mul .f64 x y)) (fv .f64 x * fv .f64 y) (1 / 500000) := by
  have hb := big64b
  have hu := u64b
  have he : p2 (FloatKind.f64.format.leastPlace - 1) ≤ 1 / 1000000000 := by decide +kernel
  obtain ⟨c1, c2⟩ := re_mul hx hy (by grind) (by grind)
  have c3 := c2 1000000 h1 h2
  exact ⟨c1, by grind, by grind⟩
/-- What is left and the mean of the turn make the number, nearly. -/
theorem rest_near {xs : List Nat} (h : Sg xs) {p i : Nat} (h1 : 1 ≤ p) (hp : p ≤ xs.length) (hi : i < xs.length) :
    (FloatKind.f64.format.order (gap64 (fb .add .f64 (wide (fb .sub .f32 (xs.getD i 0) ((turnL xs p).getD (i % p) 0))) (wide ((turnL xs p).getD (i % p) 0))) (wide (xs.getD i 0))) 4562254508917369340 == some .gt) = false := by
  obtain ⟨a, b, c⟩ := turn_at h hp (Nat.mod_lt i (show 0 < p by omega))
  obtain ⟨⟨x1, _⟩, _, _, x2, x3⟩ := qF_gr (h.at_ (getD_mem hi))
  generalize (turnL xs p).getD (i % p) 0 = m at *
  generalize xs.getD i 0 = x at *
  have hb := big12
  obtain ⟨r1, r2⟩ := re_sub x1 a (by grind) (by grind)
  have r3 := r2 10 (by grind) (by grind)
  rw [uu32] at r3
  obtain ⟨w1, v1⟩ := re_wide r1
  obtain ⟨w2, v2⟩ := re_wide a
  obtain ⟨w3, v3⟩ := re_wide x1
  obtain ⟨s1, s2, s3⟩ := f64_add w1 w2 (by rw [v1, v2]; grind) (by rw [v1, v2]; grind)
  rw [v1, v2] at s2 s3
  obtain ⟨g1, g2⟩ := gap64_le (d := 1 / 10000) s1 w3 (by rw [v3]; grind) (by rw [v3]; grind) (by grind)
  obtain ⟨c1, c2, _⟩ := c0001'
  rw [ord_gt g1 c1, decide_eq_false_iff_not]
  refine Rat.not_lt.2 ?_
  grind
/-- Places. -/
def hfW (i : Nat) : Nat := fb .add .f32 (floatOfInt .f32 (i : Int)) 1056964608
theorem place_tab : ∀ i : Nat, i < 21 → placeN (floatOfInt .f32 (i : Int)) = i ∧ placeN (hfW i) = i ∧ fb .sub .f32 (floatOfInt .f32 (i : Int)) (floatOfInt .f32 (i : Int)) = 0 ∧ fb .sub .f32 (hfW i) (floatOfInt .f32 (i : Int)) = 1056964608 ∧ fin .f32 (floatOfInt .f32 (i : Int)) = true ∧ fin .f32 (hfW i) = true := by decide +kernel
theorem inR_tab : ∀ n : Nat, n < 22 → ∀ i : Nat, i < n → inR n (floatOfInt .f32 (i : Int)) = true ∧ (i + 1 < n → inR n (hfW i) = true) := by decide +kernel
def midV (k j : Nat) : Nat := fb .add .f32 (qF k) (fb .mul .f32 1056964608 (fb .sub .f32 (qF j) (qF k)))
def atV (k j : Nat) : Nat := fb .add .f32 (qF k) (fb .mul .f32 0 (fb .sub .f32 (qF j) (qF k)))
theorem mid_tab : ∀ k : Nat, k < 33 → ∀ j : Nat, j < 33 → fin .f32 (midV k j) = true ∧ fin .f32 (atV k j) = true ∧ (FloatKind.f32.format.order (atV k j) (qF k) != some .eq) = false ∧
    (FloatKind.f64.format.order (gap64 (wide (midV k j)) (fb .quo .f64 (fb .add .f64 (wide (qF k)) (wide (qF j))) 4611686018427387904)) 4562254508917369340 == some .gt) = false := by decide +kernel
/-- Rates of bearings. -/
def angW (a : Nat) : Nat := fb .quo .f32 (floatOfInt .f32 (a : Int)) 1115684864
def brChk (b j a : Nat) : Bool :=
  brO ((b + 1 : Nat) : Int) (shW (j + 1)) (angW a) &&
  (FloatKind.f64.format.order (gap64 (fb .add .f64 (wide ((brV ((b + 1 : Nat) : Int) (shW (j + 1)) (angW a)).getD 1 0)) (wide ((brV ((b + 1 : Nat) : Int) (shW (j + 1)) (angW a)).getD 2 0))) (floatOfInt .f64 ((b + 1 : Nat) : Int))) 4562254508917369340 == some .lt) &&
  (FloatKind.f64.format.order (gap64 (wide ((brV ((b + 1 : Nat) : Int) (shW (j + 1)) (angW a)).getD 1 0)) (fb .mul .f64 (floatOfInt .f64 ((b + 1 : Nat) : Int)) (wide ((brV ((b + 1 : Nat) : Int) (shW (j + 1)) (angW a)).getD 0 0)))) 4562254508917369340 == some .lt)
end Go.Proofs.Yteabfkgbakoljaa
