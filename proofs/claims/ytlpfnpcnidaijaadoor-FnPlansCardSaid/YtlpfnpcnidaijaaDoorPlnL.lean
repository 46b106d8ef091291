/-
  Risks of plans: the plain law.
-/
import Derived.Test.YtlpfnpcnidaijaaDoorPln5
namespace Go.Proofs.YtlpfnpcnidaijaaDoor
open Go.RowKit Mem
set_option linter.unusedVariables false
set_option maxRecDepth 100000

theorem red_spec {a b : Int} (h0 : 0 ≤ a) (h1 : 1 ≤ b) : ∃ g : Int, 1 ≤ g ∧ a = redA a b * g ∧ b = redB a b * g ∧ 0 ≤ redA a b ∧ 1 ≤ redB a b ∧ redA a b ≤ a ∧ redB a b ≤ b := by
  obtain ⟨A, rfl⟩ := Int.eq_ofNat_of_zero_le h0
  obtain ⟨B, rfl⟩ := Int.eq_ofNat_of_zero_le (show 0 ≤ b by omega)
  have hg : 0 < Nat.gcd A B := Nat.gcd_pos_of_pos_right _ (by omega)
  have e1 := Nat.div_mul_cancel (Nat.gcd_dvd_left A B)
  have e2 := Nat.div_mul_cancel (Nat.gcd_dvd_right A B)
  have e3 : redA A B = ((A / Nat.gcd A B : Nat) : Int) := rfl
  have e4 : redB A B = ((B / Nat.gcd A B : Nat) : Int) := rfl
  have e5 : 1 ≤ B / Nat.gcd A B := Nat.div_pos (Nat.gcd_le_right _ (by omega)) hg
  have e6 : A / Nat.gcd A B ≤ A := Nat.div_le_self _ _
  have e7 : B / Nat.gcd A B ≤ B := Nat.div_le_self _ _
  rw [e3, e4]
  generalize A / Nat.gcd A B = p at *
  generalize B / Nat.gcd A B = q at *
  generalize Nat.gcd A B = g at *
  refine ⟨(g : Int), by omega, ?_, ?_, by omega, by omega, by omega, by omega⟩
  · rw [← Int.natCast_mul, e1]
  · rw [← Int.natCast_mul, e2]
theorem red_cross {a b : Int} (h0 : 0 ≤ a) (h1 : 1 ≤ b) : redA a b * b = a * redB a b := by
  obtain ⟨g, _, e1, e2, _⟩ := red_spec h0 h1
  calc redA a b * b = redA a b * (redB a b * g) := by rw [← e2]
    _ = redA a b * g * redB a b := by rw [Int.mul_comm (redB a b) g, Int.mul_assoc]
    _ = a * redB a b := by rw [← e1]
theorem red_le {a b k : Int} (h0 : 0 ≤ a) (h1 : 1 ≤ b) (h : a ≤ k * b) : redA a b ≤ k * redB a b := by
  obtain ⟨g, hg, e1, e2, _⟩ := red_spec h0 h1
  refine Int.le_of_mul_le_mul_right (a := g) ?_ (by omega)
  rw [← e1, Int.mul_assoc, ← e2]; exact h
theorem red_ge {a b k : Int} (h0 : 0 ≤ a) (h1 : 1 ≤ b) (h : k * b ≤ a) : k * redB a b ≤ redA a b := by
  obtain ⟨g, hg, e1, e2, _⟩ := red_spec h0 h1
  refine Int.le_of_mul_le_mul_right (a := g) ?_ (by omega)
  rw [← e1, Int.mul_assoc, ← e2]; exact h
theorem red_le2 {a b k q : Int} (h0 : 0 ≤ a) (h1 : 1 ≤ b) (h : a * q ≤ k * b) : redA a b * q ≤ k * redB a b := by
  obtain ⟨g, hg, e1, e2, _⟩ := red_spec h0 h1
  refine Int.le_of_mul_le_mul_right (a := g) ?_ (by omega)
  calc redA a b * q * g = redA a b * g * q := by rw [Int.mul_right_comm]
    _ = a * q := by rw [← e1]
    _ ≤ k * b := h
    _ = k * redB a b * g := by rw [Int.mul_assoc, ← e2]
theorem red_ge2 {a b k q : Int} (h0 : 0 ≤ a) (h1 : 1 ≤ b) (h : k * b ≤ a * q) : k * redB a b ≤ redA a b * q := by
  obtain ⟨g, hg, e1, e2, _⟩ := red_spec h0 h1
  refine Int.le_of_mul_le_mul_right (a := g) ?_ (by omega)
  calc k * redB a b * g = k * b := by rw [Int.mul_assoc, ← e2]
    _ ≤ a * q := h
    _ = redA a b * g * q := by rw [← e1]
    _ = redA a b * q * g := by rw [Int.mul_right_comm]
/-- Two fractions: A / C and (A R) / (C R). -/
theorem red_two {A C R : Int} (hA : 0 ≤ A) (hC : 1 ≤ C) (hR : 1 ≤ R) (hCR : 1 ≤ C * R) (D : Int) (hD0 : 0 ≤ D) (hD : A * R ≤ D) : redA A C * redB D (C * R) ≤ redA D (C * R) * redB A C := by
  obtain ⟨g, hg, e1, e2, _⟩ := red_spec hA hC
  obtain ⟨k, hk, f1, f2, _⟩ := red_spec hD0 hCR
  generalize redA A C = n at *
  generalize redB A C = m at *
  generalize redA D (C * R) = x at *
  generalize redB D (C * R) = y at *
  refine Int.le_of_mul_le_mul_right (a := g * k) ?_ (by have := Int.mul_le_mul hg hk (by omega) (by omega); omega)
  calc n * y * (g * k) = (n * g) * (y * k) := by ac_rfl
    _ = A * (C * R) := by rw [← e1, ← f2]
    _ = A * R * C := by rw [Int.mul_comm C R, Int.mul_assoc]
    _ ≤ D * C := Int.mul_le_mul_of_nonneg_right hD (by omega)
    _ = (x * k) * (m * g) := by rw [← f1, ← e2]
    _ = x * m * (g * k) := by ac_rfl
theorem red_two_eq {A C R : Int} (hA : 0 ≤ A) (hC : 1 ≤ C) (hR : 1 ≤ R) (hCR : 1 ≤ C * R) (D : Int) (hD0 : 0 ≤ D) (hD : D = A * R) : redA D (C * R) * redB A C = redA A C * redB D (C * R) := by
  refine Int.le_antisymm ?_ (red_two hA hC hR hCR D hD0 (by rw [hD]; exact Int.le_refl _))
  obtain ⟨g, hg, e1, e2, _⟩ := red_spec hA hC
  obtain ⟨k, hk, f1, f2, _⟩ := red_spec hD0 hCR
  generalize redA A C = n at *
  generalize redB A C = m at *
  generalize redA D (C * R) = x at *
  generalize redB D (C * R) = y at *
  refine Int.le_of_mul_le_mul_right (a := g * k) ?_ (by have := Int.mul_le_mul hg hk (by omega) (by omega); omega)
  refine Int.le_of_eq ?_
  calc x * m * (g * k) = (x * k) * (m * g) := by ac_rfl
    _ = D * C := by rw [← f1, ← e2]
    _ = A * R * C := by rw [hD]
    _ = A * (C * R) := by rw [Int.mul_comm C R, Int.mul_assoc]
    _ = (n * g) * (y * k) := by rw [← e1, ← f2]
    _ = n * y * (g * k) := by ac_rfl

/-! ### Bounds by powers of two -/
def rowT (b : Nat) : Nat → Nat
  | 0 => 0
  | k + 1 => rowT b k + ch b k
def chkR : Bool := (List.range 41).all fun b => (List.range 42).all fun k => decide (rowT b k ≤ 2 ^ b)
theorem chkR_t : chkR = true := by decide +kernel
theorem rowT_le {b k : Nat} (h : b ≤ 40) (hk : k ≤ 41) : rowT b k ≤ 2 ^ b := by
  have h1 := List.all_eq_true.1 (List.all_eq_true.1 chkR_t b (List.mem_range.2 (by omega))) k (List.mem_range.2 (by omega))
  simpa using h1
theorem accT_row {lot bad : Nat} (h : lot ≤ 40) (hb : bad ≤ lot) (size : Int) : ∀ k : Nat, accT lot bad size k ≤ rowT bad k * 2 ^ (lot - bad)
  | 0 => by simp [accT]
  | k + 1 => by
    have ih := accT_row h hb size k
    have e : ((lot : Int) - bad) = ((lot - bad : Nat) : Int) := by omega
    have h1 := Nat.mul_le_mul (Nat.le_refl (ch bad k)) (ch_le (n := lot - bad) (by omega) (size - k))
    rw [accT, rowT, Nat.add_mul, e]
    omega
theorem accT_pow {lot bad k : Nat} (h : lot ≤ 40) (hb : bad ≤ lot) (size : Int) (hk : k ≤ 41) : accT lot bad size k ≤ 2 ^ lot := by
  have h1 := accT_row h hb size k
  have h2 := Nat.mul_le_mul (rowT_le (b := bad) (by omega) hk) (Nat.le_refl (2 ^ (lot - bad)))
  rw [← Nat.pow_add, show bad + (lot - bad) = lot by omega] at h2
  omega
theorem accI_pow {lot bad a : Int} (h : lot ≤ 20) (h0 : 0 ≤ bad) (hb : bad ≤ lot) (size : Int) (ha : a ≤ 40) : accI lot bad size a ≤ 1048576 := by
  obtain ⟨b, rfl⟩ := Int.eq_ofNat_of_zero_le h0
  obtain ⟨l, rfl⟩ := Int.eq_ofNat_of_zero_le (show 0 ≤ lot by omega)
  have h1 := accT_pow (lot := l) (bad := b) (k := (a + 1).toNat) (by omega) (by omega) size (by omega)
  have h2 : 2 ^ l ≤ 2 ^ 20 := Nat.pow_le_pow_right (by decide) (by omega)
  unfold accI acc
  omega
theorem dsT_acc {lot bad asz aac bsz bac rej : Int} (l2 : lot ≤ 20) (h0 : 0 ≤ bad) (hb : bad ≤ lot) (ha : asz ≤ lot) (ha0 : 0 ≤ asz) (hbac : bac ≤ 40) : ∀ k : Nat, dsT lot bad asz aac bsz bac rej k ≤ (accT lot bad asz k : Nat) * 1048576
  | 0 => by simp [dsT, accT]
  | k + 1 => by
    have ih := dsT_acc (aac := aac) (bsz := bsz) (rej := rej) l2 h0 hb ha ha0 hbac k
    have w1 : 0 ≤ dsW lot bad asz k := Int.mul_nonneg (chI_nn _ _) (chI_nn _ _)
    have e : ((accT lot bad asz (k + 1) : Nat) : Int) = (accT lot bad asz k : Nat) + dsW lot bad asz k := by
      rw [accT]; unfold dsW chI; push_cast; rfl
    have ht : dsTerm lot bad asz aac bsz bac rej k ≤ dsW lot bad asz k * 1048576 := by
      unfold dsTerm
      split
      · rename_i hz; rw [hz]; omega
      · rename_i hne
        have hw := dsW_ne hne
        split
        · exact Int.mul_le_mul_of_nonneg_left (chI20 (by omega) (by omega) bsz) w1
        · split
          · exact Int.mul_le_mul_of_nonneg_left (accI_pow (by omega) hw.1 hw.2 bsz (by omega)) w1
          · exact Int.mul_nonneg w1 (by omega)
    rw [dsT, e]
    rw [Int.add_mul]
    omega
theorem dsT_pow {lot bad asz aac bsz bac rej : Int} {k : Nat} (l2 : lot ≤ 20) (h0 : 0 ≤ bad) (hb : bad ≤ lot) (ha : asz ≤ lot) (ha0 : 0 ≤ asz) (hbac : bac ≤ 40) (hk : k ≤ 41) : dsT lot bad asz aac bsz bac rej k ≤ 1099511627776 := by
  have h1 := dsT_acc (aac := aac) (bsz := bsz) (rej := rej) l2 h0 hb ha ha0 hbac k
  obtain ⟨b, rfl⟩ := Int.eq_ofNat_of_zero_le h0
  obtain ⟨l, rfl⟩ := Int.eq_ofNat_of_zero_le (show 0 ≤ lot by omega)
  have h2 := accT_pow (lot := l) (bad := b) (k := k) (by omega) (by omega) asz hk
  have h3 : 2 ^ l ≤ 2 ^ 20 := Nat.pow_le_pow_right (by decide) (by omega)
  omega
/-! ### Two sets -/
theorem dsTerm_nn {lot bad asz aac bsz bac rej : Int} {i : Nat} : 0 ≤ dsTerm lot bad asz aac bsz bac rej i := by
  have w1 : 0 ≤ dsW lot bad asz i := Int.mul_nonneg (chI_nn _ _) (chI_nn _ _)
  unfold dsTerm
  split
  · omega
  · split
    · exact Int.mul_nonneg w1 (chI_nn _ _)
    · split
      · exact Int.mul_nonneg w1 (accI_nn _ _ _ _)
      · omega
theorem dsT_few {lot bad asz aac bsz bac rej : Int} : ∀ k : Nat, (k : Int) ≤ aac + 1 → dsT lot bad asz aac bsz bac rej k = (accT lot bad asz k : Nat) * chI (lot - asz) bsz
  | 0, _ => by simp [dsT, accT]
  | k + 1, hk => by
    have ih := dsT_few (bad := bad) (bsz := bsz) (bac := bac) (rej := rej) (lot := lot) (asz := asz) (aac := aac) k (by omega)
    have e : ((accT lot bad asz (k + 1) : Nat) : Int) = (accT lot bad asz k : Nat) + dsW lot bad asz k := by
      rw [accT]; unfold dsW chI; push_cast; rfl
    have ht : dsTerm lot bad asz aac bsz bac rej k = dsW lot bad asz k * chI (lot - asz) bsz := by
      unfold dsTerm
      split
      · rename_i hz; rw [hz, Int.zero_mul]
      · rw [if_pos (by omega)]
    rw [dsT, ih, e, ht, Int.add_mul]
theorem dsT_more {lot bad asz aac bsz bac rej : Int} {a : Nat} : ∀ d : Nat, dsT lot bad asz aac bsz bac rej a ≤ dsT lot bad asz aac bsz bac rej (a + d)
  | 0 => Int.le_refl _
  | d + 1 => by
    have ih := dsT_more (lot := lot) (bad := bad) (asz := asz) (aac := aac) (bsz := bsz) (bac := bac) (rej := rej) (a := a) d
    have := dsTerm_nn (lot := lot) (bad := bad) (asz := asz) (aac := aac) (bsz := bsz) (bac := bac) (rej := rej) (i := a + d)
    rw [show a + (d + 1) = (a + d) + 1 from rfl, dsT]
    omega
theorem dsT_stop {lot bad asz aac bsz bac : Int} {a : Nat} (ha : (a : Int) = aac + 1) : ∀ d : Nat, dsT lot bad asz aac bsz bac (aac + 1) (a + d) = dsT lot bad asz aac bsz bac (aac + 1) a
  | 0 => rfl
  | d + 1 => by
    have ih := dsT_stop (lot := lot) (bad := bad) (asz := asz) (bsz := bsz) (bac := bac) ha d
    have ht : dsTerm lot bad asz aac bsz bac (aac + 1) (a + d) = 0 := by
      unfold dsTerm
      split
      · rfl
      · rw [if_neg (by omega), if_neg (by omega)]
    rw [show a + (d + 1) = (a + d) + 1 from rfl, dsT, ih, ht, Int.add_zero]
theorem dsT_one {lot bad sz ac bsz bac : Int} (h0 : 0 ≤ ac) (h1 : ac ≤ sz) : dsT lot bad sz ac bsz bac (ac + 1) (sz + 1).toNat = accI lot bad sz ac * chI (lot - sz) bsz := by
  have h2 := dsT_stop (lot := lot) (bad := bad) (asz := sz) (aac := ac) (bsz := bsz) (bac := bac) (a := (ac + 1).toNat) (by omega) (sz - ac).toNat
  rw [show (ac + 1).toNat + (sz - ac).toNat = (sz + 1).toNat by omega] at h2
  rw [h2, dsT_few _ (by omega)]; rfl
theorem dsT_two {lot bad sz ac bsz bac rej : Int} (h0 : 0 ≤ ac) (h1 : ac ≤ sz) : accI lot bad sz ac * chI (lot - sz) bsz ≤ dsT lot bad sz ac bsz bac rej (sz + 1).toNat := by
  have h2 := dsT_more (lot := lot) (bad := bad) (asz := sz) (aac := ac) (bsz := bsz) (bac := bac) (rej := rej) (a := (ac + 1).toNat) (sz - ac).toNat
  rw [show (ac + 1).toNat + (sz - ac).toNat = (sz + 1).toNat by omega] at h2
  rw [dsT_few _ (by omega)] at h2
  exact h2
/-! ### The curve -/
def chkA (lot : Nat) : Bool := (List.range (lot + 1)).all fun b => (List.range (lot + 1)).all fun s => (List.range 4).all fun a =>
  decide (acc lot b s a ≤ ch lot s) && (!(decide (b ≤ a) || decide (s ≤ a)) || decide (acc lot b s a = ch lot s)) && (b == lot || decide (acc lot (b + 1 : Nat) s a ≤ acc lot b s a))
theorem chkA_t : ((List.range 20).all chkA) = true := by decide +kernel
theorem chkA_at {lot b s a : Nat} (hl : lot < 20) (hb : b ≤ lot) (hs : s ≤ lot) (ha : a < 4) :
    acc lot b s a ≤ ch lot s ∧ (b ≤ a ∨ s ≤ a → acc lot b s a = ch lot s) ∧ (b < lot → acc lot (b + 1 : Nat) s a ≤ acc lot b s a) := by
  have h1 := List.all_eq_true.1 chkA_t lot (List.mem_range.2 hl)
  have h2 := List.all_eq_true.1 (List.all_eq_true.1 (List.all_eq_true.1 h1 b (List.mem_range.2 (by omega))) s (List.mem_range.2 (by omega))) a (List.mem_range.2 ha)
  simp only [Bool.and_eq_true, Bool.or_eq_true, decide_eq_true_eq, Bool.not_eq_true', Bool.or_eq_false_iff, decide_eq_false_iff_not, beq_iff_eq] at h2
  refine ⟨h2.1.1, fun h => ?_, fun h => ?_⟩
  · rcases h2.1.2 with h3 | h3
    · omega
    · exact h3
  · rcases h2.2 with h3 | h3
    · omega
    · exact h3
theorem curve_at {lot b s a : Int} (hl : lot < 20) (hb0 : 0 ≤ b) (hb : b ≤ lot) (hs0 : 0 ≤ s) (hs : s ≤ lot) (ha0 : 0 ≤ a) (ha : a < 4) :
    accI lot b s a ≤ chI lot s ∧ (b ≤ a ∨ s ≤ a → accI lot b s a = chI lot s) ∧ (1 ≤ b → accI lot b s a ≤ accI lot (b - 1) s a) := by
  obtain ⟨B, rfl⟩ := Int.eq_ofNat_of_zero_le hb0
  obtain ⟨S, rfl⟩ := Int.eq_ofNat_of_zero_le hs0
  obtain ⟨A, rfl⟩ := Int.eq_ofNat_of_zero_le ha0
  obtain ⟨L, rfl⟩ := Int.eq_ofNat_of_zero_le (show 0 ≤ lot by omega)
  obtain ⟨h1, h2, h3⟩ := chkA_at (lot := L) (b := B) (s := S) (a := A) (by omega) (by omega) (by omega) (by omega)
  unfold accI chI
  refine ⟨by omega, fun h => ?_, fun h => ?_⟩
  · have := h2 (by omega); omega
  · obtain ⟨h4, h5, h6⟩ := chkA_at (lot := L) (b := B - 1) (s := S) (a := A) (by omega) (by omega) (by omega) (by omega)
    have := h6 (by omega)
    rw [show B - 1 + 1 = B by omega] at this
    rw [show ((B : Int) - 1) = ((B - 1 : Nat) : Int) by omega]
    omega
/-- How many parts are looked at. -/
theorem looks_at {lot bad ac : Int} (hl : lot < 20) (hb0 : 0 ≤ bad) (hb : bad ≤ lot) (ha0 : 0 ≤ ac) (ha : ac < 4) : ∀ k : Nat, (k : Int) ≤ lot →
    mlT lot bad ac k ≤ k * chI lot bad ∧ min (k : Int) (ac + 1) * chI lot bad ≤ mlT lot bad ac k ∧ (bad ≤ ac → mlT lot bad ac k = k * chI lot bad)
  | 0, _ => by simp [mlT]; rw [Int.min_eq_left (by omega)]; simp
  | k + 1, hk => by
    obtain ⟨i1, i2, i3⟩ := looks_at hl hb0 hb ha0 ha k (by omega)
    obtain ⟨h1, h2, _⟩ := curve_at (lot := lot) (b := (k : Nat)) (s := bad) (a := ac) hl (by omega) (by omega) hb0 hb ha0 ha
    have c0 := chI_nn lot bad
    have a0 := accI_nn lot (k : Nat) bad ac
    rw [mlT]
    refine ⟨?_, ?_, fun h => ?_⟩
    · push_cast; rw [Int.add_mul]; omega
    · rcases Int.lt_or_le ac k with hka | hka
      · rw [Int.min_eq_right (by push_cast; omega)]
        rw [Int.min_eq_right (by omega)] at i2
        omega
      · rw [Int.min_eq_left (by push_cast; omega)]
        rw [Int.min_eq_left (by omega)] at i2
        have := h2 (.inl hka)
        push_cast; rw [Int.add_mul]; omega
    · have e1 := i3 h
      have e2 := h2 (.inr h)
      rw [e1, e2]; push_cast; rw [Int.add_mul]; omega
end Go.Proofs.YtlpfnpcnidaijaaDoor
