/-
  Numbers as fractions: what a finite number stands for, and how far what '+', '-', '*', '/', a square root or a conversion give is from the exact result.
-/
import Derived.Test.YtjmpldcnhjgpkaaGreatDoorBd
import Derived.Test.YtjmpldcnhjgpkaaGreatDoorLogP
namespace Go.Proofs.YtjmpldcnhjgpkaaGreatDoor.Fl
open Go.RowKit
set_option linter.unusedVariables false

/-- A power of 2. -/
def p2 (e : Int) : Rat := (2 : Rat) ^ e
theorem p2_add (a b : Int) : p2 (a + b) = p2 a * p2 b := Rat.zpow_add (by decide) a b
theorem p2_pos (a : Int) : 0 < p2 a := Rat.zpow_pos (by decide)
theorem p2_nn (a : Int) : 0 ≤ p2 a := Rat.le_of_lt (p2_pos a)
theorem p2_nat (n : Nat) : p2 (n : Int) = ((2 ^ n : Nat) : Rat) := by
  unfold p2
  rw [Rat.zpow_natCast, Rat.natCast_pow]; rfl
theorem p2_toNat {a : Int} (h : 0 ≤ a) : p2 a = ((2 ^ a.toNat : Nat) : Rat) := by
  rw [← p2_nat, Int.toNat_of_nonneg h]
theorem p2_zero : p2 0 = 1 := by unfold p2; simp
theorem p2_one : p2 1 = 2 := by unfold p2; rw [Rat.zpow_one]
theorem p2_dbl (a : Int) : p2 a = 2 * p2 (a - 1) := by
  have := p2_add 1 (a - 1)
  rw [p2_one] at this
  rw [← this]; congr 1; omega
theorem nat_le {m n : Nat} : ((m : Rat) ≤ (n : Rat)) ↔ m ≤ n := Rat.natCast_le_natCast
theorem p2_le {a b : Int} (h : a ≤ b) : p2 a ≤ p2 b := by
  have e : b = a + (b - a) := by omega
  rw [e, p2_add, p2_toNat (a := b - a) (by omega)]
  have h1 : (1 : Rat) ≤ ((2 ^ (b - a).toNat : Nat) : Rat) := by
    have := (nat_le (m := 1)).2 (Nat.two_pow_pos (b - a).toNat)
    simpa using this
  have := Rat.mul_le_mul_of_nonneg_left h1 (p2_nn a)
  simpa using this
/-- Numbers side by side, as whole ones or as fractions. -/
theorem numle_iff {m n : Nat} {e j : Int} : NumLe m e n j ↔ (m : Rat) * p2 e ≤ (n : Rat) * p2 j := by
  have h1 : p2 e = p2 (min e j) * ((2 ^ (e - min e j).toNat : Nat) : Rat) := by
    rw [← p2_toNat (by omega), ← p2_add]; congr 1; omega
  have h2 : p2 j = p2 (min e j) * ((2 ^ (j - min e j).toNat : Nat) : Rat) := by
    rw [← p2_toNat (by omega), ← p2_add]; congr 1; omega
  have hp := p2_pos (min e j)
  unfold NumLe
  rw [← nat_le, Rat.natCast_mul, Rat.natCast_mul, h1, h2]
  generalize ((2 ^ (e - min e j).toNat : Nat) : Rat) = A
  generalize ((2 ^ (j - min e j).toNat : Nat) : Rat) = B
  generalize p2 (min e j) = P at *
  have e1 : (m : Rat) * (P * A) = P * (m * A) := by grind
  have e2 : (n : Rat) * (P * B) = P * (n * B) := by grind
  rw [e1, e2]
  constructor
  · intro h; exact Rat.mul_le_mul_of_nonneg_left h (Rat.le_of_lt hp)
  · intro h; exact Rat.le_of_mul_le_mul_left h hp

/-- What a datum stands for. -/
def fvd : Ieee.Datum → Rat
  | .number s m e => (if s then -1 else 1) * ((m : Rat) * p2 e)
  | _ => 0
/-- What a word stands for. -/
def fv (k : FloatKind) (x : Nat) : Rat := fvd (k.format.read x)
theorem fv_read {k : FloatKind} {x : Nat} {s : Bool} {m : Nat} {e : Int} (h : k.format.read x = .number s m e) : fv k x = (if s then -1 else 1) * ((m : Rat) * p2 e) := by
  unfold fv; rw [h]; rfl
theorem signed_rat (s : Bool) (m u : Nat) : ((Ieee.signed s m u : Int) : Rat) = (if s then -1 else 1) * ((m : Rat) * ((2 ^ u : Nat) : Rat)) := by
  unfold Ieee.signed
  rw [Nat.shiftLeft_eq]
  split
  · rw [Rat.intCast_neg, Rat.intCast_natCast, Rat.natCast_mul]; grind
  · rw [Rat.intCast_natCast, Rat.natCast_mul]; grind
theorem signed_val (s : Bool) (m : Nat) {i b : Int} (h : b ≤ i) : ((Ieee.signed s m (i - b).toNat : Int) : Rat) * p2 b = (if s then -1 else 1) * ((m : Rat) * p2 i) := by
  rw [signed_rat, ← p2_toNat (by omega)]
  have : p2 i = p2 (i - b) * p2 b := by rw [← p2_add]; congr 1; omega
  rw [this]; grind
/-- Half of the last place, of what begins with 1. -/
def uu (k : FloatKind) : Rat := p2 (-(k.format.fractionBits + 1 : Int))
theorem uu_pos (k : FloatKind) : 0 < uu k := p2_pos _
theorem rung_val (f : Ieee.Format) {a c : Nat} (h1 : c ≤ 2 * f.binade) (h2 : a = 0 ∨ f.binade ≤ c) :
    (magOf f (a * f.binade + c) : Rat) * p2 (placeOf f (a * f.binade + c)) = (c : Rat) * p2 (f.leastPlace + a) := by
  have hB := binade_pos f
  unfold magOf placeOf
  by_cases hr : a * f.binade + c < f.binade
  · have ha : a = 0 := by
      rcases Nat.eq_zero_or_pos a with h | h
      · exact h
      · have := Nat.mul_le_mul_right f.binade h; omega
    subst ha
    rw [if_pos hr, if_pos hr]
    simp
  · rw [if_neg hr, if_neg hr]
    have hcB : f.binade ≤ c := by
      rcases h2 with h | h
      · subst h; omega
      · exact h
    rcases Nat.eq_or_lt_of_le h1 with h | h
    · subst h
      have e1 : a * f.binade + 2 * f.binade = (a + 2) * f.binade := by rw [Nat.add_mul]
      rw [e1, Nat.mul_mod_left, Nat.mul_div_cancel _ hB]
      have e2 : p2 (f.leastPlace + ((a + 2 - 1 : Nat) : Int)) = 2 * p2 (f.leastPlace + a) := by
        rw [p2_dbl]; congr 2; omega
      rw [e2, Nat.add_zero, Rat.natCast_mul]
      grind
    · have e1 : a * f.binade + c = (c - f.binade) + (a + 1) * f.binade := by rw [Nat.add_mul]; omega
      rw [e1, Nat.add_mul_mod_self_right, Nat.add_mul_div_right _ _ hB, Nat.mod_eq_of_lt (by omega), Nat.div_eq_of_lt (by omega)]
      rw [show f.binade + (c - f.binade) = c by omega]
      congr 3
      omega
/-- What a number is written to is near to it. -/
theorem nearest_val (f : Ieee.Format) {m : Nat} {e : Int} :
    let V := (magOf f (rungOf f m e) : Rat) * p2 (placeOf f (rungOf f m e))
    (V - m * p2 e ≤ p2 (-(f.fractionBits + 1 : Int)) * (m * p2 e) ∧ m * p2 e - V ≤ p2 (-(f.fractionBits + 1 : Int)) * (m * p2 e)) ∨
    (e < f.leastPlace ∧ V - m * p2 e ≤ p2 (f.leastPlace - 1) ∧ m * p2 e - V ≤ p2 (f.leastPlace - 1)) := by
  intro V
  by_cases hm : m = 0
  · subst hm
    left
    have h0 : V = 0 := by
      show (magOf f (rungOf f 0 e) : Rat) * p2 _ = 0
      have : magOf f (rungOf f 0 e) = 0 := by
        unfold rungOf magOf; rw [if_pos rfl, if_pos (binade_pos f)]
      rw [this]; simp
    have e0 : ((0 : Nat) : Rat) * p2 e = 0 := by simp
    rw [h0, e0]
    constructor <;> grind
  · have hV : V = (rnd (m * 2 ^ (e - lastOf f m e).toNat) (lastOf f m e - e).toNat : Rat) * p2 (lastOf f m e) := by
      show (magOf f (rungOf f m e) : Rat) * p2 (placeOf f (rungOf f m e)) = _
      have hr : rungOf f m e = (lastOf f m e - f.leastPlace).toNat * f.binade + rnd (m * 2 ^ (e - lastOf f m e).toNat) (lastOf f m e - e).toNat := by unfold rungOf; rw [if_neg hm]
      have hl : f.leastPlace ≤ lastOf f m e := by unfold lastOf; omega
      rw [hr, rung_val f (kept_le f hm) ?_]
      · congr 2; omega
      · by_cases h : lastOf f m e = f.leastPlace
        · left; omega
        · right; exact kept_ge f hm (by unfold lastOf at h ⊢; omega)
    rcases Int.le_total (lastOf f m e) e with h | h
    · left
      have : V = m * p2 e := by
        rw [hV, show (lastOf f m e - e).toNat = 0 by omega, rnd_zero, Rat.natCast_mul, ← p2_toNat (by omega), Rat.mul_assoc, ← p2_add]
        congr 2; omega
      rw [this]
      have h1 := Rat.mul_nonneg (p2_nn (-(f.fractionBits + 1 : Int))) (Rat.mul_nonneg (Rat.natCast_nonneg (a := m)) (p2_nn e))
      exact ⟨by grind, by grind⟩
    · have hz : (e - lastOf f m e).toNat = 0 := by omega
      have hp : p2 (lastOf f m e) = ((2 ^ (lastOf f m e - e).toNat : Nat) : Rat) * p2 e := by
        rw [← p2_toNat (by omega), ← p2_add]; congr 1; omega
      have g1 := rnd_le m (lastOf f m e - e).toNat
      have g2 := rnd_ge m (lastOf f m e - e).toNat
      rw [hz, Nat.pow_zero, Nat.mul_one] at hV
      generalize rnd m (lastOf f m e - e).toNat = c at *
      have g1' := (nat_le).2 g1
      have g2' := (nat_le).2 g2
      simp only [Rat.natCast_add, Rat.natCast_mul] at g1' g2'
      have k1 := Rat.mul_le_mul_of_nonneg_right g1' (p2_nn e)
      have k2 := Rat.mul_le_mul_of_nonneg_right g2' (p2_nn e)
      have q1 : 2 * (V - m * p2 e) ≤ p2 (lastOf f m e) := by
        rw [hV, hp]
        generalize ((2 ^ (lastOf f m e - e).toNat : Nat) : Rat) = A at *
        have : ((2 : Nat) : Rat) = 2 := rfl
        rw [this] at k1
        grind
      have q2 : 2 * (m * p2 e - V) ≤ p2 (lastOf f m e) := by
        rw [hV, hp]
        generalize ((2 ^ (lastOf f m e - e).toNat : Nat) : Rat) = A at *
        have : ((2 : Nat) : Rat) = 2 := rfl
        rw [this] at k2
        grind
      by_cases hl : lastOf f m e = e + m.log2 - f.fractionBits
      · left
        have e1 : p2 (lastOf f m e) = 2 * (p2 (-(f.fractionBits + 1 : Int)) * (((2 ^ m.log2 : Nat) : Rat) * p2 e)) := by
          rw [← p2_nat, ← p2_add, ← p2_add, p2_dbl]
          congr 2; omega
        have e2 : ((2 ^ m.log2 : Nat) : Rat) * p2 e ≤ m * p2 e := Rat.mul_le_mul_of_nonneg_right (nat_le.2 (Nat.log2_self_le hm)) (p2_nn e)
        have e3 := Rat.mul_le_mul_of_nonneg_left e2 (p2_nn (-(f.fractionBits + 1 : Int)))
        exact ⟨by grind, by grind⟩
      · have hl' : lastOf f m e = f.leastPlace := by unfold lastOf at hl ⊢; omega
        rcases Int.lt_or_le e f.leastPlace with he | he
        · right
          rw [hl', p2_dbl f.leastPlace] at q1 q2
          exact ⟨he, by grind, by grind⟩
        · left
          have he' : e = lastOf f m e := by omega
          have : V = m * p2 e := by
            have c1 : c = m := by
              rw [← he', Int.sub_self, Int.toNat_zero, Nat.pow_zero] at g1 g2
              omega
            rw [hV, c1, ← he']
          rw [this]
          have h1 := Rat.mul_nonneg (p2_nn (-(f.fractionBits + 1 : Int))) (Rat.mul_nonneg (Rat.natCast_nonneg (a := m)) (p2_nn e))
          exact ⟨by grind, by grind⟩
/-- What the format has is written as it is. -/
theorem nearest_exact (f : Ieee.Format) {m : Nat} {e : Int} (h : m = 0 ∨ lastOf f m e ≤ e) : (magOf f (rungOf f m e) : Rat) * p2 (placeOf f (rungOf f m e)) = m * p2 e := by
  by_cases hm : m = 0
  · subst hm
    have : magOf f (rungOf f 0 e) = 0 := by unfold rungOf magOf; rw [if_pos rfl, if_pos (binade_pos f)]
    rw [this]; simp
  · have hle := h.resolve_left hm
    have hr : rungOf f m e = (lastOf f m e - f.leastPlace).toNat * f.binade + rnd (m * 2 ^ (e - lastOf f m e).toNat) (lastOf f m e - e).toNat := by unfold rungOf; rw [if_neg hm]
    have hl : f.leastPlace ≤ lastOf f m e := by unfold lastOf; omega
    rw [hr, rung_val f (kept_le f hm) ?_]
    · rw [show (lastOf f m e - e).toNat = 0 by omega, rnd_zero, Rat.natCast_mul, ← p2_toNat (by omega), Rat.mul_assoc, ← p2_add]
      congr 2; omega
    · by_cases h : lastOf f m e = f.leastPlace
      · left; omega
      · right; exact kept_ge f hm (by unfold lastOf at h ⊢; omega)
/-- So great a number is finite. -/
def big (k : FloatKind) : Rat := p2 (match k with | .f32 => 127 | .f64 => 1023)
theorem big_rung (k : FloatKind) : ∃ R, R < k.format.infRung ∧ (magOf k.format R : Rat) * p2 (placeOf k.format R) = big k := by
  cases k
  · refine ⟨2130706432, by decide +kernel, ?_⟩
    have h1 : magOf FloatKind.f32.format 2130706432 = 2 ^ 23 := by decide +kernel
    have h2 : placeOf FloatKind.f32.format 2130706432 = 104 := by decide +kernel
    rw [h1, h2, ← p2_nat, ← p2_add]; rfl
  · refine ⟨9214364837600034816, by decide +kernel, ?_⟩
    have h1 : magOf FloatKind.f64.format 9214364837600034816 = 2 ^ 52 := by decide +kernel
    have h2 : placeOf FloatKind.f64.format 9214364837600034816 = 971 := by decide +kernel
    rw [h1, h2, ← p2_nat, ← p2_add]; rfl
theorem rung_big {k : FloatKind} {m : Nat} {e : Int} (h : (m : Rat) * p2 e ≤ big k) : rungOf k.format m e < k.format.infRung := by
  obtain ⟨R, h1, h2⟩ := big_rung k
  rw [← h2] at h
  exact Nat.lt_of_le_of_lt (rung_le k.format (numle_iff.2 h)) h1
/-- The sign. -/
def sg (s : Bool) : Rat := if s then -1 else 1
theorem fv_num {k : FloatKind} {x : Nat} {s : Bool} {m : Nat} {e : Int} (h : k.format.read x = .number s m e) : fv k x = sg s * ((m : Rat) * p2 e) := fv_read h
theorem sg_xor (s t : Bool) : sg (s ^^ t) = sg s * sg t := by cases s <;> cases t <;> simp [sg] <;> grind
theorem sg_cases (s : Bool) : sg s = 1 ∨ sg s = -1 := by cases s <;> simp [sg]
theorem word_fin {k : FloatKind} {s : Bool} {r : Nat} (h : r < k.format.infRung) : fin k (cn k (k.format.word s r)) = true ∧ fv k (cn k (k.format.word s r)) = sg s * ((magOf k.format r : Rat) * p2 (placeOf k.format r)) := by
  rw [cn_num (isNan_word' (by omega))]
  exact ⟨(fin_iff _ _).2 ⟨_, _, _, read_word h⟩, fv_num (read_word h)⟩
/-- What is written, and how far it is from what was to be written. -/
theorem write_val {k : FloatKind} {s : Bool} {m : Nat} {e : Int} {v : Rat} (hv : sg s * ((m : Rat) * p2 e) = v) (h1 : v ≤ big k) (h2 : -v ≤ big k) :
    fin k (cn k (k.format.nearest s m e)) = true ∧ ((∀ M, v ≤ M → -v ≤ M → fv k (cn k (k.format.nearest s m e)) - v ≤ uu k * M ∧ v - fv k (cn k (k.format.nearest s m e)) ≤ uu k * M) ∨
      (e < k.format.leastPlace ∧ fv k (cn k (k.format.nearest s m e)) - v ≤ p2 (k.format.leastPlace - 1) ∧ v - fv k (cn k (k.format.nearest s m e)) ≤ p2 (k.format.leastPlace - 1))) := by
  have hn : (m : Rat) * p2 e ≤ big k := by rcases sg_cases s with h | h <;> rw [h] at hv <;> grind
  have hr := rung_big hn
  have hnn : 0 ≤ (m : Rat) * p2 e := Rat.mul_nonneg (Rat.natCast_nonneg) (p2_nn e)
  rw [nearest_rung, Nat.min_eq_left (by omega)]
  obtain ⟨w1, w2⟩ := word_fin (s := s) hr
  refine ⟨w1, ?_⟩
  rw [w2]
  have hE := nearest_val k.format (m := m) (e := e)
  simp only at hE
  generalize (magOf k.format (rungOf k.format m e) : Rat) * p2 (placeOf k.format (rungOf k.format m e)) = V at *
  rcases hE with ⟨a1, a2⟩ | ⟨a0, a1, a2⟩
  · left
    intro M m1 m2
    have hM : (m : Rat) * p2 e ≤ M := by rcases sg_cases s with h | h <;> rw [h] at hv <;> grind
    have := Rat.mul_le_mul_of_nonneg_left hM (Rat.le_of_lt (uu_pos k))
    have hu : p2 (-(k.format.fractionBits + 1 : Int)) = uu k := rfl
    rw [hu] at a1 a2
    rcases sg_cases s with h | h <;> rw [h] at hv ⊢ <;> constructor <;> grind
  · right
    refine ⟨a0, ?_⟩
    generalize p2 (k.format.leastPlace - 1) = u at *
    rcases sg_cases s with h | h <;> rw [h] at hv ⊢ <;> constructor <;> grind
theorem write_exact {k : FloatKind} {s : Bool} {m : Nat} {e : Int} {v : Rat} (hv : sg s * ((m : Rat) * p2 e) = v) (h1 : v ≤ big k) (h2 : -v ≤ big k) {z : Int} {p : Int} (hz : v = (z : Rat) * p2 p) (hl : z.natAbs < 2 ^ (k.format.fractionBits + 1)) (hp : k.format.leastPlace ≤ p) :
    fv k (cn k (k.format.nearest s m e)) = v := by
  have hn : (m : Rat) * p2 e ≤ big k := by rcases sg_cases s with h | h <;> rw [h] at hv <;> grind
  have hr := rung_big hn
  have hnn : 0 ≤ (m : Rat) * p2 e := Rat.mul_nonneg (Rat.natCast_nonneg) (p2_nn e)
  have hzz : (m : Rat) * p2 e = (z.natAbs : Rat) * p2 p := by
    have hpp := p2_pos p
    have e1 : (z : Rat) = (z.natAbs : Rat) ∨ (z : Rat) = -(z.natAbs : Rat) := by
      rcases Int.natAbs_eq z with h | h
      · left; rw [h, Int.natAbs_natCast, Rat.intCast_natCast]
      · right; rw [h, Int.natAbs_neg, Int.natAbs_natCast, Rat.intCast_neg, Rat.intCast_natCast]
    have hzn : 0 ≤ (z.natAbs : Rat) * p2 p := Rat.mul_nonneg (Rat.natCast_nonneg) (p2_nn p)
    rcases sg_cases s with h | h <;> rcases e1 with h' | h' <;> rw [h] at hv <;> rw [h'] at hz <;> grind
  have hrr : rungOf k.format m e = rungOf k.format z.natAbs p :=
    Nat.le_antisymm (rung_mono _ (numle_iff.2 (by rw [hzz]; exact Rat.le_refl))) (rung_mono _ (numle_iff.2 (by rw [hzz]; exact Rat.le_refl)))
  rw [nearest_rung, Nat.min_eq_left (by omega)]
  rw [(word_fin (s := s) hr).2, hrr, nearest_exact, ← hzz, hv]
  by_cases h0 : z.natAbs = 0
  · exact .inl h0
  · right
    have : z.natAbs.log2 < k.format.fractionBits + 1 := (Nat.log2_lt h0).2 hl
    unfold lastOf
    omega
/-- A finite number. -/
theorem fin_read {k : FloatKind} {x : Nat} (h : fin k x = true) : ∃ s m i, k.format.read x = .number s m i ∧ k.format.leastPlace ≤ i ∧ m < 2 ^ (k.format.fractionBits + 1) := by
  obtain ⟨s, m, i, hr⟩ := (fin_iff k x).1 h
  obtain ⟨_, h1, h2, h3⟩ := read_of_rung hr
  exact ⟨s, m, i, hr, by rw [h3]; exact place_ge _ _, by rw [h2]; exact mag_lt' _ _⟩
theorem sum_val {k : FloatKind} {s t : Bool} {m n : Nat} {i j : Int} :
    let T := Ieee.signed s m (i - min i j).toNat + Ieee.signed t n (j - min i j).toNat
    sg (if T = 0 then s && t else decide (T < 0)) * ((T.natAbs : Rat) * p2 (min i j)) = sg s * ((m : Rat) * p2 i) + sg t * ((n : Rat) * p2 j) := by
  intro T
  have h1 := signed_val s m (i := i) (b := min i j) (by omega)
  have h2 := signed_val t n (i := j) (b := min i j) (by omega)
  have h3 : ((T : Int) : Rat) * p2 (min i j) = sg s * ((m : Rat) * p2 i) + sg t * ((n : Rat) * p2 j) := by
    show (((Ieee.signed s m (i - min i j).toNat + Ieee.signed t n (j - min i j).toNat : Int)) : Rat) * _ = _
    rw [Rat.intCast_add]; unfold sg; grind
  rw [← h3]
  have key : sg (if T = 0 then s && t else decide (T < 0)) * (T.natAbs : Rat) = (T : Rat) := by
    rcases Int.lt_trichotomy T 0 with h | h | h
    · rw [if_neg (by omega)]
      have : T = -(T.natAbs : Int) := by omega
      have hT : (T : Rat) = -(T.natAbs : Rat) := by
        conv => lhs; rw [this]
        rw [Rat.intCast_neg, Rat.intCast_natCast]
      rw [hT]; simp [sg, h]; grind
    · rw [if_pos h, h]; simp
    · rw [if_neg (by omega)]
      have : T = (T.natAbs : Int) := by omega
      have hT : (T : Rat) = (T.natAbs : Rat) := by
        conv => lhs; rw [this]
        rw [Rat.intCast_natCast]
      have hn : ¬ T < 0 := by omega
      rw [hT]; simp [sg, hn]
  grind
theorem fb_add_eq {k : FloatKind} {x y : Nat} {s t : Bool} {m n : Nat} {i j : Int} (rx : k.format.read x = .number s m i) (ry : k.format.read y = .number t n j) :
    fb .add k x y = cn k (k.format.nearest (let T := Ieee.signed s m (i - min i j).toNat + Ieee.signed t n (j - min i j).toNat; if T = 0 then s && t else decide (T < 0)) (Ieee.signed s m (i - min i j).toNat + Ieee.signed t n (j - min i j).toNat).natAbs (min i j)) := by
  unfold fb floatBits Ieee.Format.add
  simp only
  rw [rx, ry]
  rfl
theorem fb_sub_eq {k : FloatKind} {x y : Nat} {s t : Bool} {m n : Nat} {i j : Int} (rx : k.format.read x = .number s m i) (ry : k.format.read y = .number t n j) :
    fb .sub k x y = cn k (k.format.nearest (let T := Ieee.signed s m (i - min i j).toNat + Ieee.signed (!t) n (j - min i j).toNat; if T = 0 then s && (!t) else decide (T < 0)) (Ieee.signed s m (i - min i j).toNat + Ieee.signed (!t) n (j - min i j).toNat).natAbs (min i j)) := by
  unfold fb floatBits Ieee.Format.sub
  simp only
  rw [rx, ry]
  rfl
theorem sg_not (t : Bool) : sg (!t) = - sg t := by cases t <;> simp [sg]
/-- The sum of two finite numbers. -/
theorem re_add {k : FloatKind} {x y : Nat} (hx : fin k x = true) (hy : fin k y = true) (h1 : fv k x + fv k y ≤ big k) (h2 : -(fv k x + fv k y) ≤ big k) :
    fin k (fb .add k x y) = true ∧ ∀ M, fv k x + fv k y ≤ M → -(fv k x + fv k y) ≤ M → fv k (fb .add k x y) - (fv k x + fv k y) ≤ uu k * M ∧ fv k x + fv k y - fv k (fb .add k x y) ≤ uu k * M := by
  obtain ⟨s, m, i, rx, li, _⟩ := fin_read hx
  obtain ⟨t, n, j, ry, lj, _⟩ := fin_read hy
  rw [fb_add_eq rx ry]
  rw [fv_num rx, fv_num ry] at *
  obtain ⟨a, b⟩ := write_val (sum_val (k := k)) h1 h2
  refine ⟨a, ?_⟩
  rcases b with b | ⟨b, _⟩
  · exact b
  · omega
theorem re_sub {k : FloatKind} {x y : Nat} (hx : fin k x = true) (hy : fin k y = true) (h1 : fv k x - fv k y ≤ big k) (h2 : -(fv k x - fv k y) ≤ big k) :
    fin k (fb .sub k x y) = true ∧ ∀ M, fv k x - fv k y ≤ M → -(fv k x - fv k y) ≤ M → fv k (fb .sub k x y) - (fv k x - fv k y) ≤ uu k * M ∧ fv k x - fv k y - fv k (fb .sub k x y) ≤ uu k * M := by
  obtain ⟨s, m, i, rx, li, _⟩ := fin_read hx
  obtain ⟨t, n, j, ry, lj, _⟩ := fin_read hy
  rw [fb_sub_eq rx ry]
  rw [fv_num rx, fv_num ry] at *
  have hs := sum_val (k := k) (s := s) (t := !t) (m := m) (n := n) (i := i) (j := j)
  have e : sg s * ((m : Rat) * p2 i) + sg (!t) * ((n : Rat) * p2 j) = sg s * ((m : Rat) * p2 i) - sg t * ((n : Rat) * p2 j) := by rw [sg_not]; grind
  simp only [e] at hs
  obtain ⟨a, b⟩ := write_val hs h1 h2
  refine ⟨a, ?_⟩
  rcases b with b | ⟨b, _⟩
  · exact b
  · omega
theorem re_add_exact {k : FloatKind} {x y : Nat} (hx : fin k x = true) (hy : fin k y = true) (h1 : fv k x + fv k y ≤ big k) (h2 : -(fv k x + fv k y) ≤ big k) {z p : Int} (hz : fv k x + fv k y = (z : Rat) * p2 p) (hl : z.natAbs < 2 ^ (k.format.fractionBits + 1)) (hp : k.format.leastPlace ≤ p) :
    fv k (fb .add k x y) = fv k x + fv k y := by
  obtain ⟨s, m, i, rx, li, _⟩ := fin_read hx
  obtain ⟨t, n, j, ry, lj, _⟩ := fin_read hy
  rw [fb_add_eq rx ry]
  rw [fv_num rx, fv_num ry] at *
  exact write_exact (sum_val (k := k)) h1 h2 hz hl hp
theorem re_sub_exact {k : FloatKind} {x y : Nat} (hx : fin k x = true) (hy : fin k y = true) (h1 : fv k x - fv k y ≤ big k) (h2 : -(fv k x - fv k y) ≤ big k) {z p : Int} (hz : fv k x - fv k y = (z : Rat) * p2 p) (hl : z.natAbs < 2 ^ (k.format.fractionBits + 1)) (hp : k.format.leastPlace ≤ p) :
    fv k (fb .sub k x y) = fv k x - fv k y := by
  obtain ⟨s, m, i, rx, li, _⟩ := fin_read hx
  obtain ⟨t, n, j, ry, lj, _⟩ := fin_read hy
  rw [fb_sub_eq rx ry]
  rw [fv_num rx, fv_num ry] at *
  have hs := sum_val (k := k) (s := s) (t := !t) (m := m) (n := n) (i := i) (j := j)
  have e : sg s * ((m : Rat) * p2 i) + sg (!t) * ((n : Rat) * p2 j) = sg s * ((m : Rat) * p2 i) - sg t * ((n : Rat) * p2 j) := by rw [sg_not]; grind
  simp only [e] at hs
  exact write_exact hs h1 h2 hz hl hp
theorem fb_mul_eq {k : FloatKind} {x y m n : Nat} {s t : Bool} {i j : Int} (rx : k.format.read x = .number s m i) (ry : k.format.read y = .number t n j) : fb .mul k x y = cn k (k.format.nearest (s ^^ t) (m * n) (i + j)) := by
  unfold fb floatBits Ieee.Format.mul
  simp only
  rw [rx, ry]
  rfl
theorem prod_val {s t : Bool} {m n : Nat} {i j : Int} : sg (s ^^ t) * (((m * n : Nat) : Rat) * p2 (i + j)) = sg s * ((m : Rat) * p2 i) * (sg t * ((n : Rat) * p2 j)) := by
  rw [sg_xor, Rat.natCast_mul, p2_add]; grind
theorem write_nn {k : FloatKind} {s : Bool} {m : Nat} {e : Int} (h0 : 0 ≤ sg s * ((m : Rat) * p2 e)) (h1 : sg s * ((m : Rat) * p2 e) ≤ big k) : 0 ≤ fv k (cn k (k.format.nearest s m e)) := by
  have hnn : 0 ≤ (m : Rat) * p2 e := Rat.mul_nonneg (Rat.natCast_nonneg) (p2_nn e)
  have hn : (m : Rat) * p2 e ≤ big k := by
    have hb : 0 ≤ big k := p2_nn _
    rcases sg_cases s with h | h <;> rw [h] at h0 h1 <;> grind
  have hr := rung_big hn
  rw [nearest_rung, Nat.min_eq_left (by omega), (word_fin (s := s) hr).2]
  have hV : 0 ≤ (magOf k.format (rungOf k.format m e) : Rat) * p2 (placeOf k.format (rungOf k.format m e)) := Rat.mul_nonneg (Rat.natCast_nonneg) (p2_nn _)
  rcases sg_cases s with h | h
  · rw [h]; grind
  · rw [h] at h0
    have hz : (m : Rat) * p2 e = 0 := by grind
    have hm : m = 0 := by
      rcases Rat.mul_eq_zero.1 hz with h1 | h1
      · exact Rat.natCast_eq_zero_iff.1 h1
      · have := p2_pos e; rw [h1] at this; exact absurd this Rat.lt_irrefl
    subst hm
    rw [nearest_exact _ (.inl rfl)]
    simp
theorem re_mul_nn {k : FloatKind} {x y : Nat} (hx : fin k x = true) (hy : fin k y = true) (h0 : 0 ≤ fv k x) (h1 : 0 ≤ fv k y) (hb : fv k x * fv k y ≤ big k) : 0 ≤ fv k (fb .mul k x y) := by
  obtain ⟨s, m, i, rx, li, _⟩ := fin_read hx
  obtain ⟨t, n, j, ry, lj, _⟩ := fin_read hy
  rw [fb_mul_eq rx ry]
  have hp := Rat.mul_nonneg h0 h1
  rw [fv_num rx, fv_num ry] at hp hb
  rw [← prod_val] at hp hb
  exact write_nn hp hb
/-- The product of two finite numbers. -/
theorem re_mul {k : FloatKind} {x y : Nat} (hx : fin k x = true) (hy : fin k y = true) (h1 : fv k x * fv k y ≤ big k) (h2 : -(fv k x * fv k y) ≤ big k) :
    fin k (fb .mul k x y) = true ∧ ∀ M, fv k x * fv k y ≤ M → -(fv k x * fv k y) ≤ M → fv k (fb .mul k x y) - fv k x * fv k y ≤ uu k * M + p2 (k.format.leastPlace - 1) ∧ fv k x * fv k y - fv k (fb .mul k x y) ≤ uu k * M + p2 (k.format.leastPlace - 1) := by
  obtain ⟨s, m, i, rx, li, _⟩ := fin_read hx
  obtain ⟨t, n, j, ry, lj, _⟩ := fin_read hy
  rw [fb_mul_eq rx ry]
  rw [fv_num rx, fv_num ry] at *
  obtain ⟨a, b⟩ := write_val prod_val h1 h2
  refine ⟨a, fun M m1 m2 => ?_⟩
  have hp := p2_nn (k.format.leastPlace - 1)
  have hM : 0 ≤ M := by grind
  have hu := Rat.mul_nonneg (Rat.le_of_lt (uu_pos k)) hM
  rcases b with b | ⟨_, b⟩
  · have := b M m1 m2; constructor <;> grind
  · constructor <;> grind
theorem re_mul_exact {k : FloatKind} {x y : Nat} (hx : fin k x = true) (hy : fin k y = true) (h1 : fv k x * fv k y ≤ big k) (h2 : -(fv k x * fv k y) ≤ big k) {z p : Int} (hz : fv k x * fv k y = (z : Rat) * p2 p) (hl : z.natAbs < 2 ^ (k.format.fractionBits + 1)) (hp : k.format.leastPlace ≤ p) :
    fv k (fb .mul k x y) = fv k x * fv k y := by
  obtain ⟨s, m, i, rx, li, _⟩ := fin_read hx
  obtain ⟨t, n, j, ry, lj, _⟩ := fin_read hy
  rw [fb_mul_eq rx ry]
  rw [fv_num rx, fv_num ry] at *
  exact write_exact prod_val h1 h2 hz hl hp
theorem quo_val {m n digits : Nat} {i j : Int} (hm : m ≠ 0) (hn : n ≠ 0) (hd : 1 ≤ digits) :
    let more := digits + n.log2 - m.log2
    let N := 2 * ((m <<< more) / n) + ((m <<< more) % n != 0).toNat
    let P := i - j - (more : Int) - 1
    let v := (m : Rat) * p2 i / ((n : Rat) * p2 j)
    (N : Rat) * p2 P - v ≤ p2 P ∧ v - (N : Rat) * p2 P ≤ p2 P ∧ p2 (digits : Int) * p2 P ≤ v := by
  intro more N P v
  have hn0 : (0 : Rat) < (n : Rat) := by have := (Rat.natCast_lt_natCast (a := 0) (b := n)).2 (by omega); simpa using this
  have hpj := p2_pos j
  have hden : (0 : Rat) < (n : Rat) * p2 j := Rat.mul_pos hn0 hpj
  obtain ⟨D, hD⟩ : ∃ D, m <<< more = D := ⟨_, rfl⟩
  have hDv : (D : Rat) = (m : Rat) * p2 more := by rw [← hD, Nat.shiftLeft_eq, Rat.natCast_mul, ← p2_nat]
  have hP : p2 i = 2 * (p2 (more : Int) * (p2 j * p2 P)) := by
    have : p2 (more : Int) * (p2 j * p2 P) = p2 (i - 1) := by rw [← p2_add, ← p2_add]; congr 1; omega
    rw [this, p2_dbl]
  have hv : v * ((n : Rat) * p2 j) = (m : Rat) * p2 i := Rat.div_mul_cancel (Rat.ne_of_gt hden)
  have hv2 : v * n = 2 * D * p2 P := by
    rw [hP] at hv
    have e : (v * n - 2 * D * p2 P) * p2 j = 0 := by rw [hDv]; grind
    rcases Rat.mul_eq_zero.1 e with h | h
    · grind
    · rw [h] at hpj; exact absurd hpj (Rat.lt_irrefl)
  have hN : N = 2 * (D / n) + (D % n != 0).toNat := by show _ = _; rw [← hD]
  have hdm := Nat.div_add_mod D n
  have hlt := Nat.mod_lt D (Nat.pos_of_ne_zero hn)
  have b1 : N * n ≤ 2 * D + n := by
    rw [hN, Nat.add_mul, Nat.mul_assoc, Nat.mul_comm (D / n)]
    have : (D % n != 0).toNat * n ≤ 1 * n := Nat.mul_le_mul_right _ (by cases (D % n != 0) <;> decide)
    omega
  have b2 : 2 * D ≤ N * n + n := by
    rw [hN, Nat.add_mul, Nat.mul_assoc, Nat.mul_comm (D / n)]
    by_cases h0 : D % n = 0
    · rw [h0]; simp; omega
    · have : (D % n != 0) = true := by simpa using h0
      rw [this]; simp; omega
  have b3 : 2 ^ digits * n ≤ 2 * D := by
    have l2 : n < 2 ^ (n.log2 + 1) := Nat.lt_log2_self
    have l1 := Nat.log2_self_le hm
    have h1 : 2 ^ (digits + n.log2) ≤ D := by
      rw [← hD, Nat.shiftLeft_eq]
      refine Nat.le_trans ?_ (Nat.mul_le_mul_right _ l1)
      rw [← Nat.pow_add]
      exact Nat.pow_le_pow_right (by omega) (by omega)
    have h2 : 2 ^ digits * n ≤ 2 ^ digits * 2 ^ (n.log2 + 1) := Nat.mul_le_mul_left _ (by omega)
    rw [← Nat.pow_add, ← Nat.add_assoc, Nat.pow_succ] at h2
    omega
  have c1 := nat_le.2 b1
  have c2 := nat_le.2 b2
  have c3 := nat_le.2 b3
  have e2 : ((2 : Nat) : Rat) = 2 := rfl
  simp only [Rat.natCast_add, Rat.natCast_mul, e2] at c1 c2 c3
  rw [← p2_nat] at c3
  have k1 := Rat.mul_le_mul_of_nonneg_right c1 (p2_nn P)
  have k2 := Rat.mul_le_mul_of_nonneg_right c2 (p2_nn P)
  have k3 := Rat.mul_le_mul_of_nonneg_right c3 (p2_nn P)
  generalize p2 P = Q at *
  refine ⟨?_, ?_, ?_⟩
  · exact Rat.le_of_mul_le_mul_right (c := (n : Rat)) (by grind) hn0
  · exact Rat.le_of_mul_le_mul_right (c := (n : Rat)) (by grind) hn0
  · exact Rat.le_of_mul_le_mul_right (c := (n : Rat)) (by grind) hn0
theorem fb_quo_eq {k : FloatKind} {x y m n : Nat} {s t : Bool} {i j : Int} (rx : k.format.read x = .number s m i) (ry : k.format.read y = .number t n j) (hn : n ≠ 0) :
    fb .quo k x y = cn k (k.format.nearest (s ^^ t) (2 * ((m <<< (k.format.fractionBits + 2 + n.log2 - m.log2)) / n) + ((m <<< (k.format.fractionBits + 2 + n.log2 - m.log2)) % n != 0).toNat) (i - j - ((k.format.fractionBits + 2 + n.log2 - m.log2 : Nat) : Int) - 1)) := by
  unfold fb floatBits Ieee.Format.div
  simp only
  rw [rx, ry]
  simp only [Ieee.Datum.quotient, if_neg hn, Option.map_some, Option.getD_some, Ieee.Format.write]
theorem sg_div {s t : Bool} {a b : Rat} : sg s * a / (sg t * b) = sg (s ^^ t) * (a / b) := by
  rw [Rat.div_def, Rat.div_def, Rat.inv_mul_rev, sg_xor]
  have : (sg t)⁻¹ = sg t := by cases t <;> decide +kernel
  rw [this]; grind
/-- The quotient of two finite numbers. -/
theorem re_quo {k : FloatKind} {x y : Nat} (hx : fin k x = true) (hy : fin k y = true) (h0 : fv k y ≠ 0) (h1 : 2 * (fv k x / fv k y) ≤ big k) (h2 : -(2 * (fv k x / fv k y)) ≤ big k) :
    fin k (fb .quo k x y) = true ∧ ∀ M, fv k x / fv k y ≤ M → -(fv k x / fv k y) ≤ M → fv k (fb .quo k x y) - fv k x / fv k y ≤ 2 * uu k * M + p2 (k.format.leastPlace - 1) ∧ fv k x / fv k y - fv k (fb .quo k x y) ≤ 2 * uu k * M + p2 (k.format.leastPlace - 1) := by
  obtain ⟨s, m, i, rx, li, _⟩ := fin_read hx
  obtain ⟨t, n, j, ry, lj, _⟩ := fin_read hy
  rw [fv_num rx, fv_num ry] at *
  have hn : n ≠ 0 := by
    intro e; apply h0; rw [e]; simp
  rw [fb_quo_eq rx ry hn]
  rw [sg_div] at *
  have hp := p2_nn (k.format.leastPlace - 1)
  by_cases hm : m = 0
  · subst hm
    have e0 : sg (s ^^ t) * (((0 : Nat) : Rat) * p2 i / ((n : Rat) * p2 j)) = 0 := by
      have : ((0 : Nat) : Rat) * p2 i / ((n : Rat) * p2 j) = 0 := by rw [Rat.div_def]; simp
      rw [this]; simp
    rw [e0] at *
    have hz : (2 * ((0 <<< (k.format.fractionBits + 2 + n.log2 - Nat.log2 0)) / n) + ((0 <<< (k.format.fractionBits + 2 + n.log2 - Nat.log2 0)) % n != 0).toNat) = 0 := by simp
    rw [hz, nearest_zero]
    have hi : 0 < k.format.infRung := by cases k <;> decide +kernel
    obtain ⟨w1, w2⟩ := word_fin (s := s ^^ t) hi
    refine ⟨w1, fun M m1 m2 => ?_⟩
    rw [w2]
    have : magOf k.format 0 = 0 := by unfold magOf; rw [if_pos (binade_pos _)]
    rw [this]
    have hM : 0 ≤ M := m1
    have hu := Rat.mul_nonneg (Rat.le_of_lt (uu_pos k)) hM
    have e1 : sg (s ^^ t) * (((0 : Nat) : Rat) * p2 (placeOf k.format 0)) = 0 := by simp
    rw [e1]
    constructor <;> grind
  · have hQ := quo_val (i := i) (j := j) hm hn (digits := k.format.fractionBits + 2) (by omega)
    simp only at hQ
    have hu2 : uu k = 2 * p2 (-((k.format.fractionBits + 2 : Nat) : Int)) := by
      show p2 _ = _; rw [p2_dbl]; congr 2
    generalize hN : (2 * ((m <<< (k.format.fractionBits + 2 + n.log2 - m.log2)) / n) + ((m <<< (k.format.fractionBits + 2 + n.log2 - m.log2)) % n != 0).toNat) = N at *
    generalize hP : i - j - ((k.format.fractionBits + 2 + n.log2 - m.log2 : Nat) : Int) - 1 = P at *
    generalize hv : (m : Rat) * p2 i / ((n : Rat) * p2 j) = v at *
    obtain ⟨q1, q2, q3⟩ := hQ
    -- the gap is a part of the number
    have hg : p2 P ≤ p2 (-((k.format.fractionBits + 2 : Nat) : Int)) * v := by
      have := Rat.mul_le_mul_of_nonneg_left q3 (p2_nn (-((k.format.fractionBits + 2 : Nat) : Int)))
      rw [← Rat.mul_assoc, ← p2_add, Int.add_left_neg, p2_zero, Rat.one_mul] at this
      exact this
    have hu8 : p2 (-((k.format.fractionBits + 2 : Nat) : Int)) ≤ 1 / 8 := by
      have : p2 (-3) = 1 / 8 := by decide +kernel
      rw [← this]
      exact p2_le (by have : 1 ≤ k.format.fractionBits := (by cases k <;> decide +kernel); omega)
    have hv0 : 0 ≤ v := by have := p2_nn P; have := Rat.mul_nonneg (p2_nn ((k.format.fractionBits + 2 : Nat) : Int)) (p2_nn P); grind
    generalize p2 (-((k.format.fractionBits + 2 : Nat) : Int)) = h at *
    have hhv := Rat.mul_le_mul_of_nonneg_right hu8 hv0
    have hsg : v = sg (s ^^ t) * (sg (s ^^ t) * v) := by rcases sg_cases (s ^^ t) with h | h <;> rw [h] <;> grind
    have hb : 2 * v ≤ big k := by rcases sg_cases (s ^^ t) with h | h <;> rw [h] at h1 h2 <;> grind
    obtain ⟨a, b⟩ := write_val (k := k) (s := s ^^ t) (m := N) (e := P) (v := sg (s ^^ t) * ((N : Rat) * p2 P)) rfl (by rcases sg_cases (s ^^ t) with h | h <;> rw [h] <;> grind) (by rcases sg_cases (s ^^ t) with h | h <;> rw [h] <;> grind)
    refine ⟨a, fun M m1 m2 => ?_⟩
    have hvM : v ≤ M := by rcases sg_cases (s ^^ t) with h | h <;> rw [h] at m1 m2 <;> grind
    have hup := uu_pos k
    have hh0 : 0 ≤ h := by rw [hu2] at hup; grind
    have hhM := Rat.mul_le_mul_of_nonneg_left hvM hh0
    have hM0 : 0 ≤ M := by grind
    have hhM0 := Rat.mul_nonneg hh0 hM0
    have hs1 : sg (s ^^ t) * ((N : Rat) * p2 P) - sg (s ^^ t) * v ≤ h * M ∧ sg (s ^^ t) * v - sg (s ^^ t) * ((N : Rat) * p2 P) ≤ h * M := by
      rcases sg_cases (s ^^ t) with h | h <;> rw [h] <;> constructor <;> grind
    rcases b with b | ⟨_, b⟩
    · have hb2 := b (9 / 8 * M) (by rcases sg_cases (s ^^ t) with h | h <;> rw [h] <;> grind) (by rcases sg_cases (s ^^ t) with h | h <;> rw [h] <;> grind)
      rw [hu2] at hb2 ⊢
      constructor <;> grind
    · rw [hu2]
      constructor <;> grind
/-- How two finite numbers stand to each other. -/
theorem re_order {k : FloatKind} {x y : Nat} (hx : fin k x = true) (hy : fin k y = true) :
    k.format.order x y = some (if fv k x < fv k y then .lt else if fv k x = fv k y then .eq else .gt) := by
  obtain ⟨s, m, i, rx, li, _⟩ := fin_read hx
  obtain ⟨t, n, j, ry, lj, _⟩ := fin_read hy
  rw [order_num rx ry (b := min i j) (by omega) (by omega), compare_int]
  have h1 := signed_val s m (i := i) (b := min i j) (by omega)
  have h2 := signed_val t n (i := j) (b := min i j) (by omega)
  have e1 : fv k x = ((sval s m i (min i j) : Int) : Rat) * p2 (min i j) := by rw [fv_num rx]; unfold sval sg; exact h1.symm
  have e2 : fv k y = ((sval t n j (min i j) : Int) : Rat) * p2 (min i j) := by rw [fv_num ry]; unfold sval sg; exact h2.symm
  rw [e1, e2]
  generalize sval s m i (min i j) = a
  generalize sval t n j (min i j) = b
  have hp := p2_pos (min i j)
  congr 1
  have c1 : ((a : Rat) * p2 (min i j) < (b : Rat) * p2 (min i j)) ↔ a < b := by
    rw [← Rat.intCast_lt_intCast]
    exact ⟨fun h => Rat.lt_of_mul_lt_mul_right h (Rat.le_of_lt hp), fun h => Rat.mul_lt_mul_of_pos_right h hp⟩
  have c2 : ((a : Rat) * p2 (min i j) = (b : Rat) * p2 (min i j)) ↔ a = b := by
    rw [← Rat.intCast_inj]
    constructor
    · intro h
      have : ((a : Rat) - b) * p2 (min i j) = 0 := by grind
      rcases Rat.mul_eq_zero.1 this with h | h
      · grind
      · rw [h] at hp; exact absurd hp Rat.lt_irrefl
    · intro h; rw [h]
  simp only [c1, c2]
theorem ord_lt {k : FloatKind} {x y : Nat} (hx : fin k x = true) (hy : fin k y = true) : (k.format.order x y == some .lt) = decide (fv k x < fv k y) := by
  rw [re_order hx hy]
  split
  · rename_i h; simp [h]
  · rename_i h; split <;> simp [h]
theorem ord_gt {k : FloatKind} {x y : Nat} (hx : fin k x = true) (hy : fin k y = true) : (k.format.order x y == some .gt) = decide (fv k y < fv k x) := by
  rw [re_order hx hy]
  split
  · rename_i h; have : ¬ fv k y < fv k x := by grind
    simp [this]
  · rename_i h; split
    · rename_i h'; have : ¬ fv k y < fv k x := by grind
      simp [this]
    · rename_i h'; have : fv k y < fv k x := by grind
      simp [this]
theorem ord_eq {k : FloatKind} {x y : Nat} (hx : fin k x = true) (hy : fin k y = true) : (k.format.order x y == some .eq) = decide (fv k x = fv k y) := by
  rw [re_order hx hy]
  split
  · rename_i h; have : ¬ fv k x = fv k y := by grind
    simp [this]
  · rename_i h; split
    · rename_i h'; simp [h']
    · rename_i h'; simp [h']
theorem rootFrom_spec (n : Nat) : ∀ todo root, root * root ≤ n → n < (root + 2 ^ todo) * (root + 2 ^ todo) →
    Ieee.Datum.rootFrom n todo root * Ieee.Datum.rootFrom n todo root ≤ n ∧ n < (Ieee.Datum.rootFrom n todo root + 1) * (Ieee.Datum.rootFrom n todo root + 1)
  | 0, root, h1, h2 => by
    rw [Nat.pow_zero] at h2
    exact ⟨h1, h2⟩
  | todo + 1, root, h1, h2 => by
    unfold Ieee.Datum.rootFrom
    simp only [Nat.shiftLeft_eq, Nat.one_mul]
    split
    · rename_i h
      refine rootFrom_spec n todo _ h ?_
      rw [Nat.pow_succ, Nat.mul_two, ← Nat.add_assoc] at h2
      exact h2
    · rename_i h
      exact rootFrom_spec n todo _ h1 (by omega)
/-- The square root of a number that is not negative, told by its square. -/
theorem root_val {m d : Nat} {i : Int} (hm : m ≠ 0) (hd : 1 ≤ d) :
    let more := 2 * d - m.log2 + ((i - (2 * d - m.log2 : Nat)) % 2).toNat
    let n := m <<< more
    let whole := Ieee.Datum.rootFrom n (n.log2 / 2 + 1) 0
    let N := 2 * whole + (whole * whole != n).toNat
    let P := (i - (more : Int)) / 2 - 1
    ∃ t : Rat, t = (N : Rat) * p2 P ∧ p2 (d : Int) * p2 P ≤ t ∧ 0 ≤ t ∧ (t - p2 P) * (t - p2 P) ≤ (m : Rat) * p2 i ∧ (m : Rat) * p2 i ≤ (t + p2 P) * (t + p2 P) := by
  intro more n whole N P
  have hnv : (n : Rat) = (m : Rat) * p2 (more : Int) := by
    show ((m <<< more : Nat) : Rat) = _
    rw [Nat.shiftLeft_eq, Rat.natCast_mul, ← p2_nat]
  have hev : (i - (more : Int)) % 2 = 0 := by
    have : (more : Int) = ((2 * d - m.log2 : Nat) : Int) + (i - (2 * d - m.log2 : Nat)) % 2 := by
      show ((2 * d - m.log2 + ((i - (2 * d - m.log2 : Nat)) % 2).toNat : Nat) : Int) = _
      omega
    omega
  have hi : p2 i = 4 * (p2 (more : Int) * (p2 P * p2 P)) := by
    have e4 : (4 : Rat) = p2 2 := by decide +kernel
    rw [e4, ← p2_add, ← p2_add, ← p2_add]; congr 1; omega
  have hval : (m : Rat) * p2 i = 4 * n * (p2 P * p2 P) := by rw [hi, hnv]; grind
  have hn0 : n ≠ 0 := by
    show m <<< more ≠ 0
    rw [Nat.shiftLeft_eq]
    have := Nat.mul_pos (Nat.pos_of_ne_zero hm) (Nat.two_pow_pos more)
    omega
  have hsp := rootFrom_spec n (n.log2 / 2 + 1) 0 (Nat.zero_le _) (by
    rw [Nat.zero_add, ← Nat.pow_add]
    refine Nat.lt_of_lt_of_le Nat.lt_log2_self (Nat.pow_le_pow_right (by omega) (by omega)))
  have hbig : 2 ^ (2 * d) ≤ n := by
    show _ ≤ m <<< more
    rw [Nat.shiftLeft_eq]
    refine Nat.le_trans ?_ (Nat.mul_le_mul_right _ (Nat.log2_self_le hm))
    rw [← Nat.pow_add]
    exact Nat.pow_le_pow_right (by omega) (by omega)
  obtain ⟨s1, s2⟩ := hsp
  have hw : Ieee.Datum.rootFrom n (n.log2 / 2 + 1) 0 = whole := rfl
  rw [hw] at s1 s2
  have hwd : 2 ^ d ≤ whole + 1 := by
    rcases Nat.lt_or_ge (whole + 1) (2 ^ d) with h | h
    · exfalso
      have : (whole + 1) * (whole + 1) ≤ 2 ^ d * 2 ^ d := Nat.mul_le_mul (by omega) (by omega)
      rw [← Nat.pow_add, show d + d = 2 * d by omega] at this
      omega
    · exact h
  have hd2 : 2 ≤ 2 ^ d := by
    have := Nat.pow_le_pow_right (n := 2) (by omega) hd
    simpa using this
  have hN : N = 2 * whole + (whole * whole != n).toNat := rfl
  have b1 : 2 * whole ≤ N := by omega
  have b2 : N ≤ 2 * whole + 1 := by rw [hN]; cases (whole * whole != n) <;> simp
  have b3 : 2 ^ d ≤ N := by omega
  have hlow : (N - 1) * (N - 1) ≤ 4 * n := by
    have : (N - 1) * (N - 1) ≤ (2 * whole) * (2 * whole) := Nat.mul_le_mul (by omega) (by omega)
    have e : (2 * whole) * (2 * whole) = 4 * (whole * whole) := by grind
    omega
  have hhigh : 4 * n ≤ (N + 1) * (N + 1) := by
    by_cases h : whole * whole = n
    · have e0 : N = 2 * whole := by rw [hN, h]; simp
      rw [← h, e0]; grind
    · have e0 : N = 2 * whole + 1 := by
        have : (whole * whole != n) = true := by simpa using h
        rw [hN, this]; rfl
      rw [e0]
      have e : (2 * whole + 1 + 1) * (2 * whole + 1 + 1) = 4 * ((whole + 1) * (whole + 1)) := by grind
      omega
  have c1 := nat_le.2 hlow
  have c2 := nat_le.2 hhigh
  have c3 := nat_le.2 b3
  have eN : ((N - 1 : Nat) : Rat) = (N : Rat) - 1 := by
    have : N = (N - 1) + 1 := by omega
    have h2 : (N : Rat) = ((N - 1 : Nat) : Rat) + 1 := by
      conv => lhs; rw [this]
      rw [Rat.natCast_add]; rfl
    grind
  have e1 : ((N + 1 : Nat) : Rat) = (N : Rat) + 1 := by rw [Rat.natCast_add]; rfl
  have e4 : ((4 * n : Nat) : Rat) = 4 * (n : Rat) := by rw [Rat.natCast_mul]; rfl
  rw [Rat.natCast_mul, eN, e4] at c1
  rw [e4, Rat.natCast_mul, e1] at c2
  rw [← p2_nat] at c3
  have hQ := p2_pos P
  have hQQ : 0 ≤ p2 P * p2 P := Rat.mul_nonneg (Rat.le_of_lt hQ) (Rat.le_of_lt hQ)
  have k1 := Rat.mul_le_mul_of_nonneg_right c1 hQQ
  have k2 := Rat.mul_le_mul_of_nonneg_right c2 hQQ
  have k3 := Rat.mul_le_mul_of_nonneg_right c3 (Rat.le_of_lt hQ)
  refine ⟨_, rfl, k3, Rat.mul_nonneg Rat.natCast_nonneg (Rat.le_of_lt hQ), ?_, ?_⟩
  · rw [hval]; generalize p2 P = Q at *; grind
  · rw [hval]; generalize p2 P = Q at *; grind
theorem sq_le {a b : Rat} (h0 : 0 ≤ a) (h : a ≤ b) : a * a ≤ b * b :=
  Rat.le_trans (Rat.mul_le_mul_of_nonneg_left h h0) (Rat.mul_le_mul_of_nonneg_right h (Rat.le_trans h0 h))
theorem p2m51 : p2 (-51) = 1 / 2251799813685248 := by decide +kernel
theorem p2m53 : p2 (-53) = 1 / 9007199254740992 := by decide +kernel
theorem p2m54 : p2 (-54) = 1 / 18014398509481984 := by decide +kernel
theorem sq_arith {t z v g : Rat} (t0 : 0 ≤ t) (hg0 : 0 ≤ g) (hg : g ≤ 1 / 18014398509481984 * t) (h1 : (t - g) * (t - g) ≤ v) (h2 : v ≤ (t + g) * (t + g))
    (z1 : z - t ≤ 1 / 9007199254740992 * t) (z2 : t - z ≤ 1 / 9007199254740992 * t) :
    0 ≤ z ∧ (1 - 1 / 2251799813685248) * (z * z) ≤ v ∧ v ≤ (1 + 1 / 2251799813685248) * (z * z) := by
  have z0 : 0 ≤ z := by grind
  have tt : 0 ≤ t * t := Rat.mul_nonneg t0 t0
  have a1 := sq_le (a := z) (b := (1 + 1 / 9007199254740992) * t) z0 (by grind)
  have a2 := sq_le (a := (1 - 1 / 9007199254740992) * t) (b := z) (by grind) (by grind)
  have a3 := sq_le (a := (1 - 1 / 18014398509481984) * t) (b := t - g) (by grind) (by grind)
  have a4 := sq_le (a := t + g) (b := (1 + 1 / 18014398509481984) * t) (by grind) (by grind)
  have e1 : ((1 + 1 / 9007199254740992) * t) * ((1 + 1 / 9007199254740992) * t) = (1 + 1 / 9007199254740992) * (1 + 1 / 9007199254740992) * (t * t) := by grind
  have e2 : ((1 - 1 / 9007199254740992) * t) * ((1 - 1 / 9007199254740992) * t) = (1 - 1 / 9007199254740992) * (1 - 1 / 9007199254740992) * (t * t) := by grind
  have e3 : ((1 - 1 / 18014398509481984) * t) * ((1 - 1 / 18014398509481984) * t) = (1 - 1 / 18014398509481984) * (1 - 1 / 18014398509481984) * (t * t) := by grind
  have e4 : ((1 + 1 / 18014398509481984) * t) * ((1 + 1 / 18014398509481984) * t) = (1 + 1 / 18014398509481984) * (1 + 1 / 18014398509481984) * (t * t) := by grind
  rw [e1] at a1; rw [e2] at a2; rw [e3] at a3; rw [e4] at a4
  generalize t * t = T at *
  generalize z * z = Z at *
  refine ⟨z0, ?_, ?_⟩ <;> grind
/-- So far a root may be from the exact one. -/
theorem re_sq {x : Nat} (hx : fin .f64 x = true) (h0 : 0 ≤ fv .f64 x) (hb : fv .f64 x ≤ p2 1000) :
    fin .f64 (sq x) = true ∧ 0 ≤ fv .f64 (sq x) ∧ (1 - p2 (-51)) * (fv .f64 (sq x) * fv .f64 (sq x)) ≤ fv .f64 x ∧ fv .f64 x ≤ (1 + p2 (-51)) * (fv .f64 (sq x) * fv .f64 (sq x)) := by
  obtain ⟨s, m, i, rx, li, lm⟩ := fin_read hx
  have hl : FloatKind.f64.format.leastPlace = -1074 := by decide +kernel
  have hfb : FloatKind.f64.format.fractionBits = 52 := by decide +kernel
  rw [hl] at li
  by_cases hm : m = 0
  · subst hm
    have hs : sq x = cn .f64 (FloatKind.f64.format.nearest s 0 i) := by
      unfold sq Ieee.Format.sqrt
      rw [rx]
      rfl
    have hz : fv .f64 x = 0 := by rw [fv_num rx]; simp
    obtain ⟨w1, w2⟩ := word_fin (k := .f64) (s := s) (r := 0) (by decide +kernel)
    rw [hs, nearest_zero]
    have hzz : fv .f64 (cn .f64 (FloatKind.f64.format.word s 0)) = 0 := by
      rw [w2]
      have : magOf FloatKind.f64.format 0 = 0 := by decide +kernel
      rw [this]; simp
    rw [hzz, hz]
    refine ⟨w1, ?_, ?_, ?_⟩ <;> grind
  · have hmp : (0 : Rat) < (m : Rat) := by have := (Rat.natCast_lt_natCast (a := 0) (b := m)).2 (by omega); simpa using this
    have hv : fv .f64 x = (m : Rat) * p2 i := by
      rw [fv_num rx] at h0 ⊢
      have := Rat.mul_pos hmp (p2_pos i)
      rcases sg_cases s with h | h <;> rw [h] at h0 ⊢ <;> grind
    have hs : s = false := by
      cases s
      · rfl
      · rw [fv_num rx] at h0
        have := Rat.mul_pos hmp (p2_pos i)
        simp [sg] at h0
        grind
    subst hs
    have hR := root_val (i := i) hm (d := 54) (by omega)
    have hsq : sq x = cn .f64 (FloatKind.f64.format.nearest false (let more := 2 * 54 - m.log2 + ((i - (2 * 54 - m.log2 : Nat)) % 2).toNat
        let n := m <<< more
        let whole := Ieee.Datum.rootFrom n (n.log2 / 2 + 1) 0
        2 * whole + (whole * whole != n).toNat) (let more := 2 * 54 - m.log2 + ((i - (2 * 54 - m.log2 : Nat)) % 2).toNat
        (i - (more : Int)) / 2 - 1)) := by
      unfold sq Ieee.Format.sqrt
      rw [rx, hfb]
      simp only [Ieee.Datum.root, if_neg hm, Option.map_some, Option.getD_some, Ieee.Format.write, Bool.false_eq_true, if_false]
    simp only at hR hsq
    have hPl : -1074 ≤ (i - ((2 * 54 - m.log2 + ((i - (2 * 54 - m.log2 : Nat)) % 2).toNat : Nat) : Int)) / 2 - 1 := by omega
    generalize hN : 2 * Ieee.Datum.rootFrom (m <<< (2 * 54 - m.log2 + ((i - (2 * 54 - m.log2 : Nat)) % 2).toNat)) ((m <<< (2 * 54 - m.log2 + ((i - (2 * 54 - m.log2 : Nat)) % 2).toNat)).log2 / 2 + 1) 0 + _ = N at *
    generalize hP : (i - ((2 * 54 - m.log2 + ((i - (2 * 54 - m.log2 : Nat)) % 2).toNat : Nat) : Int)) / 2 - 1 = P at *
    obtain ⟨t, ht, t1, t2, t3, t4⟩ := hR
    rw [← hv] at t3 t4
    have hg : p2 P ≤ 1 / 18014398509481984 * t := by
      have := Rat.mul_le_mul_of_nonneg_left t1 (p2_nn (-54))
      rw [← Rat.mul_assoc, ← p2_add, show ((-54 : Int) + ((54 : Nat) : Int)) = 0 by decide, p2_zero, Rat.one_mul, p2m54] at this
      exact this
    have htb : t ≤ big .f64 := by
      have hbg : big .f64 = p2 1023 := rfl
      rw [hbg]
      rcases (Rat.le_total (a := t) (b := p2 1023)) with h | h
      · exact h
      · exfalso
        have c1 := sq_le (a := p2 1022) (b := t - p2 P) (p2_nn _) (by have := p2_dbl 1023; rw [show (1023 : Int) - 1 = 1022 by decide] at this; grind)
        rw [← p2_add] at c1
        have c2 : p2 1000 < p2 (1022 + 1022) := by decide +kernel
        grind
    obtain ⟨a, b⟩ := write_val (k := .f64) (s := false) (m := N) (e := P) (v := t) (by rw [ht]; simp [sg]) htb (by have := p2_pos 1023; have hbg : big .f64 = p2 1023 := rfl; grind)
    rw [hsq]
    rcases b with b | ⟨b, _⟩
    · obtain ⟨b1, b2⟩ := b t Rat.le_refl (by grind)
      have hu : uu .f64 = 1 / 9007199254740992 := p2m53
      rw [hu] at b1 b2
      rw [p2m51]
      exact ⟨a, sq_arith t2 (p2_nn P) hg t3 t4 b1 b2⟩
    · rw [hl] at b; omega
/-- What is narrowed. -/
theorem re_nar {x : Nat} (hx : fin .f64 x = true) (h1 : fv .f64 x ≤ big .f32) (h2 : -fv .f64 x ≤ big .f32) :
    narOk x ∧ fin .f32 (nar x) = true ∧ ∀ M, fv .f64 x ≤ M → -fv .f64 x ≤ M → fv .f32 (nar x) - fv .f64 x ≤ uu .f32 * M + p2 (-150) ∧ fv .f64 x - fv .f32 (nar x) ≤ uu .f32 * M + p2 (-150) := by
  obtain ⟨s, m, i, rx, li, lm⟩ := fin_read hx
  have hd : FloatKind.f64.decode x = .number s m i := rx
  rw [fv_num rx] at *
  have hn : (m : Rat) * p2 i ≤ big .f32 := by rcases sg_cases s with h | h <;> rw [h] at h1 h2 <;> grind
  have hr := rung_big hn
  have hcv : cvBits .f64 .f32 x = some (FloatKind.f32.format.nearest s m i) := by
    have : (FloatKind.f32.decode (FloatKind.f32.encode (.number s m i))).isInfinity = false := by
      show (FloatKind.f32.decode (FloatKind.f32.format.nearest s m i)).isInfinity = false
      rw [nearest_rung, Nat.min_eq_left (by omega)]
      exact word_inf_false hr
    simp [cvBits, hd, this]
    rfl
  have hnar : nar x = cn .f32 (FloatKind.f32.format.nearest s m i) := by unfold nar; rw [hcv]; rfl
  refine ⟨.inr (by rw [hcv]; rfl), ?_⟩
  rw [hnar]
  obtain ⟨a, b⟩ := write_val (k := .f32) (s := s) (m := m) (e := i) rfl h1 h2
  refine ⟨a, fun M m1 m2 => ?_⟩
  have hM : 0 ≤ M := by grind
  have hu := Rat.mul_nonneg (Rat.le_of_lt (uu_pos .f32)) hM
  have hp := p2_nn (-150)
  have hl : FloatKind.f32.format.leastPlace - 1 = -150 := by decide +kernel
  rw [hl] at b
  rcases b with b | ⟨_, b⟩
  · have := b M m1 m2; constructor <;> grind
  · constructor <;> grind
/-- What is widened is as it was. -/
theorem re_wide {x : Nat} (hx : fin .f32 x = true) : fin .f64 (wide x) = true ∧ fv .f64 (wide x) = fv .f32 x := by
  obtain ⟨s, m, i, rx, li, lm⟩ := fin_read hx
  have hd : FloatKind.f32.decode x = .number s m i := rx
  obtain ⟨r1, r2, r3⟩ := read32 hd
  have hw : wide x = cn .f64 (FloatKind.f64.format.nearest s m i) := by unfold wide; rw [cvBits_num hd]; rfl
  rw [hw, fv_num rx]
  have hb : (m : Rat) * p2 i ≤ big .f64 := by
    have c1 : (m : Rat) ≤ ((2 ^ 24 : Nat) : Rat) := nat_le.2 (by omega)
    have c2 := Rat.mul_le_mul_of_nonneg_right c1 (p2_nn i)
    rw [← p2_nat, ← p2_add] at c2
    exact Rat.le_trans c2 (p2_le (by show _ ≤ (1023 : Int); omega))
  have hnn : 0 ≤ (m : Rat) * p2 i := Rat.mul_nonneg (Rat.natCast_nonneg) (p2_nn i)
  have b1 : sg s * ((m : Rat) * p2 i) ≤ big .f64 := by rcases sg_cases s with h | h <;> rw [h] <;> grind
  have b2 : -(sg s * ((m : Rat) * p2 i)) ≤ big .f64 := by rcases sg_cases s with h | h <;> rw [h] <;> grind
  obtain ⟨a, _⟩ := write_val (k := .f64) (s := s) (m := m) (e := i) rfl b1 b2
  refine ⟨a, ?_⟩
  refine write_exact (z := if s then -(m : Int) else m) (p := i) rfl b1 b2 ?_ ?_ ?_
  · cases s
    · rw [if_neg (by simp), Rat.intCast_natCast]; simp [sg]
    · rw [if_pos rfl, Rat.intCast_neg, Rat.intCast_natCast]; simp [sg]; grind
  · have : FloatKind.f64.format.fractionBits = 52 := by decide +kernel
    rw [this]
    cases s <;> simp <;> omega
  · have : FloatKind.f64.format.leastPlace = -1074 := by decide +kernel
    rw [this]; omega
/-- A whole number, as a float. -/
theorem re_int {k : FloatKind} {n : Int} (h : n.natAbs < 2 ^ (k.format.fractionBits + 1)) : fin k (floatOfInt k n) = true ∧ fv k (floatOfInt k n) = (n : Rat) := by
  have he : floatOfInt k n = cn k (k.format.nearest (decide (n < 0)) n.natAbs 0) := by
    rw [cn_num (isNan_nearest' _ _ _ _)]; rfl
  have hl : k.format.leastPlace ≤ 0 := by cases k <;> decide +kernel
  have hfb : (k.format.fractionBits + 1 : Int) ≤ 53 ∧ big k = p2 127 ∨ (k.format.fractionBits + 1 : Int) ≤ 53 ∧ big k = p2 1023 := by
    cases k
    · left; exact ⟨by decide +kernel, rfl⟩
    · right; exact ⟨by decide +kernel, rfl⟩
  have hv : sg (decide (n < 0)) * ((n.natAbs : Rat) * p2 0) = (n : Rat) := by
    rw [p2_zero]
    rcases Int.lt_or_le n 0 with h | h
    · have : n = -(n.natAbs : Int) := by omega
      have hn : (n : Rat) = -(n.natAbs : Rat) := by
        conv => lhs; rw [this]
        rw [Rat.intCast_neg, Rat.intCast_natCast]
      rw [hn]; simp [sg, h]; grind
    · have : n = (n.natAbs : Int) := by omega
      have hn : (n : Rat) = (n.natAbs : Rat) := by
        conv => lhs; rw [this]
        rw [Rat.intCast_natCast]
      have h' : ¬ n < 0 := by omega
      rw [hn]; simp [sg, h']
  have hab : (n.natAbs : Rat) ≤ big k := by
    have c1 : (n.natAbs : Rat) ≤ ((2 ^ (k.format.fractionBits + 1) : Nat) : Rat) := nat_le.2 (by omega)
    rw [← p2_nat] at c1
    rcases hfb with ⟨h1, h2⟩ | ⟨h1, h2⟩ <;> rw [h2] <;> exact Rat.le_trans c1 (p2_le (by omega))
  have hnn : (0 : Rat) ≤ (n.natAbs : Rat) := Rat.natCast_nonneg
  rw [p2_zero] at hv
  have b1 : (n : Rat) ≤ big k := by rcases sg_cases (decide (n < 0)) with h | h <;> rw [h] at hv <;> grind
  have b2 : -(n : Rat) ≤ big k := by rcases sg_cases (decide (n < 0)) with h | h <;> rw [h] at hv <;> grind
  rw [he]
  rw [← p2_zero] at hv
  exact ⟨(write_val hv b1 b2).1, write_exact hv b1 b2 (z := n) (p := 0) (by rw [p2_zero]; grind) h hl⟩
end Go.Proofs.YtjmpldcnhjgpkaaGreatDoor.Fl
