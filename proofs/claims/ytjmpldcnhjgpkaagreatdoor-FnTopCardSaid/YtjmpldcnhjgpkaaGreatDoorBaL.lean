/-
  What stays in a chain of few states: what nearly balances, and adds up to nearly nothing, is nearly nothing. Plain law in fractions.
-/
import Derived.Test.YtjmpldcnhjgpkaaGreatDoorRe
namespace Go.Proofs.YtjmpldcnhjgpkaaGreatDoor
set_option linter.unusedVariables false
set_option maxRecDepth 100000

/-- What flows out of a state that holds more than nothing; the first flow goes to the next state. -/
structure Out (x f g h : Rat) : Prop where
  f0 : 1 / 4 * x ≤ f
  f2 : f ≤ 2 * x
  g0 : 0 ≤ g
  g2 : g ≤ 2 * x
  h0 : 0 ≤ h
  h2 : h ≤ 2 * x
/-- What flows out of a state that holds nothing or less. -/
structure Inn (f g h : Rat) : Prop where
  f : f ≤ 0
  g : g ≤ 0
  h : h ≤ 0
def Sgn (x f g h : Rat) : Prop := (0 < x ∧ Out x f g h) ∨ (x ≤ 0 ∧ Inn f g h)
theorem sgn_of {x r s t : Rat} (r1 : 1 / 4 ≤ r) (r2 : r ≤ 2) (s1 : 0 ≤ s) (s2 : s ≤ 2) (t1 : 0 ≤ t) (t2 : t ≤ 2) : Sgn x (r * x) (s * x) (t * x) := by
  rcases Rat.le_total (a := x) (b := 0) with hx | hx
  · right
    have a := Rat.mul_nonneg (show 0 ≤ r by grind) (show 0 ≤ -x by grind)
    have b := Rat.mul_nonneg s1 (show 0 ≤ -x by grind)
    have c := Rat.mul_nonneg t1 (show 0 ≤ -x by grind)
    exact ⟨hx, ⟨by grind, by grind, by grind⟩⟩
  · by_cases h0 : x = 0
    · right
      subst h0
      exact ⟨by decide, ⟨by grind, by grind, by grind⟩⟩
    · left
      have a := Rat.mul_nonneg (show 0 ≤ r - 1 / 4 by grind) hx
      have b := Rat.mul_nonneg (show 0 ≤ 2 - r by grind) hx
      have c := Rat.mul_nonneg s1 hx
      have d := Rat.mul_nonneg (show 0 ≤ 2 - s by grind) hx
      have e := Rat.mul_nonneg t1 hx
      have f := Rat.mul_nonneg (show 0 ≤ 2 - t by grind) hx
      exact ⟨by grind, ⟨by grind, by grind, c, by grind, e, by grind⟩⟩
theorem four_d3 {xa xb xc β ab ac ad ba bc bd ca cb cd da db dc : Rat} (A : Out xa ab ac ad) (B : Out xb bc bd ba) (C : Out xc cd ca cb) (D : Inn da db dc)
    (b2 : -(ab + cb + db - (bc + bd + ba)) ≤ β) (b1 : ab + cb + db - (bc + bd + ba) ≤ β)
    (c1 : ac + bc + dc - (cd + ca + cb) ≤ β) (d1 : ad + bd + cd - (da + db + dc) ≤ β) : xa ≤ 696 * β := by
  obtain ⟨f1, f2, f3, f4, f5, f6⟩ := A
  obtain ⟨g1, g2, g3, g4, g5, g6⟩ := B
  obtain ⟨h1, h2, h3, h4, h5, h6⟩ := C
  obtain ⟨i1, i2, i3⟩ := D
  have F4 : cd ≤ β := by grind
  have F1 : bd ≤ β := by grind
  have F2 : -dc ≤ β := by grind
  have F3 : -db ≤ β := by grind
  have x1 : xc ≤ 4 * β := by grind
  have y1 : bc ≤ 19 * β := by grind
  have x2 : xb ≤ 76 * β := by grind
  have y2 : ab ≤ 174 * β := by grind
  grind
theorem four_d2 {xa xb β ab ac ad ba bc bd ca cb cd da db dc : Rat} (hβ : 0 ≤ β) (A : Out xa ab ac ad) (B : Out xb bc bd ba) (C : Inn cd ca cb) {xd : Rat} (D : Sgn xd da db dc)
    (a2 : -(ba + ca + da - (ab + ac + ad)) ≤ β) (b1 : ab + cb + db - (bc + bd + ba) ≤ β) (b2 : -(ab + cb + db - (bc + bd + ba)) ≤ β)
    (c1 : ac + bc + dc - (cd + ca + cb) ≤ β) : xa ≤ 696 * β := by
  obtain ⟨f1, f2, f3, f4, f5, f6⟩ := A
  obtain ⟨g1, g2, g3, g4, g5, g6⟩ := B
  obtain ⟨h1, h2, h3⟩ := C
  rcases D with ⟨_, i1, i2, i3, i4, i5, i6⟩ | ⟨_, i1, i2, i3⟩
  · have F1 : bc ≤ β := by grind
    have F2 : -cb ≤ β := by grind
    have x1 : xb ≤ 4 * β := by grind
    have y : ab ≤ 19 * β := by grind
    grind
  · have F1 : bc ≤ 2 * β := by grind
    have F2 : -cb ≤ 2 * β := by grind
    have F3 : -db ≤ 2 * β := by grind
    have F4 : bd ≤ 2 * β := by grind
    have x1 : xb ≤ 8 * β := by grind
    have y : ab ≤ 30 * β := by grind
    grind
theorem four_d1 {xa β ab ac ad ba bc bd ca cb cd da db dc : Rat} (hβ : 0 ≤ β) (A : Out xa ab ac ad) (B : Inn bc bd ba) {xc xd : Rat} (C : Sgn xc cd ca cb) (D : Sgn xd da db dc)
    (a2 : -(ba + ca + da - (ab + ac + ad)) ≤ β) (b1 : ab + cb + db - (bc + bd + ba) ≤ β)
    (c2 : -(ac + bc + dc - (cd + ca + cb)) ≤ β) (d2 : -(ad + bd + cd - (da + db + dc)) ≤ β) : xa ≤ 696 * β := by
  obtain ⟨f1, f2, f3, f4, f5, f6⟩ := A
  obtain ⟨g1, g2, g3⟩ := B
  rcases C with ⟨_, h1, h2, h3, h4, h5, h6⟩ | ⟨_, h1, h2, h3⟩ <;> rcases D with ⟨_, i1, i2, i3, i4, i5, i6⟩ | ⟨_, i1, i2, i3⟩
  · have y : ab ≤ β := by grind
    grind
  · have y : ab ≤ 2 * β := by grind
    grind
  · have y : ab ≤ 2 * β := by grind
    grind
  · have y : ab ≤ β := by grind
    grind
/-- Four states: what one of them holds. -/
theorem four_b {xa xb xc xd β ab ac ad ba bc bd ca cb cd da db dc : Rat} (hβ : 0 ≤ β) (A : Sgn xa ab ac ad) (B : Sgn xb bc bd ba) (C : Sgn xc cd ca cb) (D : Sgn xd da db dc)
    (a2 : -(ba + ca + da - (ab + ac + ad)) ≤ β) (b1 : ab + cb + db - (bc + bd + ba) ≤ β) (b2 : -(ab + cb + db - (bc + bd + ba)) ≤ β)
    (c1 : ac + bc + dc - (cd + ca + cb) ≤ β) (c2 : -(ac + bc + dc - (cd + ca + cb)) ≤ β) (d1 : ad + bd + cd - (da + db + dc) ≤ β) (d2 : -(ad + bd + cd - (da + db + dc)) ≤ β)
    (hs : xa + xb + xc + xd ≤ β) : xa ≤ 696 * β := by
  rcases A with ⟨a0, A⟩ | ⟨a0, _⟩
  · rcases B with ⟨b0, B⟩ | ⟨b0, B⟩
    · rcases C with ⟨c0, C⟩ | ⟨c0, C⟩
      · rcases D with ⟨d0, D⟩ | ⟨d0, D⟩
        · grind
        · exact four_d3 A B C D b2 b1 c1 d1
      · exact four_d2 hβ A B C D a2 b1 b2 c1
    · exact four_d1 hβ A B C D a2 b1 c2 d2
  · grind
/-- Three states. -/
theorem three_b {xa xb xc β ab ac ba bc ca cb : Rat} (hβ : 0 ≤ β) (A : Sgn xa ab ac 0) (B : Sgn xb bc ba 0) (C : Sgn xc ca cb 0)
    (a2 : -(ba + ca - (ab + ac)) ≤ β) (b1 : ab + cb - (bc + ba) ≤ β) (b2 : -(ab + cb - (bc + ba)) ≤ β)
    (c1 : ac + bc - (ca + cb) ≤ β) (c2 : -(ac + bc - (ca + cb)) ≤ β)
    (hs : xa + xb + xc ≤ β) : xa ≤ 696 * β := by
  rcases A with ⟨a0, f1, f2, f3, f4, _, _⟩ | ⟨a0, _⟩
  · rcases B with ⟨b0, g1, g2, g3, g4, _, _⟩ | ⟨b0, g1, g2, _⟩
    · rcases C with ⟨c0, h1, h2, h3, h4, _, _⟩ | ⟨c0, h1, h2, _⟩
      · grind
      · have F1 : bc ≤ β := by grind
        have F2 : -cb ≤ β := by grind
        have x1 : xb ≤ 4 * β := by grind
        have y : ab ≤ 20 * β := by grind
        grind
    · rcases C with ⟨c0, h1, h2, h3, h4, _, _⟩ | ⟨c0, h1, h2, _⟩
      · have y : ab ≤ β := by grind
        grind
      · have y : ab ≤ β := by grind
        grind
  · grind
/-- Two states. -/
theorem two_b {xa xb β ab ba : Rat} (hβ : 0 ≤ β) (A : Sgn xa ab 0 0) (B : Sgn xb ba 0 0) (a2 : -(ba - ab) ≤ β) (hs : xa + xb ≤ β) : xa ≤ 696 * β := by
  rcases A with ⟨a0, f1, f2, _⟩ | ⟨a0, _⟩
  · rcases B with ⟨b0, g1, g2, _⟩ | ⟨b0, g1, _⟩
    · grind
    · have y : ab ≤ β := by grind
      grind
  · grind
/-- Sums over the first places. -/
def sumT (f : Nat → Rat) : Nat → Rat
  | 0 => 0
  | k + 1 => sumT f k + f k
/-- The rows that BalanceOf solves: balances of all states but the last one, and the sum. -/
def aRow (n : Nat) (R : Nat → Nat → Rat) (k j : Nat) : Rat := if k + 1 = n then 1 else if j = k then -sumT (R k) n else R j k
def dotS (n : Nat) (g x : Nat → Rat) : Rat := sumT (fun j => g j * x j) n
structure Chn (n : Nat) (R : Nat → Nat → Rat) : Prop where
  r0 : ∀ i j, 0 ≤ R i j
  r2 : ∀ i j, R i j ≤ 2
  d : ∀ i, R i i = 0
  c : ∀ i, i < n → 2 ≤ n → 1 / 4 ≤ R i ((i + 1) % n)
theorem dot_neg (n : Nat) (g x : Nat → Rat) : dotS n g (fun j => -x j) = -dotS n g x := by
  unfold dotS
  induction n with
  | zero => simp [sumT]
  | succ n ih => simp only [sumT, ih]; grind
theorem inv_half {n : Nat} {R : Nat → Nat → Rat} (h1 : 1 ≤ n) (h4 : n ≤ 4) (h : Chn n R) {x : Nat → Rat} {η : Rat} (hη : 0 ≤ η) (hr : ∀ k, k < n → dotS n (aRow n R k) x ≤ η ∧ -dotS n (aRow n R k) x ≤ η) : ∀ i, i < n → x i ≤ 2088 * η := by
  rcases (by omega : n = 1 ∨ n = 2 ∨ n = 3 ∨ n = 4) with rfl | rfl | rfl | rfl
  · intro i hi
    obtain rfl : i = 0 := by omega
    obtain ⟨a, b⟩ := hr 0 (by omega)
    simp [dotS, sumT, aRow] at a b
    grind
  · obtain ⟨a, b⟩ := hr 0 (by omega)
    obtain ⟨c, d⟩ := hr 1 (by omega)
    have c0 := h.c 0 (by omega) (by omega)
    have c1 := h.c 1 (by omega) (by omega)
    simp [dotS, sumT, aRow, h.d] at a b c d c0 c1
    have S0 := sgn_of (x := x 0) (s := 0) (t := 0) c0 (h.r2 0 1) (by decide) (by decide) (by decide) (by decide)
    have S1 := sgn_of (x := x 1) (s := 0) (t := 0) c1 (h.r2 1 0) (by decide) (by decide) (by decide) (by decide)
    rw [Rat.zero_mul] at S0 S1
    intro i hi
    rcases (by omega : i = 0 ∨ i = 1) with rfl | rfl
    · have := two_b hη S0 S1 (by grind) (by grind)
      grind
    · have := two_b hη S1 S0 (by grind) (by grind)
      grind
  · obtain ⟨a, b⟩ := hr 0 (by omega)
    obtain ⟨c, d⟩ := hr 1 (by omega)
    obtain ⟨e, f⟩ := hr 2 (by omega)
    have c0 := h.c 0 (by omega) (by omega)
    have c1 := h.c 1 (by omega) (by omega)
    have c2 := h.c 2 (by omega) (by omega)
    simp [dotS, sumT, aRow, h.d] at a b c d e f c0 c1 c2
    have S0 := sgn_of (x := x 0) (t := 0) c0 (h.r2 0 1) (h.r0 0 2) (h.r2 0 2) (by decide) (by decide)
    have S1 := sgn_of (x := x 1) (t := 0) c1 (h.r2 1 2) (h.r0 1 0) (h.r2 1 0) (by decide) (by decide)
    have S2 := sgn_of (x := x 2) (t := 0) c2 (h.r2 2 0) (h.r0 2 1) (h.r2 2 1) (by decide) (by decide)
    rw [Rat.zero_mul] at S0 S1 S2
    clear h hr c0 c1 c2
    have q1 : R 1 0 * x 1 + R 2 0 * x 2 - (R 0 1 * x 0 + R 0 2 * x 0) ≤ η := by grind
    have q2 : -(R 1 0 * x 1 + R 2 0 * x 2 - (R 0 1 * x 0 + R 0 2 * x 0)) ≤ η := by grind
    have q3 : R 0 1 * x 0 + R 2 1 * x 2 - (R 1 2 * x 1 + R 1 0 * x 1) ≤ η := by grind
    have q4 : -(R 0 1 * x 0 + R 2 1 * x 2 - (R 1 2 * x 1 + R 1 0 * x 1)) ≤ η := by grind
    have q5 : x 0 + x 1 + x 2 ≤ η := by grind
    clear a b c d e f
    intro i hi
    rcases (by omega : i = 0 ∨ i = 1 ∨ i = 2) with rfl | rfl | rfl
    · have := three_b (β := 3 * η) (by grind) S0 S1 S2 (by grind) (by grind) (by grind) (by grind) (by grind) (by grind)
      grind
    · have := three_b (β := 3 * η) (by grind) S1 S2 S0 (by grind) (by grind) (by grind) (by grind) (by grind) (by grind)
      grind
    · have := three_b (β := 3 * η) (by grind) S2 S0 S1 (by grind) (by grind) (by grind) (by grind) (by grind) (by grind)
      grind
  · obtain ⟨a, b⟩ := hr 0 (by omega)
    obtain ⟨c, d⟩ := hr 1 (by omega)
    obtain ⟨e, f⟩ := hr 2 (by omega)
    obtain ⟨e', f'⟩ := hr 3 (by omega)
    have c0 := h.c 0 (by omega) (by omega)
    have c1 := h.c 1 (by omega) (by omega)
    have c2 := h.c 2 (by omega) (by omega)
    have c3 := h.c 3 (by omega) (by omega)
    simp [dotS, sumT, aRow, h.d] at a b c d e f e' f' c0 c1 c2 c3
    have S0 := sgn_of (x := x 0) c0 (h.r2 0 1) (h.r0 0 2) (h.r2 0 2) (h.r0 0 3) (h.r2 0 3)
    have S1 := sgn_of (x := x 1) c1 (h.r2 1 2) (h.r0 1 3) (h.r2 1 3) (h.r0 1 0) (h.r2 1 0)
    have S2 := sgn_of (x := x 2) c2 (h.r2 2 3) (h.r0 2 0) (h.r2 2 0) (h.r0 2 1) (h.r2 2 1)
    have S3 := sgn_of (x := x 3) c3 (h.r2 3 0) (h.r0 3 1) (h.r2 3 1) (h.r0 3 2) (h.r2 3 2)
    clear h hr c0 c1 c2 c3
    have q1 : R 1 0 * x 1 + R 2 0 * x 2 + R 3 0 * x 3 - (R 0 1 * x 0 + R 0 2 * x 0 + R 0 3 * x 0) ≤ η := by grind
    have q2 : -(R 1 0 * x 1 + R 2 0 * x 2 + R 3 0 * x 3 - (R 0 1 * x 0 + R 0 2 * x 0 + R 0 3 * x 0)) ≤ η := by grind
    have q3 : R 0 1 * x 0 + R 2 1 * x 2 + R 3 1 * x 3 - (R 1 2 * x 1 + R 1 3 * x 1 + R 1 0 * x 1) ≤ η := by grind
    have q4 : -(R 0 1 * x 0 + R 2 1 * x 2 + R 3 1 * x 3 - (R 1 2 * x 1 + R 1 3 * x 1 + R 1 0 * x 1)) ≤ η := by grind
    have q5 : R 0 2 * x 0 + R 1 2 * x 1 + R 3 2 * x 3 - (R 2 3 * x 2 + R 2 0 * x 2 + R 2 1 * x 2) ≤ η := by grind
    have q6 : -(R 0 2 * x 0 + R 1 2 * x 1 + R 3 2 * x 3 - (R 2 3 * x 2 + R 2 0 * x 2 + R 2 1 * x 2)) ≤ η := by grind
    have q7 : x 0 + x 1 + x 2 + x 3 ≤ η := by grind
    clear a b c d e f e' f'
    generalize R 0 1 * x 0 = p01 at *
    generalize R 0 2 * x 0 = p02 at *
    generalize R 0 3 * x 0 = p03 at *
    generalize R 1 0 * x 1 = p10 at *
    generalize R 1 2 * x 1 = p12 at *
    generalize R 1 3 * x 1 = p13 at *
    generalize R 2 0 * x 2 = p20 at *
    generalize R 2 1 * x 2 = p21 at *
    generalize R 2 3 * x 2 = p23 at *
    generalize R 3 0 * x 3 = p30 at *
    generalize R 3 1 * x 3 = p31 at *
    generalize R 3 2 * x 3 = p32 at *
    have z1 : p03 + p13 + p23 - (p30 + p31 + p32) ≤ 3 * η := by grind
    have z2 : -(p03 + p13 + p23 - (p30 + p31 + p32)) ≤ 3 * η := by grind
    have hβ : 0 ≤ 3 * η := by grind
    intro i hi
    rcases (by omega : i = 0 ∨ i = 1 ∨ i = 2 ∨ i = 3) with rfl | rfl | rfl | rfl
    · have := four_b hβ S0 S1 S2 S3 (by grind) (by grind) (by grind) (by grind) (by grind) (by grind) (by grind) (by grind)
      grind
    · have := four_b hβ S1 S2 S3 S0 (by grind) (by grind) (by grind) (by grind) (by grind) (by grind) (by grind) (by grind)
      grind
    · have := four_b hβ S2 S3 S0 S1 (by grind) (by grind) (by grind) (by grind) (by grind) (by grind) (by grind) (by grind)
      grind
    · have := four_b hβ S3 S0 S1 S2 (by grind) (by grind) (by grind) (by grind) (by grind) (by grind) (by grind) (by grind)
      grind
/-- What nearly balances, and adds up to nearly nothing, is nearly nothing. -/
theorem inv_all {n : Nat} {R : Nat → Nat → Rat} (h1 : 1 ≤ n) (h4 : n ≤ 4) (h : Chn n R) {x : Nat → Rat} {η : Rat} (hη : 0 ≤ η) (hr : ∀ k, k < n → dotS n (aRow n R k) x ≤ η ∧ -dotS n (aRow n R k) x ≤ η) : ∀ i, i < n → x i ≤ 2088 * η ∧ -x i ≤ 2088 * η := fun i hi =>
  ⟨inv_half h1 h4 h hη hr i hi, inv_half h1 h4 h (x := fun j => -x j) hη (fun k hk => by rw [dot_neg]; obtain ⟨a, b⟩ := hr k hk; exact ⟨b, by grind⟩) i hi⟩
end Go.Proofs.YtjmpldcnhjgpkaaGreatDoor

/-
  Rows that are solved with small errors: no pivot is nearly nothing. Plain law in fractions.
-/
namespace Go.Proofs.YtjmpldcnhjgpkaaGreatDoor
set_option linter.unusedVariables false
set_option maxRecDepth 100000

theorem sumT_congr {f g : Nat → Rat} : ∀ n, (∀ j, j < n → f j = g j) → sumT f n = sumT g n
  | 0, _ => rfl
  | n + 1, h => by simp only [sumT]; rw [sumT_congr n (fun j hj => h j (by omega)), h n (by omega)]
theorem sumT_add (f g : Nat → Rat) : ∀ n, sumT (fun j => f j + g j) n = sumT f n + sumT g n
  | 0 => by simp only [sumT]; grind
  | n + 1 => by simp only [sumT, sumT_add f g n]; grind
theorem sumT_mul (c : Rat) (f : Nat → Rat) : ∀ n, sumT (fun j => c * f j) n = c * sumT f n
  | 0 => by simp only [sumT]; grind
  | n + 1 => by simp only [sumT, sumT_mul c f n]; grind
theorem sumT_zero : ∀ n, sumT (fun _ => 0) n = 0
  | 0 => rfl
  | n + 1 => by simp only [sumT, sumT_zero n]; grind
theorem sumT_swap (f : Nat → Nat → Rat) (n : Nat) : ∀ m, sumT (fun j => sumT (fun t => f t j) m) n = sumT (fun t => sumT (fun j => f t j) n) m
  | 0 => by simp only [sumT]; exact sumT_zero n
  | m + 1 => by
    simp only [sumT]
    rw [sumT_add, sumT_swap f n m]
theorem dot_sum (n m : Nat) (l : Nat → Rat) (w : Nat → Nat → Rat) (x : Nat → Rat) : dotS n (fun j => sumT (fun t => l t * w t j) m) x = sumT (fun t => l t * dotS n (w t) x) m := by
  unfold dotS
  have e1 : sumT (fun j => sumT (fun t => l t * w t j) m * x j) n = sumT (fun j => sumT (fun t => l t * (w t j * x j)) m) n := sumT_congr n (fun j _ => by
    have : sumT (fun t => l t * w t j) m * x j = x j * sumT (fun t => l t * w t j) m := Rat.mul_comm _ _
    rw [this, ← sumT_mul]
    exact sumT_congr m (fun t _ => by grind))
  rw [e1, sumT_swap (fun t j => l t * (w t j * x j)) n m]
  exact sumT_congr m (fun t _ => sumT_mul _ _ n)
theorem dot_add (n : Nat) (g h x : Nat → Rat) : dotS n (fun j => g j + h j) x = dotS n g x + dotS n h x := by
  unfold dotS
  rw [← sumT_add]
  exact sumT_congr n (fun j _ => by grind)
theorem abs_mul {e x E M : Rat} (e1 : e ≤ E) (e2 : -e ≤ E) (x1 : x ≤ M) (x2 : -x ≤ M) : e * x ≤ E * M ∧ -(e * x) ≤ E * M := by
  have p1 := Rat.mul_nonneg (show 0 ≤ E - e by grind) (show 0 ≤ M + x by grind)
  have p2 := Rat.mul_nonneg (show 0 ≤ E + e by grind) (show 0 ≤ M - x by grind)
  have p3 := Rat.mul_nonneg (show 0 ≤ E - e by grind) (show 0 ≤ M - x by grind)
  have p4 := Rat.mul_nonneg (show 0 ≤ E + e by grind) (show 0 ≤ M + x by grind)
  constructor <;> grind
theorem dot_near {g s x : Nat → Rat} {E M : Rat} : ∀ n, (∀ j, j < n → g j - s j ≤ E ∧ s j - g j ≤ E) → (∀ j, j < n → x j ≤ M ∧ -x j ≤ M) → dotS n g x - dotS n s x ≤ (n : Rat) * (E * M) ∧ dotS n s x - dotS n g x ≤ (n : Rat) * (E * M)
  | 0, _, _ => by
    have e0 : ((0 : Nat) : Rat) = 0 := rfl
    simp only [dotS, sumT, e0]; constructor <;> grind
  | n + 1, h, hx => by
    obtain ⟨a, b⟩ := dot_near n (fun j hj => h j (by omega)) (fun j hj => hx j (by omega))
    obtain ⟨c, d⟩ := h n (by omega)
    obtain ⟨e, f⟩ := hx n (by omega)
    obtain ⟨p, q⟩ := abs_mul (e := g n - s n) c (by grind) e f
    have ek : ((n + 1 : Nat) : Rat) = (n : Rat) + 1 := by rw [Rat.natCast_add]; rfl
    simp only [dotS, sumT] at a b ⊢
    rw [ek]; constructor <;> grind
def upd (x : Nat → Rat) (t : Nat) (v : Rat) : Nat → Rat := fun j => if j = t then v else x j
theorem dot_upd_far {g x : Nat → Rat} {t : Nat} {v : Rat} : ∀ n, n ≤ t → dotS n g (upd x t v) = dotS n g x := fun n hn => by
  unfold dotS
  exact sumT_congr n (fun j hj => by unfold upd; rw [if_neg (by omega)])
theorem dot_upd {g x : Nat → Rat} {t : Nat} {v : Rat} : ∀ n, t < n → dotS n g (upd x t v) = dotS n g x + g t * (v - x t)
  | 0, h => absurd h (Nat.not_lt_zero _)
  | n + 1, h => by
    rcases Nat.lt_or_ge t n with h1 | h1
    · have ih := dot_upd (g := g) (x := x) (v := v) n h1
      have e : upd x t v n = x n := by unfold upd; rw [if_neg (by omega)]
      unfold dotS at ih ⊢
      simp only [sumT, ih, e]; grind
    · obtain rfl : t = n := by omega
      have ih := dot_upd_far (g := g) (x := x) (v := v) t (Nat.le_refl _)
      have e : upd x t v t = v := by unfold upd; rw [if_pos rfl]
      unfold dotS at ih ⊢
      simp only [sumT, ih, e]; grind
/-- What counts of a row when k columns are done. -/
def wv (k : Nat) (a : Nat → Nat → Rat) (i j : Nat) : Rat := if j < min i k then 0 else a i j
/-- Each row is what was made of a given one, nearly. -/
def Cert (n k : Nat) (G a : Nat → Nat → Rat) (E : Rat) : Prop := ∀ i, i < n → ∃ l : Nat → Rat, ∀ j, j < n → G i j - (sumT (fun t => l t * wv k a t j) (min i k) + wv k a i j) ≤ E ∧ sumT (fun t => l t * wv k a t j) (min i k) + wv k a i j - G i j ≤ E
theorem back_x {n k : Nat} {a : Nat → Nat → Rat} (hk : k < n) (hp : ∀ t, t < k → wv k a t t ≠ 0) : ∀ m, m ≤ k → ∃ x : Nat → Rat, x k = 1 ∧ (∀ j, k < j → x j = 0) ∧ ∀ t, k - m ≤ t → t < k → dotS n (wv k a t) x = 0
  | 0, _ => ⟨fun j => if j = k then 1 else 0, if_pos rfl, fun j hj => if_neg (by omega), fun t h1 h2 => by omega⟩
  | m + 1, hm => by
    obtain ⟨x, x1, x2, x3⟩ := back_x hk hp m (by omega)
    obtain ⟨t, ht⟩ : ∃ t, t = k - (m + 1) := ⟨_, rfl⟩
    have htk : t < k := by omega
    refine ⟨upd x t (x t - dotS n (wv k a t) x / wv k a t t), ?_, ?_, ?_⟩
    · unfold upd; rw [if_neg (by omega)]; exact x1
    · intro j hj; unfold upd; rw [if_neg (by omega)]; exact x2 j hj
    · intro s h1 h2
      rw [dot_upd n (by omega)]
      by_cases hs : s = t
      · subst hs
        have hq : dotS n (wv k a s) x / wv k a s s * wv k a s s = dotS n (wv k a s) x := Rat.div_mul_cancel (hp s h2)
        grind
      · have hz : wv k a s t = 0 := by unfold wv; rw [if_pos (by omega)]
        rw [x3 s (by omega) h2, hz]; grind
/-- One of the first has the greatest value. -/
theorem max_x (x : Nat → Rat) : ∀ n, 1 ≤ n → ∃ i M, i < n ∧ (x i = M ∨ -x i = M) ∧ ∀ j, j < n → x j ≤ M ∧ -x j ≤ M
  | 0, h => absurd h (by omega)
  | 1, _ => by
    rcases Rat.le_total (a := 0) (b := x 0) with h | h
    · exact ⟨0, x 0, by omega, .inl rfl, fun j hj => by obtain rfl : j = 0 := (by omega); exact ⟨Rat.le_refl, by grind⟩⟩
    · exact ⟨0, -x 0, by omega, .inr rfl, fun j hj => by obtain rfl : j = 0 := (by omega); exact ⟨by grind, Rat.le_refl⟩⟩
  | n + 2, _ => by
    obtain ⟨i, M, hi, hM, hj⟩ := max_x x (n + 1) (by omega)
    by_cases h : x (n + 1) ≤ M ∧ -x (n + 1) ≤ M
    · refine ⟨i, M, by omega, hM, fun j hj2 => ?_⟩
      rcases Nat.lt_or_ge j (n + 1) with h1 | h1
      · exact hj j h1
      · obtain rfl : j = n + 1 := by omega
        exact h
    · rcases Rat.le_total (a := 0) (b := x (n + 1)) with h0 | h0
      · refine ⟨n + 1, x (n + 1), by omega, .inl rfl, fun j hj2 => ?_⟩
        rcases Nat.lt_or_ge j (n + 1) with h1 | h1
        · have := hj j h1; have hg : M ≤ x (n + 1) := by grind
          constructor <;> grind
        · obtain rfl : j = n + 1 := by omega
          exact ⟨Rat.le_refl, by grind⟩
      · refine ⟨n + 1, -x (n + 1), by omega, .inr rfl, fun j hj2 => ?_⟩
        rcases Nat.lt_or_ge j (n + 1) with h1 | h1
        · have := hj j h1; have hg : M ≤ -x (n + 1) := by grind
          constructor <;> grind
        · obtain rfl : j = n + 1 := by omega
          exact ⟨by grind, Rat.le_refl⟩
theorem dot_last {n k : Nat} {g x : Nat → Rat} (hg : ∀ j, j < k → g j = 0) (h1 : x k = 1) (h2 : ∀ j, k < j → x j = 0) : k < n → dotS n g x = g k := by
  intro hk
  have key : ∀ m, dotS m g x = if k < m then g k else 0 := by
    intro m
    induction m with
    | zero => rw [if_neg (by omega)]; rfl
    | succ m ih =>
      unfold dotS at ih ⊢
      simp only [sumT, ih]
      rcases (by omega : m < k ∨ m = k ∨ k < m) with h | h | h
      · rw [if_neg (by omega), if_neg (by omega), hg m h]; grind
      · subst h; rw [if_neg (by omega), if_pos (by omega), h1]; grind
      · rw [if_pos h, if_pos (by omega), h2 m h]; grind
  rw [key n, if_pos hk]
theorem low_arith {N E M p K : Rat} (hM : 1 ≤ M) (hE : 2088 * (N * E) ≤ 1 / 2) (h : M ≤ 2088 * (N * (E * M) + p)) : 1 / 2 ≤ 2088 * p := by
  have q := Rat.mul_nonneg (show 0 ≤ 1 / 2 - 2088 * (N * E) by grind) (show 0 ≤ M by grind)
  have e : 2088 * (N * (E * M)) = 2088 * (N * E) * M := by grind
  grind
/-- No pivot is nearly nothing. -/
theorem pivot_low {n k : Nat} {R : Nat → Nat → Rat} {G a : Nat → Nat → Rat} {E p : Rat} (h1 : 1 ≤ n) (h4 : n ≤ 4) (hR : Chn n R) (hG : ∀ r, r < n → ∃ i, i < n ∧ ∀ j, j < n → G i j = aRow n R r j) (hC : Cert n k G a E) (hk : k < n)
    (hp : ∀ t, t < k → wv k a t t ≠ 0) (E0 : 0 ≤ E) (hE : 2088 * ((n : Rat) * E) ≤ 1 / 2) (hq : ∀ i, k ≤ i → i < n → a i k ≤ p ∧ -a i k ≤ p) (p0 : 0 ≤ p) : 1 / 2 ≤ 2088 * p := by
  obtain ⟨x, x1, x2, x3⟩ := back_x hk hp k (Nat.le_refl _)
  obtain ⟨i0, M, hi0, hM, hj⟩ := max_x x n h1
  have M1 : 1 ≤ M := by have := (hj k hk).1; rw [x1] at this; exact this
  have n0 : (0 : Rat) ≤ (n : Rat) := Rat.natCast_nonneg
  have EM := Rat.mul_nonneg n0 (Rat.mul_nonneg E0 (show 0 ≤ M by grind))
  have hdot : ∀ r, r < n → dotS n (aRow n R r) x ≤ (n : Rat) * (E * M) + p ∧ -dotS n (aRow n R r) x ≤ (n : Rat) * (E * M) + p := by
    intro r hr
    obtain ⟨i, hi, hg⟩ := hG r hr
    obtain ⟨l, hl⟩ := hC i hi
    have e1 : dotS n (aRow n R r) x = dotS n (G i) x := sumT_congr n (fun j hj => by rw [hg j hj])
    obtain ⟨a1, a2⟩ := dot_near (x := x) n hl hj
    have e2 : dotS n (fun j => sumT (fun t => l t * wv k a t j) (min i k) + wv k a i j) x = dotS n (wv k a i) x := by
      rw [dot_add n (fun j => sumT (fun t => l t * wv k a t j) (min i k)) (wv k a i) x, dot_sum]
      have : sumT (fun t => l t * dotS n (wv k a t) x) (min i k) = sumT (fun _ => 0) (min i k) := sumT_congr _ (fun t ht => by rw [x3 t (by omega) (by omega)]; grind)
      rw [this, sumT_zero]; grind
    have e3 : dotS n (wv k a i) x ≤ p ∧ -dotS n (wv k a i) x ≤ p := by
      rcases Nat.lt_or_ge i k with h | h
      · rw [x3 i (by omega) h]; constructor <;> grind
      · have e4 : dotS n (wv k a i) x = wv k a i k := dot_last (fun j hj => by unfold wv; rw [if_pos (by omega)]) x1 x2 hk
        have e5 : wv k a i k = a i k := by unfold wv; rw [if_neg (by omega)]
        rw [e4, e5]
        exact hq i h hi
    rw [e1]
    rw [e2] at a1 a2
    constructor <;> grind
  obtain ⟨b1, b2⟩ := inv_all h1 h4 hR (η := (n : Rat) * (E * M) + p) (by grind) hdot i0 hi0
  exact low_arith M1 hE (K := 0) (by rcases hM with h | h <;> rw [← h] <;> first | (rw [h]; rw [h] at b1; exact b1) | (rw [h]; rw [h] at b2; exact b2))
end Go.Proofs.YtjmpldcnhjgpkaaGreatDoor
