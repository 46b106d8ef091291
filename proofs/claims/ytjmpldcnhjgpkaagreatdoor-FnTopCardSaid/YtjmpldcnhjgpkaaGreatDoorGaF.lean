/-
  The mean of fourth powers by the square of the mean of squares is at least 1, nearly.
-/
import Derived.Test.YtjmpldcnhjgpkaaGreatDoorFourP
import Derived.Test.YtjmpldcnhjgpkaaGreatDoorSrc
namespace Go.Proofs.YtjmpldcnhjgpkaaGreatDoor
open Go.RowKit Mem Fl
set_option linter.unusedVariables false
set_option maxRecDepth 100000

theorem e20 : p2 (-150) ≤ 1 / 100000000000000000000 := by decide +kernel
theorem e20n : 0 ≤ p2 (-150) := p2_nn _
theorem big12 : (1000000000000 : Rat) ≤ big .f32 := by decide +kernel
theorem lp32 : FloatKind.f32.format.leastPlace - 1 = -150 := by decide +kernel
/-- A small multiple of a power of 2. -/
def Gr (e : Int) (B : Nat) (x : Nat) : Prop := fin .f32 x = true ∧ ∃ z : Int, z.natAbs ≤ B ∧ fv .f32 x = (z : Rat) * p2 e
theorem z_abs {z : Int} {B : Nat} (h : z.natAbs ≤ B) : (z : Rat) ≤ (B : Rat) ∧ -(z : Rat) ≤ (B : Rat) := by
  have h1 : z ≤ (B : Int) := by omega
  have h2 : -z ≤ (B : Int) := by omega
  have e1 := Rat.intCast_le_intCast.2 h1
  have e2 := Rat.intCast_le_intCast.2 h2
  rw [Rat.intCast_natCast] at e1 e2
  rw [Rat.intCast_neg] at e2
  exact ⟨e1, e2⟩
theorem gr_big {e : Int} (he : e ≤ 0) {z : Int} {B : Nat} (hB : B < 16777216) (h : z.natAbs ≤ B) : (z : Rat) * p2 e ≤ 16777216 ∧ -((z : Rat) * p2 e) ≤ 16777216 := by
  obtain ⟨a, b⟩ := z_abs h
  have hp := p2_nn e
  have h1 : p2 e ≤ 1 := by have := p2_le he; rwa [p2_zero] at this
  have hb : (B : Rat) ≤ 16777216 := by have := nat_le.2 (Nat.le_of_lt hB); exact this
  have p1 := Rat.mul_nonneg (show 0 ≤ 16777216 - (z : Rat) by grind) hp
  have p2' := Rat.mul_nonneg (show 0 ≤ 16777216 + (z : Rat) by grind) hp
  constructor <;> grind
theorem fb32 : FloatKind.f32.format.fractionBits + 1 = 24 := by decide +kernel
theorem big24 : (16777216 : Rat) ≤ big .f32 := by decide +kernel
theorem gr_add {e : Int} (he : e ≤ 0) (hl : FloatKind.f32.format.leastPlace ≤ e) {A B x y : Nat} (hx : Gr e A x) (hy : Gr e B y) (hAB : A + B < 16777216) : Gr e (A + B) (fb .add .f32 x y) ∧ fv .f32 (fb .add .f32 x y) = fv .f32 x + fv .f32 y := by
  obtain ⟨fx, z, hz, vx⟩ := hx
  obtain ⟨fy, t, ht, vy⟩ := hy
  have hs : fv .f32 x + fv .f32 y = ((z + t : Int) : Rat) * p2 e := by rw [vx, vy, Rat.intCast_add, Rat.add_mul]
  have hzt : (z + t).natAbs ≤ A + B := by omega
  obtain ⟨b1, b2⟩ := gr_big he hAB hzt
  have hb := big24
  have c1 : fv .f32 x + fv .f32 y ≤ big .f32 := by rw [hs]; exact Rat.le_trans b1 hb
  have c2 : -(fv .f32 x + fv .f32 y) ≤ big .f32 := by rw [hs]; exact Rat.le_trans b2 hb
  have ex := re_add_exact fx fy c1 c2 hs (by rw [fb32]; omega) hl
  exact ⟨⟨(re_add fx fy c1 c2).1, z + t, hzt, by rw [ex, hs]⟩, ex⟩
theorem gr_sum {e : Int} (he : e ≤ 0) (hl : FloatKind.f32.format.leastPlace ≤ e) {B : Nat} : ∀ (l : List Nat) (s A : Nat), (∀ x ∈ l, Gr e B x) → Gr e A s → A + l.length * B < 16777216 →
    Gr e (A + l.length * B) (l.foldl (fb .add .f32) s) ∧ fv .f32 (l.foldl (fb .add .f32) s) = fv .f32 s + sumV l
  | [], s, A, _, hs, _ => by
    simp only [List.foldl_nil, List.length_nil, Nat.zero_mul, Nat.add_zero, sumV]
    exact ⟨hs, by grind⟩
  | x :: r, s, A, hl2, hs, hb => by
    have hr : A + B + r.length * B = A + (x :: r).length * B := by rw [List.length_cons, Nat.add_mul]; omega
    obtain ⟨g1, g2⟩ := gr_add he hl hs (hl2 x (List.mem_cons_self ..)) (by omega)
    obtain ⟨h1, h2⟩ := gr_sum he hl r (fb .add .f32 s x) (A + B) (fun y hy => hl2 y (List.mem_cons_of_mem _ hy)) g1 (by omega)
    simp only [List.foldl_cons, sumV]
    rw [hr] at h1
    exact ⟨h1, by rw [h2, g2]; grind⟩
theorem gr_zero (e : Int) : Gr e 0 0 := ⟨by decide +kernel, 0, by decide, by rw [fv_zero]; simp⟩
theorem gr_fsum {e : Int} (he : e ≤ 0) (hl : FloatKind.f32.format.leastPlace ≤ e) {B : Nat} {l : List Nat} (h : ∀ x ∈ l, Gr e B x) (hb : l.length * B < 16777216) : Gr e (l.length * B) (fsum l) ∧ fv .f32 (fsum l) = sumV l := by
  obtain ⟨h1, h2⟩ := gr_sum he hl l 0 0 h (gr_zero e) (by omega)
  rw [Nat.zero_add] at h1
  exact ⟨h1, by show fv .f32 (l.foldl (fb .add .f32) 0) = _; rw [h2, fv_zero, Rat.zero_add]⟩
theorem qF_tab : ∀ k : Nat, k < 33 → fin .f32 (qF k) = true ∧ fv .f32 (qF k) = (((k : Int) - 16 : Int) : Rat) * p2 (-2) ∧ fin .f32 (fb .mul .f32 (qF k) (qF k)) = true ∧ fv .f32 (fb .mul .f32 (qF k) (qF k)) = fv .f32 (qF k) * fv .f32 (qF k) ∧ fin .f32 (Op.negFloat .f32 (qF k)) = true ∧ fv .f32 (Op.negFloat .f32 (qF k)) = -fv .f32 (qF k) := by decide +kernel
theorem lp2 : FloatKind.f32.format.leastPlace ≤ -2 := by decide +kernel
theorem lp4 : FloatKind.f32.format.leastPlace ≤ -4 := by decide +kernel
theorem qF_gr {x : Nat} (h : ∃ k, k < 33 ∧ x = qF k) : Gr (-2) 16 x ∧ Gr (-4) 256 (fb .mul .f32 x x) ∧ fv .f32 (fb .mul .f32 x x) = fv .f32 x * fv .f32 x ∧ fv .f32 x ≤ 4 ∧ -fv .f32 x ≤ 4 := by
  obtain ⟨k, hk, rfl⟩ := h
  obtain ⟨h1, h2, h3, h4, _⟩ := qF_tab k hk
  have hz : ((k : Int) - 16).natAbs ≤ 16 := by omega
  have e2 : p2 (-2) = 1 / 4 := by decide +kernel
  have e4 : p2 (-4) = p2 (-2) * p2 (-2) := by decide +kernel
  obtain ⟨a, b⟩ := z_abs hz
  have e16 : ((16 : Nat) : Rat) = 16 := rfl
  rw [e16] at a b
  refine ⟨⟨h1, _, hz, h2⟩, ⟨h3, ((k : Int) - 16) * ((k : Int) - 16), ?_, ?_⟩, h4, ?_, ?_⟩
  · rw [Int.natAbs_mul]; exact Nat.mul_le_mul hz hz
  · rw [h4, h2, Rat.intCast_mul, e4]; grind
  · rw [h2, e2]; grind
  · rw [h2, e2]; grind
/-- The signals that the laws draw. -/
structure Sg (xs : List Nat) : Prop where
  of : Of qF 33 xs
  l1 : 1 ≤ xs.length
  l2 : xs.length ≤ 21
theorem Sg.at_ {xs : List Nat} (h : Sg xs) {x : Nat} (hx : x ∈ xs) : ∃ k, k < 33 ∧ x = qF k := h.of x hx
theorem mem_sqs {xs : List Nat} {y : Nat} (h : y ∈ sqs xs) : ∃ x ∈ xs, y = fb .mul .f32 x x := by
  unfold sqs at h
  obtain ⟨x, hx, rfl⟩ := List.mem_map.1 h
  exact ⟨x, hx, rfl⟩
/-- The sum of squares. -/
def sqV : List Nat → Rat
  | [] => 0
  | x :: r => fv .f32 x * fv .f32 x + sqV r
theorem sqV_sqs : ∀ {xs : List Nat}, (∀ x ∈ xs, ∃ k, k < 33 ∧ x = qF k) → sumV (sqs xs) = sqV xs
  | [], _ => rfl
  | x :: r, h => by
    have h1 := (qF_gr (h x (List.mem_cons_self ..))).2.2.1
    have h2 := sqV_sqs (xs := r) (fun y hy => h y (List.mem_cons_of_mem _ hy))
    have : sumV (sqs (x :: r)) = fv .f32 (fb .mul .f32 x x) + sumV (sqs r) := rfl
    rw [this, h1, h2]; rfl
theorem sqV_nn : ∀ xs : List Nat, 0 ≤ sqV xs
  | [] => Rat.le_refl
  | x :: r => by
    have h1 := sqV_nn r
    have h2 : 0 ≤ fv .f32 x * fv .f32 x := by
      rcases Rat.le_total (a := 0) (b := fv .f32 x) with h | h
      · exact Rat.mul_nonneg h h
      · have := Rat.mul_nonneg (show 0 ≤ -fv .f32 x by grind) (show 0 ≤ -fv .f32 x by grind)
        grind
    simp only [sqV]; grind
theorem sqV_le {B : Rat} : ∀ {xs : List Nat}, (∀ x ∈ xs, fv .f32 x ≤ B ∧ -fv .f32 x ≤ B) → sqV xs ≤ xs.length * (B * B)
  | [], _ => by simp [sqV]
  | x :: r, h => by
    obtain ⟨a, b⟩ := h x (List.mem_cons_self ..)
    have h1 := sqV_le (xs := r) (fun y hy => h y (List.mem_cons_of_mem _ hy))
    have h2 := Rat.mul_nonneg (show 0 ≤ B - fv .f32 x by grind) (show 0 ≤ B + fv .f32 x by grind)
    have ek : (((x :: r).length : Nat) : Rat) = (r.length : Rat) + 1 := by rw [List.length_cons, Rat.natCast_add]; rfl
    rw [ek]
    simp only [sqV]; grind
theorem n_fin {n : Nat} (h : n ≤ 100) : fin .f32 (floatOfInt .f32 (n : Int)) = true ∧ fv .f32 (floatOfInt .f32 (n : Int)) = (n : Rat) := by
  have := re_int (k := .f32) (n := (n : Int)) (by rw [fb32]; omega)
  rwa [Rat.intCast_natCast] at this
end Go.Proofs.YtjmpldcnhjgpkaaGreatDoor
namespace Go.Proofs.YtjmpldcnhjgpkaaGreatDoor
open Go.RowKit Mem Fl
set_option linter.unusedVariables false
set_option maxRecDepth 100000

/-- How far two numbers are apart, at most. -/
def Near (a b e : Rat) : Prop := a - b ≤ e ∧ b - a ≤ e
/-- A quotient by a count. -/
theorem quo_n {x n : Nat} (hx : fin .f32 x = true) (h1 : 1 ≤ n) (h2 : n ≤ 100) {M : Rat} (hM : fv .f32 x ≤ M * n) (hM2 : -fv .f32 x ≤ M * n) (hM3 : M ≤ 100000000) :
    fin .f32 (fb .quo .f32 x (floatOfInt .f32 (n : Int))) = true ∧ ∃ v : Rat, v * n = fv .f32 x ∧ v ≤ M ∧ -v ≤ M ∧ Near (fv .f32 (fb .quo .f32 x (floatOfInt .f32 (n : Int)))) v (2 / 16777216 * M + p2 (-150)) := by
  obtain ⟨fn, vn⟩ := n_fin h2
  have hn : (0 : Rat) < (n : Rat) := by have := (Rat.natCast_lt_natCast (a := 0) (b := n)).2 (by omega); simpa using this
  have hv : fv .f32 x / (n : Rat) * (n : Rat) = fv .f32 x := Rat.div_mul_cancel (Rat.ne_of_gt hn)
  have v1 : fv .f32 x / (n : Rat) ≤ M := Rat.le_of_mul_le_mul_right (c := (n : Rat)) (by rw [hv]; exact hM) hn
  have v2 : -(fv .f32 x / (n : Rat)) ≤ M := Rat.le_of_mul_le_mul_right (c := (n : Rat)) (by rw [Rat.neg_mul, hv]; exact hM2) hn
  have hb := big12
  obtain ⟨a, b⟩ := re_quo hx fn (by rw [vn]; exact Rat.ne_of_gt hn) (by rw [vn]; grind) (by rw [vn]; grind)
  have h := b M (by rw [vn]; exact v1) (by rw [vn]; exact v2)
  rw [uu32, lp32, vn] at h
  refine ⟨a, _, hv, v1, v2, ?_, ?_⟩ <;> grind
theorem sq_mono {a b : Rat} (h0 : 0 ≤ b) (h : a * a ≤ b * b) : a ≤ b := by
  rcases Rat.le_total (a := a) (b := b) with h1 | h1
  · exact h1
  · have h2 := sq_le h0 h1
    have h3 : a * a = b * b := Rat.le_antisymm h h2
    have h4 : (a - b) * (a + b) = 0 := by grind
    rcases Rat.mul_eq_zero.1 h4 with h5 | h5
    · grind
    · grind
/-- What is not negative is narrowed to what is not negative. -/
theorem nar_nn {x : Nat} (hx : fin .f64 x = true) (h0 : 0 ≤ fv .f64 x) (h1 : fv .f64 x ≤ big .f32) : 0 ≤ fv .f32 (nar x) := by
  obtain ⟨s, m, i, rx, li, lm⟩ := fin_read hx
  have hd : FloatKind.f64.decode x = .number s m i := rx
  rw [fv_num rx] at *
  have hb : 0 ≤ big .f32 := p2_nn _
  have hn : (m : Rat) * p2 i ≤ big .f32 := by
    have hp : 0 ≤ (m : Rat) * p2 i := Rat.mul_nonneg Rat.natCast_nonneg (p2_nn i)
    rcases sg_cases s with h | h <;> rw [h] at h0 h1 <;> grind
  have hr := rung_big hn
  have hcv : cvBits .f64 .f32 x = some (FloatKind.f32.format.nearest s m i) := by
    have : (FloatKind.f32.decode (FloatKind.f32.encode (.number s m i))).isInfinity = false := by
      show (FloatKind.f32.decode (FloatKind.f32.format.nearest s m i)).isInfinity = false
      rw [nearest_rung, Nat.min_eq_left (by omega)]
      exact word_inf_false hr
    simp [cvBits, hd, this]
    rfl
  have hnar : nar x = cn .f32 (FloatKind.f32.format.nearest s m i) := by unfold nar; rw [hcv]; rfl
  rw [hnar]
  exact write_nn h0 h1
theorem sg_pos {s : Bool} {m : Nat} {i : Int} (hm : m ≠ 0) (h : 0 ≤ sg s * ((m : Rat) * p2 i)) : s = false := by
  cases s
  · rfl
  · exfalso
    have h1 : sg true = -1 := by simp [sg]
    have h2 : (0 : Rat) < (m : Rat) := by have := (Rat.natCast_lt_natCast (a := 0) (b := m)).2 (by omega); simpa using this
    have h3 := Rat.mul_pos h2 (p2_pos i)
    rw [h1] at h
    grind
/-- A quotient of what is not negative by what is above 0. -/
theorem quo_nn {k : FloatKind} {x y : Nat} (hx : fin k x = true) (hy : fin k y = true) (h0 : 0 ≤ fv k x) (h1 : 0 < fv k y) (hf : fin k (fb .quo k x y) = true) : 0 ≤ fv k (fb .quo k x y) := by
  obtain ⟨s, m, i, rx, li, _⟩ := fin_read hx
  obtain ⟨t, n, j, ry, lj, _⟩ := fin_read hy
  rw [fv_num rx] at h0
  rw [fv_num ry] at h1
  have hn : n ≠ 0 := by
    intro e; rw [e] at h1; simp at h1
  rw [fb_quo_eq rx ry hn] at hf ⊢
  have ht := sg_pos hn (Rat.le_of_lt h1)
  by_cases hm : m = 0
  · subst hm
    have hz : (2 * ((0 <<< (k.format.fractionBits + 2 + n.log2 - Nat.log2 0)) / n) + ((0 <<< (k.format.fractionBits + 2 + n.log2 - Nat.log2 0)) % n != 0).toNat) = 0 := by simp
    rw [hz, nearest_zero]
    have hi : 0 < k.format.infRung := by cases k <;> decide +kernel
    rw [(word_fin (s := s ^^ t) hi).2]
    have : magOf k.format 0 = 0 := by unfold magOf; rw [if_pos (binade_pos _)]
    rw [this]
    simp
  · have hs := sg_pos hm h0
    subst hs; subst ht
    generalize (2 * ((m <<< (k.format.fractionBits + 2 + n.log2 - m.log2)) / n) + ((m <<< (k.format.fractionBits + 2 + n.log2 - m.log2)) % n != 0).toNat) = N at *
    generalize i - j - ((k.format.fractionBits + 2 + n.log2 - m.log2 : Nat) : Int) - 1 = P at *
    have e : (false ^^ false) = false := rfl
    rw [e, nearest_rung] at hf ⊢
    rcases Nat.lt_or_ge (rungOf k.format N P) k.format.infRung with h | h
    · rw [Nat.min_eq_left (by omega), (word_fin (s := false) h).2]
      have h1 : sg false = 1 := by simp [sg]
      rw [h1, Rat.one_mul]
      exact Rat.mul_nonneg Rat.natCast_nonneg (p2_nn _)
    · rw [Nat.min_eq_right h] at hf
      have hi : fin k (cn k (k.format.word false k.format.infRung)) = false := by cases k <;> decide +kernel
      rw [hi] at hf
      cases hf
/-- A root, in numbers. -/
theorem root_near {q : Nat} (hq : fin .f32 q = true) (h0 : 0 ≤ fv .f32 q) (h1 : fv .f32 q ≤ 100) : fin .f32 (rootOf q) = true ∧ 0 ≤ fv .f32 (rootOf q) ∧ Near (fv .f32 (rootOf q) * fv .f32 (rootOf q)) (fv .f32 q) (1 / 50000) ∧ fv .f32 (rootOf q) ≤ 11 := by
  obtain ⟨w1, w2⟩ := re_wide hq
  have hp : (100 : Rat) ≤ p2 1000 := by decide +kernel
  obtain ⟨s1, s2, s3, s4⟩ := re_sq w1 (by rw [w2]; exact h0) (by rw [w2]; exact Rat.le_trans h1 hp)
  rw [w2] at s3 s4
  have hd := p2m51
  rw [hd] at s3 s4
  obtain ⟨s, hs⟩ : ∃ s, fv .f64 (sq (wide q)) = s := ⟨_, rfl⟩
  obtain ⟨v, hv⟩ : ∃ v, fv .f32 q = v := ⟨_, rfl⟩
  rw [hs] at s2 s3 s4
  rw [hv] at s3 s4 h0 h1 ⊢
  have sb : s ≤ 10 + 1 / 1000 := sq_mono (by grind) (by
    have : s * s ≤ 100 + 1 / 100 := by
      have := Rat.mul_nonneg s2 s2
      grind
    grind)
  have hb := big12
  obtain ⟨_, n1, n2⟩ := re_nar s1 (by rw [hs]; grind) (by rw [hs]; grind)
  have n3 := n2 s (by rw [hs]; exact Rat.le_refl) (by rw [hs]; grind)
  rw [uu32, hs] at n3
  have he := e20
  have hroot : rootOf q = nar (sq (wide q)) := rfl
  rw [hroot]
  obtain ⟨r, hr⟩ : ∃ r, fv .f32 (nar (sq (wide q))) = r := ⟨_, rfl⟩
  rw [hr] at n3 ⊢
  have rn : 0 ≤ r := by
    rw [← hr]
    have := s1
    exact nar_nn s1 (by rw [hs]; exact s2) (by rw [hs]; grind)
  have r1 : r - s ≤ 1 / 1500000 := by grind
  have r2 : s - r ≤ 1 / 1500000 := by grind
  refine ⟨n1, rn, ?_, by grind⟩
  have t1 := Rat.mul_nonneg (show 0 ≤ 1 / 1500000 - (r - s) by grind) (show 0 ≤ r + s by grind)
  have t2 := Rat.mul_nonneg (show 0 ≤ 1 / 1500000 - (s - r) by grind) (show 0 ≤ r + s by grind)
  have t3 : s * s ≤ 101 := by have := sq_le s2 sb; grind
  have e1 : (r - s) * (r + s) = r * r - s * s := by grind
  constructor <;> grind
theorem natpos {n : Nat} (h : 1 ≤ n) : (1 : Rat) ≤ (n : Rat) := by have := nat_le.2 h; simpa using this
theorem nat_21 {n : Nat} (h : n ≤ 21) : (n : Rat) ≤ 21 := by have := nat_le.2 h; exact this
/-- The root power of a signal. -/
theorem rp_told {xs : List Nat} (h : Sg xs) : rpOk xs = true ∧ ∃ v : Rat, v * xs.length = sqV xs ∧ 0 ≤ v ∧ v ≤ 16 ∧ fin .f32 (rpR xs) = true ∧ 0 ≤ fv .f32 (rpR xs) ∧ Near (fv .f32 (rpR xs) * fv .f32 (rpR xs)) v (1 / 40000) ∧ fv .f32 (rpR xs) ≤ 11 := by
  have hg : ∀ y ∈ sqs xs, Gr (-4) 256 y := fun y hy => by
    obtain ⟨x, hx, rfl⟩ := mem_sqs hy
    exact (qF_gr (h.at_ hx)).2.1
  have hl : (sqs xs).length = xs.length := sqs_len xs
  have l1 := h.l1
  have l2 := h.l2
  obtain ⟨g1, g2⟩ := gr_fsum (by decide) lp4 hg (by rw [hl]; omega)
  rw [sqV_sqs (fun x hx => h.at_ hx)] at g2
  have n1 := natpos l1
  have n2 := nat_21 l2
  have s0 := sqV_nn xs
  have s1 : sqV xs ≤ 16 * (xs.length : Rat) := by
    have := sqV_le (B := 4) (xs := xs) (fun x hx => (qF_gr (h.at_ hx)).2.2.2)
    grind
  obtain ⟨q1, v, hv, v1, v2, v3⟩ := quo_n (n := xs.length) g1.1 l1 (by omega) (M := 16) (by rw [g2]; exact s1) (by rw [g2]; grind) (by grind)
  rw [g2] at hv
  have hnp : (0 : Rat) < (xs.length : Rat) := by grind
  have v0 : 0 ≤ v := Rat.le_of_mul_le_mul_right (c := (xs.length : Rat)) (by rw [hv]; grind) hnp
  obtain ⟨fn, vn⟩ := n_fin (n := xs.length) (by omega)
  have hq0 := quo_nn g1.1 fn (by rw [g2]; exact s0) (by rw [vn]; exact hnp) q1
  have hm : fmean (sqs xs) = fb .quo .f32 (fsum (sqs xs)) (floatOfInt .f32 (xs.length : Int)) := by unfold fmean; rw [hl]
  rw [← hm] at q1 v3 hq0
  have he := e20
  obtain ⟨r1, r2, r3, r4⟩ := root_near q1 hq0 (by have := v3.1; grind)
  have hsig : isSig xs = true := by
    unfold isSig
    simp only [Bool.and_eq_true, decide_eq_true_eq, List.all_eq_true]
    exact ⟨⟨l1, by omega⟩, fun x hx => (qF_gr (h.at_ hx)).1.1⟩
  have hok : rpOk xs = true := by unfold rpOk; rw [hsig, r1]; rfl
  refine ⟨hok, v, hv, v0, v1, ?_⟩
  unfold rpR
  rw [if_pos hok]
  obtain ⟨a, b⟩ := v3
  obtain ⟨c, d⟩ := r3
  exact ⟨r1, r2, ⟨by grind, by grind⟩, r4⟩
end Go.Proofs.YtjmpldcnhjgpkaaGreatDoor
namespace Go.Proofs.YtjmpldcnhjgpkaaGreatDoor
open Go.RowKit Mem Fl
set_option linter.unusedVariables false
set_option maxRecDepth 100000

theorem f0' : fin .f32 0 = true ∧ fv .f32 0 = 0 := by decide +kernel
theorem mm_val {x y : Nat} (hx : fin .f32 x = true) (hy : fin .f32 y = true) : fin .f32 (mm true .f32 x y) = true ∧ fv .f32 x ≤ fv .f32 (mm true .f32 x y) ∧ fv .f32 y ≤ fv .f32 (mm true .f32 x y) ∧ (fv .f32 (mm true .f32 x y) = fv .f32 x ∨ fv .f32 (mm true .f32 x y) = fv .f32 y) := by
  have k1 : ∀ z, fin .f32 z = true → cn .f32 z = z := fun z hz => by
    have : isNan .f32 z = false := by
      cases h : isNan .f32 z
      · rfl
      · rw [← fin_cn, cn_nan h] at hz; exact absurd hz (by decide +kernel)
    exact cn_num this
  unfold mm mmBits
  rw [re_order hx hy]
  by_cases h1 : fv .f32 x < fv .f32 y
  · rw [if_pos h1]
    simp only [Option.getD_some, if_true]
    rw [k1 y hy]
    exact ⟨hy, Rat.le_of_lt h1, Rat.le_refl, .inr rfl⟩
  · rw [if_neg h1]
    have h2 := Rat.not_lt.1 h1
    by_cases h3 : fv .f32 x = fv .f32 y
    · rw [if_pos h3]
      simp only [Option.getD_some]
      split
      · rw [k1 y hy]; exact ⟨hy, by rw [h3]; exact Rat.le_refl, Rat.le_refl, .inr rfl⟩
      · rw [k1 x hx]; exact ⟨hx, Rat.le_refl, h2, .inl rfl⟩
    · rw [if_neg h3]
      simp only [Option.getD_some, if_true]
      rw [k1 x hx]
      exact ⟨hx, Rat.le_refl, h2, .inl rfl⟩
theorem peak_all : ∀ (l : List Nat) (p : Nat), (∀ x ∈ l, ∃ k, k < 33 ∧ x = qF k) → fin .f32 p = true → fv .f32 p ≤ 4 →
    let r := l.foldl (fun p x => mm true .f32 p (mm true .f32 x (Op.negFloat .f32 x))) p
    fin .f32 r = true ∧ fv .f32 p ≤ fv .f32 r ∧ fv .f32 r ≤ 4 ∧ ∀ x ∈ l, fv .f32 x ≤ fv .f32 r ∧ -fv .f32 x ≤ fv .f32 r
  | [], p, _, hp, h4 => ⟨hp, Rat.le_refl, h4, fun x hx => by cases hx⟩
  | x :: l, p, h, hp, h4 => by
    obtain ⟨k, hk, rfl⟩ := h x (List.mem_cons_self ..)
    obtain ⟨t1, t2, _, _, t5, t6⟩ := qF_tab k hk
    obtain ⟨_, _, _, b1, b2⟩ := qF_gr ⟨k, hk, rfl⟩
    obtain ⟨m1, m2, m3, m4⟩ := mm_val t1 t5
    obtain ⟨n1, n2, n3, n4⟩ := mm_val hp m1
    rw [t6] at m3 m4
    have hb : fv .f32 (mm true .f32 p (mm true .f32 (qF k) (Op.negFloat .f32 (qF k)))) ≤ 4 := by
      rcases n4 with h | h <;> rw [h]
      · exact h4
      · rcases m4 with h | h <;> rw [h]
        · exact b1
        · exact b2
    obtain ⟨r1, r2, r3, r4⟩ := peak_all l _ (fun y hy => h y (List.mem_cons_of_mem _ hy)) n1 hb
    refine ⟨r1, Rat.le_trans n2 r2, r3, fun y hy => ?_⟩
    rcases List.mem_cons.1 hy with rfl | hy
    · exact ⟨Rat.le_trans m2 (Rat.le_trans n3 r2), Rat.le_trans m3 (Rat.le_trans n3 r2)⟩
    · exact r4 y hy
theorem sqV_ge {x : Nat} : ∀ {xs : List Nat}, x ∈ xs → fv .f32 x * fv .f32 x ≤ sqV xs
  | y :: r, h => by
    have h0 := sqV_nn r
    rcases List.mem_cons.1 h with rfl | h
    · simp only [sqV]; grind
    · have := sqV_ge h
      have h1 := sqV_nn [y]
      simp only [sqV] at h1 ⊢
      grind
theorem qF_zero {k : Nat} (hk : k < 33) (h : k ≠ 16) : 1 / 16 ≤ fv .f32 (qF k) * fv .f32 (qF k) ∧ (1 / 4 ≤ fv .f32 (qF k) ∨ 1 / 4 ≤ -fv .f32 (qF k)) := by
  have : ∀ k : Nat, k < 33 → k ≠ 16 → 1 / 16 ≤ fv .f32 (qF k) * fv .f32 (qF k) ∧ (1 / 4 ≤ fv .f32 (qF k) ∨ 1 / 4 ≤ -fv .f32 (qF k)) := by decide +kernel
  exact this k hk h
theorem still_tab : ∀ n : Nat, n < 22 → prTop (List.replicate n (qF 16)) = false := by decide +kernel
theorem peak_arith {p r v s : Rat} (hp : 1 / 4 ≤ p) (hr : 0 ≤ r) (h1 : r * r ≤ v + 1 / 40000) (h2 : v ≤ p * p) : r ≤ p * (1 + 1 / 4000) := by
  refine sq_mono (by grind) ?_
  have h3 := sq_le (a := 1 / 4) (b := p) (by grind) hp
  have h4 := Rat.mul_nonneg (show 0 ≤ p by grind) (show 0 ≤ p by grind)
  grind
/-- The greatest absolute value by the root power. -/
theorem pr_told {xs : List Nat} (h : Sg xs) (ho : prOk xs = true) : fin .f32 (prR xs) = true ∧ 9991 / 10000 ≤ fv .f32 (prR xs) := by
  have hR : prR xs = prVal xs := by unfold prR; rw [if_pos ho]
  have ho2 := ho
  unfold prOk at ho2
  rw [Bool.and_eq_true] at ho2
  obtain ⟨ht, hf⟩ := ho2
  rw [hR]
  refine ⟨hf, ?_⟩
  by_cases ha : ∀ x ∈ xs, x = qF 16
  · exfalso
    have := List.eq_replicate_iff.2 ⟨rfl, ha⟩
    rw [this, still_tab _ (by have := h.l2; omega)] at ht
    cases ht
  · have ha : ∃ x ∈ xs, x ≠ qF 16 := by
      by_cases hh : ∃ x ∈ xs, x ≠ qF 16
      · exact hh
      · exact absurd (fun x hx => by
          by_cases e : x = qF 16
          · exact e
          · exact absurd ⟨x, hx, e⟩ hh) ha
    obtain ⟨x, hx, hne⟩ := ha
    obtain ⟨k, hk, rfl⟩ := h.at_ hx
    have hk16 : k ≠ 16 := fun e => hne (by rw [e])
    obtain ⟨z1, z2⟩ := qF_zero hk hk16
    obtain ⟨_, v, hv, v0, v1, r1, r2, r3, r4⟩ := rp_told h
    obtain ⟨p1, p2', p3, p4⟩ := peak_all xs 0 (fun x hx => h.at_ hx) f0'.1 (by rw [f0'.2]; decide)
    have hpk : peakTo xs = xs.foldl (fun p x => mm true .f32 p (mm true .f32 x (Op.negFloat .f32 x))) 0 := rfl
    rw [← hpk] at p1 p2' p3 p4
    have hp : 1 / 4 ≤ fv .f32 (peakTo xs) := by
      obtain ⟨a, b⟩ := p4 _ hx
      rcases z2 with z | z <;> grind
    have n1 := natpos h.l1
    have n2 := nat_21 h.l2
    have s1 := sqV_le (B := fv .f32 (peakTo xs)) p4
    have s2 := sqV_ge hx
    have hnp : (0 : Rat) < (xs.length : Rat) := by grind
    have vp : v ≤ fv .f32 (peakTo xs) * fv .f32 (peakTo xs) := Rat.le_of_mul_le_mul_right (c := (xs.length : Rat)) (by rw [hv]; grind) hnp
    have vl : 1 / 400 ≤ v := Rat.le_of_mul_le_mul_right (c := (xs.length : Rat)) (by rw [hv]; grind) hnp
    have hr := peak_arith (s := 0) hp r2 (by have := r3.1; grind) vp
    have rl : 1 / 25 ≤ fv .f32 (rpR xs) := sq_mono r2 (by have := r3.2; grind)
    have rp : 0 < fv .f32 (rpR xs) := by grind
    obtain ⟨P, hP⟩ : ∃ P, fv .f32 (peakTo xs) = P := ⟨_, rfl⟩
    obtain ⟨R, hRR⟩ : ∃ R, fv .f32 (rpR xs) = R := ⟨_, rfl⟩
    have hq : P / R * R = P := Rat.div_mul_cancel (by rw [← hRR]; exact Rat.ne_of_gt rp)
    rw [hP] at p3 hp hr
    rw [hRR] at rl rp hr
    have u1 : P / R ≤ 100 := Rat.le_of_mul_le_mul_right (c := R) (by rw [hq]; grind) rp
    have u2 : 9997 / 10000 ≤ P / R := Rat.le_of_mul_le_mul_right (c := R) (by rw [hq]; grind) rp
    have hb := big12
    obtain ⟨_, b⟩ := re_quo p1 r1 (by rw [hRR]; exact Rat.ne_of_gt rp) (by rw [hP, hRR]; grind) (by rw [hP, hRR]; grind)
    have b1 := (b 100 (by rw [hP, hRR]; grind) (by rw [hP, hRR]; grind)).2
    rw [hP, hRR, uu32, lp32] at b1
    have he := e20
    unfold prVal
    grind
end Go.Proofs.YtjmpldcnhjgpkaaGreatDoor
namespace Go.Proofs.YtjmpldcnhjgpkaaGreatDoor
open Go.RowKit Mem Fl
set_option linter.unusedVariables false
set_option maxRecDepth 100000

theorem sq_of_nn (a : Rat) : 0 ≤ a * a := by
  rcases Rat.le_total (a := 0) (b := a) with h | h
  · exact Rat.mul_nonneg h h
  · have := Rat.mul_nonneg (show 0 ≤ -a by grind) (show 0 ≤ -a by grind)
    grind
/-- The square of a number. -/
theorem sq_pv {x : Nat} (hx : fin .f32 x = true) {M : Rat} (h : fv .f32 x * fv .f32 x ≤ M) (hM : M ≤ 1000000) : Pv (fb .mul .f32 x x) ∧ Near (fv .f32 (fb .mul .f32 x x)) (fv .f32 x * fv .f32 x) (1 / 16777216 * (fv .f32 x * fv .f32 x) + p2 (-150)) := by
  have hp := sq_of_nn (fv .f32 x)
  have hb := big12
  obtain ⟨a, b⟩ := re_mul hx hx (by grind) (by grind)
  have c := b (fv .f32 x * fv .f32 x) Rat.le_refl (by grind)
  rw [uu32, lp32] at c
  refine ⟨⟨a, ?_⟩, c.1, c.2⟩
  obtain ⟨s, m, i, rx, li, _⟩ := fin_read hx
  rw [fb_mul_eq rx rx]
  have hb2 : fv .f32 x * fv .f32 x ≤ big .f32 := by grind
  rw [fv_num rx] at hp hb2
  rw [← prod_val] at hp hb2
  exact write_nn hp hb2
/-- A sum of what is not negative. -/
theorem add_pv {x y : Nat} (hx : Pv x) (hy : Pv y) {M : Rat} (h : fv .f32 x + fv .f32 y ≤ M) (hM : M ≤ 1000000) : Pv (fb .add .f32 x y) ∧ Near (fv .f32 (fb .add .f32 x y)) (fv .f32 x + fv .f32 y) (1 / 16777216 * M) := by
  obtain ⟨fx, px⟩ := hx
  obtain ⟨fy, py⟩ := hy
  have hb := big12
  obtain ⟨a, b⟩ := re_add fx fy (by grind) (by grind)
  have c := b M h (by grind)
  have d := b (fv .f32 x + fv .f32 y) Rat.le_refl (by grind)
  rw [uu32] at c d
  exact ⟨⟨a, by grind⟩, c.1, c.2⟩
theorem fsum_rel {T : Rat} (hT : T ≤ 200000) : ∀ (l : List Nat) (z k : Nat) (P : Rat), AllP l → Pv z → 0 ≤ P → P + sumV l = T → k + l.length ≤ 21 → Near (fv .f32 z) P ((k : Rat) * (2 / 16777216 * T)) →
    Pv (l.foldl (fb .add .f32) z) ∧ Near (fv .f32 (l.foldl (fb .add .f32) z)) T (((k + l.length : Nat) : Rat) * (2 / 16777216 * T))
  | [], z, k, P, _, hz, _, hs, _, hn => by
    simp only [sumV, Rat.add_zero] at hs
    subst hs
    simp only [List.foldl_nil, List.length_nil, Nat.add_zero]
    exact ⟨hz, hn⟩
  | x :: l, z, k, P, hl, hz, h0, hs, hk, hn => by
    have hx := hl x (List.mem_cons_self ..)
    have hl2 : AllP l := fun y hy => hl y (List.mem_cons_of_mem _ hy)
    have hs0 := sumV_nn hl2
    have hx0 := hx.2
    simp only [sumV] at hs
    have hT0 : 0 ≤ T := by grind
    have hk21 : (k : Rat) ≤ 21 := nat_21 (by rw [List.length_cons] at hk; omega)
    have hkT := Rat.mul_le_mul_of_nonneg_right hk21 hT0
    have h1 : fv .f32 z + fv .f32 x ≤ 2 * T := by
      obtain ⟨a, b⟩ := hn
      clear hk21
      grind
    obtain ⟨a1, a2, a3⟩ := add_pv hz hx h1 (by grind)
    have e : (((k + 1 : Nat)) : Rat) = (k : Rat) + 1 := by rw [Rat.natCast_add]; rfl
    have hn2 : Near (fv .f32 (fb .add .f32 z x)) (P + fv .f32 x) (((k + 1 : Nat) : Rat) * (2 / 16777216 * T)) := by
      obtain ⟨a, b⟩ := hn
      rw [e]
      constructor <;> grind
    have := fsum_rel hT l (fb .add .f32 z x) (k + 1) (P + fv .f32 x) hl2 a1 (by grind) (by grind) (by rw [List.length_cons] at hk; omega) hn2
    simp only [List.foldl_cons, List.length_cons]
    rw [show k + (l.length + 1) = k + 1 + l.length by omega]
    exact this
theorem fsum_pv {l : List Nat} (hl : AllP l) (hn : l.length ≤ 21) (hT : sumV l ≤ 200000) : Pv (fsum l) ∧ Near (fv .f32 (fsum l)) (sumV l) (1 / 300000 * sumV l) := by
  obtain ⟨a, b, c⟩ := fsum_rel hT l 0 0 0 hl pv_zero (by decide) (by rw [Rat.zero_add]) (by omega) ⟨by rw [fv_zero]; simp; decide +kernel, by rw [fv_zero]; simp; decide +kernel⟩
  rw [Nat.zero_add] at b c
  have hs := sumV_nn hl
  have h21 := Rat.mul_le_mul_of_nonneg_right (nat_21 hn) hs
  refine ⟨a, ?_, ?_⟩
  · have : fsum l = l.foldl (fb .add .f32) 0 := rfl
    rw [this]; grind
  · have : fsum l = l.foldl (fb .add .f32) 0 := rfl
    rw [this]; grind
/-- A mean of what is not negative. -/
theorem fmean_pv {l : List Nat} (hl : AllP l) (h1 : 1 ≤ l.length) (hn : l.length ≤ 21) (hT : sumV l ≤ 200000) : Pv (fmean l) ∧ ∃ F v : Rat, Near F (sumV l) (1 / 300000 * sumV l) ∧ v * l.length = F ∧ 0 ≤ v ∧ v ≤ 300000 ∧ Near (fv .f32 (fmean l)) v (2 / 16777216 * v + p2 (-150)) := by
  obtain ⟨⟨a, a0⟩, b⟩ := fsum_pv hl hn hT
  have hs := sumV_nn hl
  obtain ⟨fn, vn⟩ := n_fin (n := l.length) (by omega)
  have n1 := natpos h1
  have hnp : (0 : Rat) < (l.length : Rat) := by grind
  have hF : fv .f32 (fsum l) ≤ 300000 := by have := b.1; grind
  have hv : fv .f32 (fsum l) / (l.length : Rat) * (l.length : Rat) = fv .f32 (fsum l) := Rat.div_mul_cancel (Rat.ne_of_gt hnp)
  have v0 : 0 ≤ fv .f32 (fsum l) / (l.length : Rat) := Rat.le_of_mul_le_mul_right (c := (l.length : Rat)) (by rw [hv]; grind) hnp
  have v1 : fv .f32 (fsum l) / (l.length : Rat) ≤ 300000 := Rat.le_of_mul_le_mul_right (c := (l.length : Rat)) (by rw [hv]; grind) hnp
  have hb := big12
  obtain ⟨q1, q2⟩ := re_quo a fn (by rw [vn]; exact Rat.ne_of_gt hnp) (by rw [vn]; grind) (by rw [vn]; grind)
  have q3 := q2 (fv .f32 (fsum l) / (l.length : Rat)) (by rw [vn]; exact Rat.le_refl) (by rw [vn]; grind)
  rw [vn, uu32, lp32] at q3
  have hm : fmean l = fb .quo .f32 (fsum l) (floatOfInt .f32 (l.length : Int)) := rfl
  rw [hm]
  exact ⟨⟨q1, quo_nn a fn a0 (by rw [vn]; exact hnp) q1⟩, _, _, b, hv, v0, v1, by grind, by grind⟩
theorem sums_ge (A : Rat) : ∀ l : List Nat, 0 ≤ sqV l - 2 * A * sumV l + l.length * (A * A)
  | [] => by simp [sqV, sumV]; decide +kernel
  | x :: r => by
    have h := sums_ge A r
    have h2 := sq_of_nn (fv .f32 x - A)
    have ek : (((x :: r).length : Nat) : Rat) = (r.length : Rat) + 1 := by rw [List.length_cons, Rat.natCast_add]; rfl
    rw [ek]
    simp only [sqV, sumV]
    grind
theorem cauchy {l : List Nat} (h1 : 1 ≤ l.length) : sumV l * sumV l ≤ l.length * sqV l := by
  have n1 := natpos h1
  have hnp : (0 : Rat) < (l.length : Rat) := by grind
  have hv : sumV l / (l.length : Rat) * (l.length : Rat) = sumV l := Rat.div_mul_cancel (Rat.ne_of_gt hnp)
  have h := sums_ge (sumV l / (l.length : Rat)) l
  generalize sumV l / (l.length : Rat) = A at *
  have e : (l.length : Rat) * (A * A) = A * sumV l := by rw [← hv]; grind
  have h3 : 0 ≤ sqV l - A * sumV l := by rw [e] at h; grind
  have h4 := Rat.mul_nonneg (show (0 : Rat) ≤ (l.length : Rat) by grind) h3
  have e2 : (l.length : Rat) * (A * sumV l) = sumV l * sumV l := by
    rw [show (l.length : Rat) * (A * sumV l) = (A * (l.length : Rat)) * sumV l by grind, hv]
  clear hv h e h3
  grind
theorem four_1 {N T F Q v : Rat} (hN : 1 ≤ N) (hT : 0 ≤ T) (h1 : F ≤ T + 1 / 300000 * T) (h2 : v * N = F) (h3 : T * T ≤ N * Q) (hF : 0 ≤ F) : v * v * N ≤ Q * (1 + 1 / 100000) := by
  have hNp : 0 < N := by grind
  refine Rat.le_of_mul_le_mul_right (c := N) ?_ hNp
  have e : v * v * N * N = F * F := by grind
  have a := sq_le hF h1
  have t := Rat.mul_nonneg hT hT
  rw [e]
  grind
theorem four_2 {N Q v v4 G T4 : Rat} (hN : 1 ≤ N) (hN2 : N ≤ 21) (hQ : v * v * N ≤ Q * (1 + 1 / 100000)) (h4 : Q * (1 - 1 / 16777216) - 21 / 100000000000000000000 ≤ T4) (h5 : T4 - 1 / 300000 * T4 ≤ G) (h6 : v4 * N = G) (hv : 1 / 2000 ≤ v) : v * v * (1 - 1 / 20000) ≤ v4 := by
  have hNp : 0 < N := by grind
  refine Rat.le_of_mul_le_mul_right (c := N) ?_ hNp
  have a := sq_le (a := 1 / 2000) (b := v) (by grind) hv
  have b := Rat.mul_le_mul_of_nonneg_left hN (show 0 ≤ v * v by grind)
  rw [h6]
  grind
theorem four_3 {v v4 M2 M4 B : Rat} (hv : 1 / 2000 ≤ v) (h4 : v * v * (1 - 1 / 20000) ≤ v4) (h5 : v4 - M4 ≤ 2 / 16777216 * v4 + 1 / 100000000000000000000) (h6 : M2 - v ≤ 2 / 16777216 * v + 1 / 100000000000000000000) (h0 : 0 ≤ M2) (h8 : B - M2 * M2 ≤ 1 / 16777216 * (M2 * M2) + 1 / 100000000000000000000) : B * (1 - 1 / 5000) ≤ M4 := by
  have a := sq_le (a := 1 / 2000) (b := v) (by grind) hv
  have m : M2 ≤ v * (1 + 1 / 100000) := by grind
  have m2 := sq_le h0 m
  have e : v * (1 + 1 / 100000) * (v * (1 + 1 / 100000)) = v * v * ((1 + 1 / 100000) * (1 + 1 / 100000)) := by grind
  rw [e] at m2
  grind
theorem sumV_ge {x : Nat} : ∀ {l : List Nat}, AllP l → x ∈ l → fv .f32 x ≤ sumV l
  | y :: r, hl, h => by
    have hr : AllP r := fun z hz => hl z (List.mem_cons_of_mem _ hz)
    have h0 := sumV_nn hr
    have hy := (hl y (List.mem_cons_self ..)).2
    rcases List.mem_cons.1 h with rfl | h
    · simp only [sumV]; grind
    · have := sumV_ge hr h
      simp only [sumV]; grind
theorem sumV_abs {B : Rat} : ∀ {l : List Nat}, (∀ x ∈ l, fv .f32 x ≤ B ∧ -fv .f32 x ≤ B) → sumV l ≤ B * l.length ∧ -sumV l ≤ B * l.length
  | [], _ => by simp [sumV]
  | x :: r, h => by
    obtain ⟨a, b⟩ := h x (List.mem_cons_self ..)
    obtain ⟨c, d⟩ := sumV_abs (l := r) (fun y hy => h y (List.mem_cons_of_mem _ hy))
    have ek : (((x :: r).length : Nat) : Rat) = (r.length : Rat) + 1 := by rw [List.length_cons, Rat.natCast_add]; rfl
    rw [ek]
    simp only [sumV]
    constructor <;> grind
/-- The squares of a list. -/
theorem sqs_near {M : Rat} (hM : M ≤ 1000000) : ∀ {l : List Nat}, (∀ x ∈ l, fin .f32 x = true ∧ fv .f32 x * fv .f32 x ≤ M) → AllP (sqs l) ∧ Near (sumV (sqs l)) (sqV l) (1 / 16777216 * sqV l + l.length * p2 (-150))
  | [], _ => by
    have e : (sqs [] : List Nat) = [] := rfl
    rw [e]
    refine ⟨(fun x hx => (List.not_mem_nil hx).elim), ?_, ?_⟩
    · simp [sumV, sqV]; decide +kernel
    · simp [sumV, sqV]; decide +kernel
  | x :: r, h => by
    obtain ⟨h1, h2⟩ := h x (List.mem_cons_self ..)
    obtain ⟨a1, a2, a3⟩ := sq_pv h1 h2 hM
    obtain ⟨b1, b2, b3⟩ := sqs_near hM (l := r) (fun y hy => h y (List.mem_cons_of_mem _ hy))
    have ek : (((x :: r).length : Nat) : Rat) = (r.length : Rat) + 1 := by rw [List.length_cons, Rat.natCast_add]; rfl
    have es : sqs (x :: r) = fb .mul .f32 x x :: sqs r := rfl
    rw [es, ek]
    refine ⟨fun y hy => ?_, ?_, ?_⟩
    · rcases List.mem_cons.1 hy with rfl | hy
      · exact a1
      · exact b1 y hy
    · simp only [sumV, sqV]; grind
    · simp only [sumV, sqV]; grind
theorem even_tab : ∀ n : Nat, n < 22 → 1 ≤ n → ∀ k : Nat, k < 33 → fb .sub .f32 (qF k) (fmean (List.replicate n (qF k))) = 0 := by decide +kernel
theorem none_tab : ∀ n : Nat, n < 22 → (FloatKind.f32.format.order (fb .mul .f32 (fmean (sqs (List.replicate n 0))) (fmean (sqs (List.replicate n 0)))) 0 == some .gt) = false := by decide +kernel
theorem big15 : (1000000000000000 : Rat) ≤ big .f32 := by decide +kernel
theorem apart_q {k j : Nat} (hk : k < 33) (hj : j < 33) (h : qF k ≠ qF j) : 1 / 4 ≤ fv .f32 (qF k) - fv .f32 (qF j) ∨ 1 / 4 ≤ fv .f32 (qF j) - fv .f32 (qF k) := by
  have e2 : p2 (-2) = 1 / 4 := by decide +kernel
  obtain ⟨_, a, _⟩ := qF_tab k hk
  obtain ⟨_, b, _⟩ := qF_tab j hj
  rw [a, b, e2]
  have hne : k ≠ j := fun e => h (by rw [e])
  rcases Nat.lt_or_gt_of_ne hne with h1 | h1
  · right
    have h2 : ((k : Int) - 16) + 1 ≤ ((j : Int) - 16) := by omega
    have h3 := Rat.intCast_le_intCast.2 h2
    rw [Rat.intCast_add] at h3
    have e1 : ((1 : Int) : Rat) = 1 := rfl
    rw [e1] at h3
    grind
  · left
    have h2 : ((j : Int) - 16) + 1 ≤ ((k : Int) - 16) := by omega
    have h3 := Rat.intCast_le_intCast.2 h2
    rw [Rat.intCast_add] at h3
    have e1 : ((1 : Int) : Rat) = 1 := rfl
    rw [e1] at h3
    grind
theorem mean_told {xs : List Nat} (h : Sg xs) : fin .f32 (fmean xs) = true ∧ fv .f32 (fmean xs) ≤ 4 + 1 / 1000 ∧ -fv .f32 (fmean xs) ≤ 4 + 1 / 1000 := by
  have l1 := h.l1
  have l2 := h.l2
  obtain ⟨g1, g2⟩ := gr_fsum (by decide) lp2 (fun x hx => (qF_gr (h.at_ hx)).1) (by omega)
  obtain ⟨c, d⟩ := sumV_abs (fun x hx => (qF_gr (h.at_ hx)).2.2.2)
  obtain ⟨q1, v, hv, v1, v2, v3, v4⟩ := quo_n g1.1 l1 (by omega) (M := 4) (by rw [g2]; exact c) (by rw [g2]; exact d) (by grind)
  have hm : fmean xs = fb .quo .f32 (fsum xs) (floatOfInt .f32 (xs.length : Int)) := rfl
  rw [← hm] at q1 v3 v4
  have he := e20
  exact ⟨q1, by grind, by grind⟩
theorem dev_told {xs : List Nat} (h : Sg xs) {x : Nat} (hx : x ∈ xs) : fin .f32 (fb .sub .f32 x (fmean xs)) = true ∧ Near (fv .f32 (fb .sub .f32 x (fmean xs))) (fv .f32 x - fv .f32 (fmean xs)) (1 / 1000000) ∧ fv .f32 (fb .sub .f32 x (fmean xs)) * fv .f32 (fb .sub .f32 x (fmean xs)) ≤ 66 := by
  obtain ⟨m1, m2, m3⟩ := mean_told h
  obtain ⟨⟨x1, _⟩, _, _, x2, x3⟩ := qF_gr (h.at_ hx)
  have hb := big12
  obtain ⟨a, b⟩ := re_sub x1 m1 (by grind) (by grind)
  have c := b 9 (by grind) (by grind)
  rw [uu32] at c
  refine ⟨a, ⟨by grind, by grind⟩, ?_⟩
  have p := Rat.mul_nonneg (show 0 ≤ 81 / 10 - fv .f32 (fb .sub .f32 x (fmean xs)) by grind) (show 0 ≤ 81 / 10 + fv .f32 (fb .sub .f32 x (fmean xs)) by grind)
  grind
theorem some_dev {a b m d e : Rat} (h : 1 / 4 ≤ a - b) (hd : d - (a - m) ≤ 1 / 1000000) (hd2 : (a - m) - d ≤ 1 / 1000000) (he : e - (b - m) ≤ 1 / 1000000) (he2 : (b - m) - e ≤ 1 / 1000000) : 1 / 65 ≤ d * d ∨ 1 / 65 ≤ e * e := by
  by_cases h1 : 1 / 8 ≤ a - m
  · left
    have := sq_le (a := 1247 / 10000) (b := d) (by grind) (by grind)
    grind
  · right
    have := sq_le (a := 1247 / 10000) (b := -e) (by grind) (by grind)
    grind
/-- The mean of fourth powers by the square of the mean of squares. -/
theorem fr_told {xs : List Nat} (h : Sg xs) (ho : frOk xs = true) : fin .f32 (frR xs) = true ∧ 9991 / 10000 ≤ fv .f32 (frR xs) := by
  have l1 := h.l1
  have l2 := h.l2
  have hR : frR xs = frVal xs := by unfold frR; rw [if_pos ho]
  have ho2 := ho
  unfold frOk frTop at ho2
  simp only [Bool.and_eq_true] at ho2
  obtain ⟨⟨_, ht⟩, hf⟩ := ho2
  rw [hR]
  refine ⟨hf, ?_⟩
  have hDl : (frD xs).length = xs.length := by simp [frD]
  have hD : ∀ d ∈ frD xs, fin .f32 d = true ∧ fv .f32 d * fv .f32 d ≤ 66 := fun d hd => by
    unfold frD at hd
    obtain ⟨x, hx, rfl⟩ := List.mem_map.1 hd
    have := dev_told h hx
    exact ⟨this.1, this.2.2⟩
  -- some number is apart from the mean
  have hbig : ∃ d ∈ frD xs, 1 / 65 ≤ fv .f32 d * fv .f32 d := by
    obtain ⟨y, r, hxs⟩ : ∃ y r, xs = y :: r := by
      cases xs with
      | nil => simp at l1
      | cons y r => exact ⟨y, r, rfl⟩
    have hy : y ∈ xs := by rw [hxs]; exact List.mem_cons_self ..
    by_cases ha : ∃ x ∈ xs, x ≠ y
    · obtain ⟨x, hx, hne⟩ := ha
      obtain ⟨k, hk, ex⟩ := h.at_ hx
      obtain ⟨j, hj, ey⟩ := h.at_ hy
      obtain ⟨_, ⟨d1, d2⟩, _⟩ := dev_told h hx
      obtain ⟨_, ⟨e1, e2⟩, _⟩ := dev_told h hy
      have hap := apart_q hk hj (by rw [← ex, ← ey]; exact hne)
      rw [← ex, ← ey] at hap
      have mx : fb .sub .f32 x (fmean xs) ∈ frD xs := List.mem_map.2 ⟨x, hx, rfl⟩
      have my : fb .sub .f32 y (fmean xs) ∈ frD xs := List.mem_map.2 ⟨y, hy, rfl⟩
      rcases hap with hap | hap
      · rcases some_dev hap d1 d2 e1 e2 with z | z
        · exact ⟨_, mx, z⟩
        · exact ⟨_, my, z⟩
      · rcases some_dev hap e1 e2 d1 d2 with z | z
        · exact ⟨_, my, z⟩
        · exact ⟨_, mx, z⟩
    · exfalso
      have hall : ∀ x ∈ xs, x = y := fun x hx => by
        by_cases e : x = y
        · exact e
        · exact absurd ⟨x, hx, e⟩ ha
      have hrep := List.eq_replicate_iff.2 ⟨rfl, hall⟩
      obtain ⟨j, hj, ey⟩ := h.at_ hy
      have hz : frD xs = List.replicate xs.length 0 := by
        refine List.eq_replicate_iff.2 ⟨hDl, fun d hd => ?_⟩
        unfold frD at hd
        obtain ⟨x, hx, rfl⟩ := List.mem_map.1 hd
        rw [hall x hx, hrep, ey]
        exact even_tab _ (by omega) l1 j hj
      unfold frBy at ht
      rw [hz, none_tab _ (by omega)] at ht
      cases ht
  obtain ⟨d, hd, hdd⟩ := hbig
  obtain ⟨y1, y2, y3⟩ := sqs_near (M := 66) (by grind) hD
  rw [hDl] at y2 y3
  have hYl : (sqs (frD xs)).length = xs.length := by rw [sqs_len, hDl]
  have n1 := natpos l1
  have n2 := nat_21 l2
  have he := e20
  have he0 := e20n
  have hne : (xs.length : Rat) * p2 (-150) ≤ 21 / 100000000000000000000 := by
    have a := Rat.mul_le_mul_of_nonneg_right n2 he0
    grind
  have hne0 : 0 ≤ (xs.length : Rat) * p2 (-150) := Rat.mul_nonneg (by grind) he0
  have hQ1 : sqV (frD xs) ≤ 21 * 66 := by
    have : ∀ {l : List Nat}, (∀ d ∈ l, fv .f32 d * fv .f32 d ≤ 66) → sqV l ≤ l.length * 66 := fun {l} => by
      induction l with
      | nil => intro _; simp [sqV]
      | cons x r ih =>
        intro hh
        have a := hh x (List.mem_cons_self ..)
        have b := ih (fun y hy => hh y (List.mem_cons_of_mem _ hy))
        have ek : (((x :: r).length : Nat) : Rat) = (r.length : Rat) + 1 := by rw [List.length_cons, Rat.natCast_add]; rfl
        rw [ek]; simp only [sqV]; grind
    have := this (fun d hd => (hD d hd).2)
    rw [hDl] at this
    grind
  have hT1 : sumV (sqs (frD xs)) ≤ 1400 := by grind
  have hYm : ∀ y ∈ sqs (frD xs), fin .f32 y = true ∧ fv .f32 y * fv .f32 y ≤ 4500 := fun y hy => by
    refine ⟨(y1 y hy).1, ?_⟩
    obtain ⟨d, hd, rfl⟩ := mem_sqs hy
    obtain ⟨a1, a2, a3⟩ := sq_pv (hD d hd).1 (hD d hd).2 (by grind)
    have h67 : fv .f32 (fb .mul .f32 d d) ≤ 67 := by have := (hD d hd).2; grind
    have := sq_le a1.2 h67
    grind
  obtain ⟨z1, z2, z3⟩ := sqs_near (M := 4500) (by grind) hYm
  have hYl2 : (((sqs (frD xs)).length : Nat) : Rat) = (xs.length : Rat) := by rw [hYl]
  rw [hYl2] at z2 z3
  have hZl : (sqs (sqs (frD xs))).length = xs.length := by rw [sqs_len, hYl]
  have hQ2 : sqV (sqs (frD xs)) ≤ 21 * 4500 := by
    have : ∀ {l : List Nat}, (∀ d ∈ l, fv .f32 d * fv .f32 d ≤ 4500) → sqV l ≤ l.length * 4500 := fun {l} => by
      induction l with
      | nil => intro _; simp [sqV]
      | cons x r ih =>
        intro hh
        have a := hh x (List.mem_cons_self ..)
        have b := ih (fun y hy => hh y (List.mem_cons_of_mem _ hy))
        have ek : (((x :: r).length : Nat) : Rat) = (r.length : Rat) + 1 := by rw [List.length_cons, Rat.natCast_add]; rfl
        rw [ek]; simp only [sqV]; grind
    have := this (fun d hd => (hYm d hd).2)
    rw [hYl] at this
    grind
  have hT2 : sumV (sqs (sqs (frD xs))) ≤ 200000 := by grind
  obtain ⟨⟨a1, a2⟩, F, v, F1, hv, v0, v1, M2n⟩ := fmean_pv y1 (by omega) (by omega) (by grind)
  obtain ⟨⟨b1, b2⟩, G, v4, G1, hv4, w0, w1, M4n⟩ := fmean_pv z1 (by omega) (by omega) hT2
  rw [hYl] at hv
  rw [hZl] at hv4
  have hc := cauchy (l := sqs (frD xs)) (by omega)
  rw [hYl] at hc
  have hYd : fb .mul .f32 d d ∈ sqs (frD xs) := List.mem_map.2 ⟨d, hd, rfl⟩
  have hYge := sumV_ge y1 hYd
  obtain ⟨_, _, sq3⟩ := sq_pv (hD d hd).1 (hD d hd).2 (by grind)
  have hTl : 1 / 66 ≤ sumV (sqs (frD xs)) := by clear hc M2n M4n F1 G1 z2 z3 y2 y3; grind
  have hQ0 := sqV_nn (sqs (frD xs))
  unfold frVal frBy
  have hbt : frBy xs = fb .mul .f32 (fmean (sqs (frD xs))) (fmean (sqs (frD xs))) := rfl
  rw [hbt] at ht
  generalize fmean (sqs (frD xs)) = M2 at *
  generalize fmean (sqs (sqs (frD xs))) = M4 at *
  generalize sumV (sqs (frD xs)) = T at *
  generalize sumV (sqs (sqs (frD xs))) = T4 at *
  generalize sqV (sqs (frD xs)) = Q at *
  generalize (xs.length : Rat) = N at *
  clear hYm hYd hYge sq3 hdd hd hD y1 z1 hYl hZl hYl2 hDl h l1 l2 hR ho y2 y3 hQ1
  obtain ⟨F1a, F1b⟩ := F1
  obtain ⟨G1a, G1b⟩ := G1
  obtain ⟨M2a, M2b⟩ := M2n
  obtain ⟨M4a, M4b⟩ := M4n
  have hNp : 0 < N := by grind
  have hF0 : 0 ≤ F := by rw [← hv]; exact Rat.mul_nonneg v0 (by grind)
  have hvl : 1 / 2000 ≤ v := Rat.le_of_mul_le_mul_right (c := N) (by rw [hv]; grind) hNp
  have k1 := four_1 n1 (by grind) (by clear hc; grind) hv hc hF0
  have p1 : Q * (1 - 1 / 16777216) - 21 / 100000000000000000000 ≤ T4 := by clear k1 hc; grind
  have p3 : T4 - 1 / 300000 * T4 ≤ G := by clear k1 hc; grind
  have k2 := four_2 n1 n2 k1 p1 p3 hv4 hvl
  have hb := big15
  have m2s : fv .f32 M2 ≤ 300001 := by clear k1 k2 hc; grind
  have m2l : 1 / 2100 ≤ fv .f32 M2 := by clear k1 k2 hc; grind
  have m4s : fv .f32 M4 ≤ 300001 := by clear k1 k2 hc; grind
  have msq := sq_of_nn (fv .f32 M2)
  have msq2 := sq_le a2 m2s
  have msq3 := sq_le (a := 1 / 2100) (by grind) m2l
  obtain ⟨c1, c2⟩ := re_mul a1 a1 (by clear k1 k2 hc; grind) (by clear k1 k2 hc; grind)
  have c3 := c2 (fv .f32 M2 * fv .f32 M2) Rat.le_refl (by clear k1 k2 hc; grind)
  rw [uu32, lp32] at c3
  obtain ⟨c3a, c3b⟩ := c3
  have p4 : v4 - fv .f32 M4 ≤ 2 / 16777216 * v4 + 1 / 100000000000000000000 := by clear k1 k2 hc; grind
  have p5 : fv .f32 M2 - v ≤ 2 / 16777216 * v + 1 / 100000000000000000000 := by clear k1 k2 hc; grind
  have p6 : fv .f32 (fb .mul .f32 M2 M2) - fv .f32 M2 * fv .f32 M2 ≤ 1 / 16777216 * (fv .f32 M2 * fv .f32 M2) + 1 / 100000000000000000000 := by clear k1 k2 hc; grind
  have k3 := four_3 hvl k2 p4 p5 a2 p6
  generalize fb .mul .f32 M2 M2 = BB at *
  have bl : 1 / 5000000 ≤ fv .f32 BB := by clear k1 k2 k3 hc; grind
  clear k1 k2 hc c3a c3b msq msq2 msq3 F1a F1b G1a G1b M2a M2b M4a M4b z2 z3
  have bp : 0 < fv .f32 BB := by grind
  have hq : fv .f32 M4 / fv .f32 BB * fv .f32 BB = fv .f32 M4 := Rat.div_mul_cancel (Rat.ne_of_gt bp)
  have q1 : fv .f32 M4 / fv .f32 BB ≤ 100000000000000 := Rat.le_of_mul_le_mul_right (c := fv .f32 BB) (by rw [hq]; grind) bp
  have q2 : 1 - 1 / 5000 ≤ fv .f32 M4 / fv .f32 BB := Rat.le_of_mul_le_mul_right (c := fv .f32 BB) (by rw [hq]; grind) bp
  obtain ⟨_, r⟩ := re_quo b1 c1 (Rat.ne_of_gt bp) (by grind) (by grind)
  have r2 := (r (fv .f32 M4 / fv .f32 BB) Rat.le_refl (by grind)).2
  rw [uu32, lp32] at r2
  grind
end Go.Proofs.YtjmpldcnhjgpkaaGreatDoor
