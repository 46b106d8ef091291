/-
  Lines of the signals that the laws draw are what they should be, nearly.
-/
import Derived.Test.YteabfkgbakoljaaPhT1
import Derived.Test.YteabfkgbakoljaaPhT2
import Derived.Test.YteabfkgbakoljaaPhT3
import Derived.Test.YteabfkgbakoljaaPhT4
import Derived.Test.YteabfkgbakoljaaPhO
import Derived.Test.YteabfkgbakoljaaRtS
import Derived.Test.YteabfkgbakoljaaLogR
import Derived.Test.YteabfkgbakoljaaHelq
import Derived.Test.YteabfkgbakoljaaPhZ
import Derived.Lib.SliceRun
import Derived.Deep.CutRange
import Derived.Test.YteabfkgbakoljaaCapP
import Derived.BigQuiet
import Derived.Deep.QuietTactic
namespace Go.Proofs.Yteabfkgbakoljaa
open Go.RowKit Mem Fl
set_option linter.unusedVariables false
set_option maxRecDepth 100000

theorem phRow_all {j : Nat} (h : j < 480) : phRow j = true := by
  have key : ∀ c d : Nat, j = 60 * c + d → d < 60 → phRow j = true → phRow j = true := fun _ _ _ _ h => h
  rcases (by omega : j < 60 ∨ (60 ≤ j ∧ j < 120) ∨ (120 ≤ j ∧ j < 180) ∨ (180 ≤ j ∧ j < 240) ∨ (240 ≤ j ∧ j < 300) ∨ (300 ≤ j ∧ j < 360) ∨ (360 ≤ j ∧ j < 420) ∨ (420 ≤ j ∧ j < 480)) with h0 | ⟨a, b⟩ | ⟨a, b⟩ | ⟨a, b⟩ | ⟨a, b⟩ | ⟨a, b⟩ | ⟨a, b⟩ | ⟨a, b⟩
  · have := phT_0 j h0; rwa [Nat.zero_add] at this
  · have := phT_1 (j - 60) (by omega); rwa [show 60 + (j - 60) = j by omega] at this
  · have := phT_2 (j - 120) (by omega); rwa [show 120 + (j - 120) = j by omega] at this
  · have := phT_3 (j - 180) (by omega); rwa [show 180 + (j - 180) = j by omega] at this
  · have := phT_4 (j - 240) (by omega); rwa [show 240 + (j - 240) = j by omega] at this
  · have := phT_5 (j - 300) (by omega); rwa [show 300 + (j - 300) = j by omega] at this
  · have := phT_6 (j - 360) (by omega); rwa [show 360 + (j - 360) = j by omega] at this
  · have := phT_7 (j - 420) (by omega); rwa [show 420 + (j - 420) = j by omega] at this
/-- A phasor's part and its whole number. -/
structure Pz (x : Nat) (z : Int) : Prop where
  f : fin .f32 x = true
  v : fv .f32 x = (z : Rat) * p2 (-30)
  b : z.natAbs ≤ 1073741824
theorem pz_of {x : Nat} {z : Int} (h : wiOk x z = true) : Pz x z := by
  unfold wiOk at h
  simp only [Bool.and_eq_true, decide_eq_true_eq] at h
  exact ⟨h.1.1, h.1.2, h.2⟩
theorem pz_le {x : Nat} {z : Int} (h : Pz x z) : fv .f32 x ≤ 1 ∧ -fv .f32 x ≤ 1 := by
  have e : p2 (-30) = 1 / 1073741824 := by decide +kernel
  obtain ⟨a, b⟩ := z_abs h.b
  have e2 : ((1073741824 : Nat) : Rat) = 1073741824 := rfl
  rw [e2] at a b
  rw [h.v, e]
  constructor <;> grind
/-- The phasors of a line and a place. -/
theorem ph_val {n k i : Nat} (hn : n < 21) (hk : k < n / 2 + 1) (hi : i < n) :
    Pz (ph1 (Op.negFloat .f64 (slQ n k i))) (atI iA (ixF n k i)) ∧ Pz (ph2 (Op.negFloat .f64 (slQ n k i))) (atI iB (ixF n k i)) ∧ Pz (ph1 (slQ n k i)) (atI jA (ixF n k i)) ∧ Pz (ph2 (slQ n k i)) (atI jB (ixF n k i)) := by
  have h := slq_tab n hn k hk i hi
  simp only [Bool.and_eq_true] at h
  obtain ⟨h1, h2⟩ := h
  have e1 := Nat.eq_of_beq_eq_true h1
  have h3 : ixF n k i < 480 := by
    have : Nat.ble (ixF n k i + 1) 480 = true := h2
    exact Nat.le_of_ble_eq_true this
  have hr := phRow_all h3
  unfold phRow at hr
  simp only [Bool.and_eq_true] at hr
  obtain ⟨⟨⟨r1, r2⟩, r3⟩, r4⟩ := hr
  have q1 := Nat.eq_of_beq_eq_true r1
  have q2 := Nat.eq_of_beq_eq_true r2
  have q3 := Nat.eq_of_beq_eq_true r3
  have q4 := Nat.eq_of_beq_eq_true r4
  rw [← e1] at q1 q2 q3 q4
  have hw := wi_tab (ixF n k i / 60) (by omega) (ixF n k i % 60) (Nat.mod_lt _ (by omega))
  rw [Nat.div_add_mod] at hw
  simp only [Bool.and_eq_true] at hw
  obtain ⟨⟨⟨w1, w2⟩, w3⟩, w4⟩ := hw
  rw [q1, q2, q3, q4]
  exact ⟨pz_of w1, pz_of w2, pz_of w3, pz_of w4⟩
/-- A line in fractions. -/
def lnA (n k : Nat) (xs : List Nat) : Nat → Rat
  | 0 => 0
  | i + 1 => lnA n k xs i + (atI iA (ixF n k i) : Rat) * p2 (-30) * fv .f32 (xs.getD i 0)
def lnB (n k : Nat) (xs : List Nat) : Nat → Rat
  | 0 => 0
  | i + 1 => lnB n k xs i + (atI iB (ixF n k i) : Rat) * p2 (-30) * fv .f32 (xs.getD i 0)
theorem lnz_step {p x s i : Nat} {z : Int} {l : Rat} (hp : Pz p z) (hx : ∃ q, q < 33 ∧ x = qF q) (hi : i < 20) (hs : fin .f32 s = true) (hl : l ≤ 4 * (i : Rat)) (hl2 : -l ≤ 4 * (i : Rat)) (h1 : fv .f32 s - l ≤ (i : Rat) * (6 / 1000000)) (h2 : l - fv .f32 s ≤ (i : Rat) * (6 / 1000000)) :
    fin .f32 (fb .add .f32 s (fb .mul .f32 p x)) = true ∧ l + (z : Rat) * p2 (-30) * fv .f32 x ≤ 4 * ((i + 1 : Nat) : Rat) ∧ -(l + (z : Rat) * p2 (-30) * fv .f32 x) ≤ 4 * ((i + 1 : Nat) : Rat) ∧ Near (fv .f32 (fb .add .f32 s (fb .mul .f32 p x))) (l + (z : Rat) * p2 (-30) * fv .f32 x) (((i + 1 : Nat) : Rat) * (6 / 1000000)) := by
  obtain ⟨⟨x1, _⟩, _, _, x2, x3⟩ := qF_gr hx
  obtain ⟨p1, p2'⟩ := pz_le hp
  rw [← hp.v]
  have hb := big12
  have he := e20
  have q1 := Rat.mul_nonneg (show 0 ≤ 1 - fv .f32 p by grind) (show 0 ≤ 4 + fv .f32 x by grind)
  have q2 := Rat.mul_nonneg (show 0 ≤ 1 + fv .f32 p by grind) (show 0 ≤ 4 - fv .f32 x by grind)
  have q3 := Rat.mul_nonneg (show 0 ≤ 1 - fv .f32 p by grind) (show 0 ≤ 4 - fv .f32 x by grind)
  have q4 := Rat.mul_nonneg (show 0 ≤ 1 + fv .f32 p by grind) (show 0 ≤ 4 + fv .f32 x by grind)
  have m1 : fv .f32 p * fv .f32 x ≤ 4 := by grind
  have m2 : -(fv .f32 p * fv .f32 x) ≤ 4 := by grind
  clear q1 q2 q3 q4
  obtain ⟨a, b⟩ := re_mul hp.f x1 (by grind) (by grind)
  have c := b 4 m1 m2
  rw [uu32, lp32] at c
  have ek : ((i + 1 : Nat) : Rat) = (i : Rat) + 1 := by rw [Rat.natCast_add]; rfl
  have e20' : (i : Rat) ≤ 20 := by have := nat_le.2 (show i ≤ 20 by omega); exact this
  have i0 : (0 : Rat) ≤ (i : Rat) := Rat.natCast_nonneg
  obtain ⟨d, e⟩ := re_add hs a (by grind) (by grind)
  have f := e 90 (by grind) (by grind)
  rw [uu32] at f
  rw [ek]
  exact ⟨d, by grind, by grind, by grind, by grind⟩
theorem line_near {xs : List Nat} (h : Sg xs) (hl : xs.length < 21) {k : Nat} (hk : k < xs.length / 2 + 1) : ∀ i, i ≤ xs.length →
    (fin .f32 (slS xs.length k xs i).1 = true ∧ lnA xs.length k xs i ≤ 4 * (i : Rat) ∧ -lnA xs.length k xs i ≤ 4 * (i : Rat) ∧ Near (fv .f32 (slS xs.length k xs i).1) (lnA xs.length k xs i) ((i : Rat) * (6 / 1000000))) ∧
    (fin .f32 (slS xs.length k xs i).2 = true ∧ lnB xs.length k xs i ≤ 4 * (i : Rat) ∧ -lnB xs.length k xs i ≤ 4 * (i : Rat) ∧ Near (fv .f32 (slS xs.length k xs i).2) (lnB xs.length k xs i) ((i : Rat) * (6 / 1000000)))
  | 0, _ => by
    have f0 := f0'
    have e0 : ((0 : Nat) : Rat) = 0 := rfl
    simp only [slS, lnA, lnB]
    rw [f0.2, e0]
    exact ⟨⟨f0.1, by decide +kernel, by decide +kernel, by decide +kernel, by decide +kernel⟩, ⟨f0.1, by decide +kernel, by decide +kernel, by decide +kernel, by decide +kernel⟩⟩
  | i + 1, hi => by
    obtain ⟨⟨a1, a2, a3, a4, a5⟩, b1, b2, b3, b4, b5⟩ := line_near h hl hk i (by omega)
    have hx := h.at_ (getD_mem (show i < xs.length by omega))
    obtain ⟨p1, p2', _, _⟩ := ph_val (n := xs.length) hl hk (show i < xs.length by omega)
    simp only [slS, lnA, lnB]
    exact ⟨lnz_step p1 hx (by omega) a1 a2 a3 a4 a5, lnz_step p2' hx (by omega) b1 b2 b3 b4 b5⟩
end Go.Proofs.Yteabfkgbakoljaa

/-
  Products of complex numbers that are not great: the very words, both sides.
-/
namespace Go.Proofs.Yteabfkgbakoljaa
open Go.RowKit Mem Fl
set_option linter.unusedVariables false
set_option maxRecDepth 100000

def Sk (x : Nat) : Prop := fin .f32 x = true ∧ fv .f32 x ≤ 500 ∧ -fv .f32 x ≤ 500
def mwR (a b c d : Nat) : Nat := fb .sub .f64 (fb .mul .f64 (wide a) (wide c)) (fb .mul .f64 (wide b) (wide d))
def mwI (a b c d : Nat) : Nat := fb .add .f64 (fb .mul .f64 (wide a) (wide d)) (fb .mul .f64 (wide b) (wide c))
theorem f64_sub {x y : Nat} (hx : fin .f64 x = true) (hy : fin .f64 y = true) (h1 : fv .f64 x - fv .f64 y ≤ 1000000) (h2 : -(fv .f64 x - fv .f64 y) ≤ 1000000) : fin .f64 (fb .sub .f64 x y) = true ∧ Near (fv .f64 (fb .sub .f64 x y)) (fv .f64 x - fv .f64 y) (1 / 1000000) := by
  have hb := big64b
  have hu := u64b
  obtain ⟨c1, c2⟩ := re_sub hx hy (by grind) (by grind)
  have c3 := c2 1000000 h1 h2
  exact ⟨c1, by grind, by grind⟩
theorem sk_mul {a c : Nat} (ha : Sk a) (hc : Sk c) : fin .f64 (fb .mul .f64 (wide a) (wide c)) = true ∧ Near (fv .f64 (fb .mul .f64 (wide a) (wide c))) (fv .f32 a * fv .f32 c) (1 / 500000) ∧ fv .f32 a * fv .f32 c ≤ 250000 ∧ -(fv .f32 a * fv .f32 c) ≤ 250000 := by
  obtain ⟨f, h1, h2⟩ := ha
  obtain ⟨g, k1, k2⟩ := hc
  obtain ⟨w1, v1⟩ := re_wide f
  obtain ⟨w2, v2⟩ := re_wide g
  have q1 := Rat.mul_nonneg (show 0 ≤ 500 - fv .f32 a by grind) (show 0 ≤ 500 + fv .f32 c by grind)
  have q2 := Rat.mul_nonneg (show 0 ≤ 500 + fv .f32 a by grind) (show 0 ≤ 500 - fv .f32 c by grind)
  have q3 := Rat.mul_nonneg (show 0 ≤ 500 - fv .f32 a by grind) (show 0 ≤ 500 - fv .f32 c by grind)
  have q4 := Rat.mul_nonneg (show 0 ≤ 500 + fv .f32 a by grind) (show 0 ≤ 500 + fv .f32 c by grind)
  have m1 : fv .f32 a * fv .f32 c ≤ 250000 := by grind
  have m2 : -(fv .f32 a * fv .f32 c) ≤ 250000 := by grind
  clear q1 q2 q3 q4
  obtain ⟨a1, a2⟩ := f64_mul w1 w2 (by rw [v1, v2]; grind) (by rw [v1, v2]; grind)
  rw [v1, v2] at a2
  exact ⟨a1, a2, m1, m2⟩
/-- A product, in numbers. -/
theorem mw_told {a b c d : Nat} (ha : Sk a) (hb : Sk b) (hc : Sk c) (hd : Sk d) :
    (fin .f64 (mwR a b c d) = true ∧ narOk (mwR a b c d) ∧ fin .f32 (nar (mwR a b c d)) = true ∧ Near (fv .f64 (mwR a b c d)) (fv .f32 a * fv .f32 c - fv .f32 b * fv .f32 d) (1 / 100000)) ∧
    (fin .f64 (mwI a b c d) = true ∧ narOk (mwI a b c d) ∧ fin .f32 (nar (mwI a b c d)) = true ∧ Near (fv .f64 (mwI a b c d)) (fv .f32 a * fv .f32 d + fv .f32 b * fv .f32 c) (1 / 100000)) := by
  obtain ⟨p1, ⟨p2', p3⟩, p4, p5⟩ := sk_mul ha hc
  obtain ⟨q1, ⟨q2, q3⟩, q4, q5⟩ := sk_mul hb hd
  obtain ⟨r1, ⟨r2, r3⟩, r4, r5⟩ := sk_mul ha hd
  obtain ⟨s1, ⟨s2, s3⟩, s4, s5⟩ := sk_mul hb hc
  have hbg := big12
  obtain ⟨x1, x2, x3⟩ := f64_sub p1 q1 (by grind) (by grind)
  obtain ⟨y1, y2, y3⟩ := f64_add r1 s1 (by grind) (by grind)
  have eR : fb .sub .f64 (fb .mul .f64 (wide a) (wide c)) (fb .mul .f64 (wide b) (wide d)) = mwR a b c d := rfl
  have eI : fb .add .f64 (fb .mul .f64 (wide a) (wide d)) (fb .mul .f64 (wide b) (wide c)) = mwI a b c d := rfl
  rw [eR] at x1 x2 x3
  rw [eI] at y1 y2 y3
  obtain ⟨n1, n2, _⟩ := re_nar x1 (by grind) (by grind)
  obtain ⟨m1, m2, _⟩ := re_nar y1 (by grind) (by grind)
  exact ⟨⟨x1, n1, n2, by grind, by grind⟩, ⟨y1, m1, m2, by grind, by grind⟩⟩
/-- What is narrowed is near. -/
theorem nar_near {z : Nat} (hz : fin .f64 z = true) {M : Rat} (h1 : fv .f64 z ≤ M) (h2 : -fv .f64 z ≤ M) (hM : M ≤ 1000000) : Near (fv .f32 (nar z)) (fv .f64 z) (1 / 16777216 * M + 1 / 100000000000000000000) := by
  have hb := big12
  have he := e20
  obtain ⟨_, _, n⟩ := re_nar hz (by grind) (by grind)
  have c := n M h1 h2
  rw [uu32] at c
  exact ⟨by grind, by grind⟩
theorem sk_words {a b c d : Nat} (ha : Sk a) (hb : Sk b) (hc : Sk c) (hd : Sk d) :
    ((∀ W, flR .mul .f64 (wide a) (wide c) W = fb .mul .f64 (wide a) (wide c)) ∧ flN .mul .f64 (wide a) (wide c) = 0) ∧ ((∀ W, flR .mul .f64 (wide b) (wide d) W = fb .mul .f64 (wide b) (wide d)) ∧ flN .mul .f64 (wide b) (wide d) = 0) ∧
    ((∀ W, flR .mul .f64 (wide a) (wide d) W = fb .mul .f64 (wide a) (wide d)) ∧ flN .mul .f64 (wide a) (wide d) = 0) ∧ ((∀ W, flR .mul .f64 (wide b) (wide c) W = fb .mul .f64 (wide b) (wide c)) ∧ flN .mul .f64 (wide b) (wide c) = 0) ∧
    ((∀ W, flR .sub .f64 (fb .mul .f64 (wide a) (wide c)) (fb .mul .f64 (wide b) (wide d)) W = mwR a b c d) ∧ flN .sub .f64 (fb .mul .f64 (wide a) (wide c)) (fb .mul .f64 (wide b) (wide d)) = 0) ∧
    ((∀ W, flR .add .f64 (fb .mul .f64 (wide a) (wide d)) (fb .mul .f64 (wide b) (wide c)) W = mwI a b c d) ∧ flN .add .f64 (fb .mul .f64 (wide a) (wide d)) (fb .mul .f64 (wide b) (wide c)) = 0) := by
  have k1 := fin_nn64 (sk_mul ha hc).1
  have k2 := fin_nn64 (sk_mul hb hd).1
  have k3 := fin_nn64 (sk_mul ha hd).1
  have k4 := fin_nn64 (sk_mul hb hc).1
  obtain ⟨⟨m1, _⟩, m2, _⟩ := mw_told ha hb hc hd
  have k5 := fin_nn64 m1
  have k6 := fin_nn64 m2
  exact ⟨⟨fun W => flR_num k1 W, flN_num k1⟩, ⟨fun W => flR_num k2 W, flN_num k2⟩, ⟨fun W => flR_num k3 W, flN_num k3⟩, ⟨fun W => flR_num k4 W, flN_num k4⟩, ⟨fun W => flR_num k5 W, flN_num k5⟩, ⟨fun W => flR_num k6 W, flN_num k6⟩⟩
theorem sk_sm {a : Nat} (h : Sk a) : Sm a := ⟨h.1, by have := h.2.1; grind, by have := h.2.2; grind⟩
theorem i_times {a b c d : Nat} {w : World} (ha : Sk a) (hb : Sk b) (hc : Sk c) (hd : Sk d) : Calls Try.prog 135 #[.float .f64 (wide a), .float .f64 (wide b), .float .f64 (wide c), .float .f64 (wide d)] w fun e w' => e = .returned (.tuple #[.float .f64 (mwR a b c d), .float .f64 (mwI a b c d)]) ∧ ∃ m, w' = w.drewN m := by
  obtain ⟨⟨k1, k1n⟩, ⟨k2, k2n⟩, ⟨k3, k3n⟩, ⟨k4, k4n⟩, ⟨k5, k5n⟩, ⟨k6, k6n⟩⟩ := sk_words ha hb hc hd
  clear ha hb hc hd
  go_enter Try.func135, Try.ntmps135
  go_wp2
  go_ret2
  exact ⟨rfl, _, rfl⟩
theorem i_MulComplex {a b c d : Nat} {w : World} (ha : Sk a) (hb : Sk b) (hc : Sk c) (hd : Sk d) : Calls Try.prog 95 #[.complex .f32 a b, .complex .f32 c d] w fun e w' => e = .returned (.complex .f32 (nar (mwR a b c d)) (nar (mwI a b c d))) ∧ ∃ m, w' = w.drewN m := by
  obtain ⟨⟨m1, m2, m3, _⟩, n1, n2, n3, _⟩ := mw_told ha hb hc hd
  have h1 := nar_word m2 m3 m1
  have h2 := nar_word n2 n3 n1
  have HP := hide (And.intro (And.intro ha hb) (And.intro hc hd))
  clear ha hb hc hd m1 m2 m3 n1 n2 n3
  go_enter Try.func95, Try.ntmps95
  go_wp2_with fail
  refine (i_parts (sk_sm HP.out.1.1) (sk_sm HP.out.1.2)).mono ?_
  rintro e w' ⟨rfl, rfl⟩
  go_wp2_with fail
  refine (i_parts (sk_sm HP.out.2.1) (sk_sm HP.out.2.2)).mono ?_
  rintro e w' ⟨rfl, rfl⟩
  go_wp2_with fail
  refine (i_times HP.out.1.1 HP.out.1.2 HP.out.2.1 HP.out.2.2).mono ?_
  rintro e w' ⟨rfl, m, rfl⟩
  go_wp2
  go_ret
  exact ⟨rfl, _, rfl⟩
end Go.Proofs.Yteabfkgbakoljaa

/-
  Products of complex numbers that are not great: the reference.
-/
namespace Go.Proofs.Yteabfkgbakoljaa
open Go.RowKit Mem Fl
set_option linter.unusedVariables false
set_option maxRecDepth 100000

theorem s_l01Wide {a b : Nat} {w : World} (ha : Sk a) (hb : Sk b) : Calls Try.prog 155 #[.complex .f32 a b] w fun e w' => e = .returned (.complex .f64 (wide a) (wide b)) ∧ w = w' := by
  obtain ⟨v0, v0n⟩ := cv_fn ha.1
  obtain ⟨v1, v1n⟩ := cv_fn hb.1
  clear ha hb
  go_enter Try.func155, Try.ntmps155
  go_wp2
  go_ret
  exact ⟨rfl, rfl⟩
theorem s_l01WideMul {a b c d : Nat} {w : World} (ha : Sk a) (hb : Sk b) (hc : Sk c) (hd : Sk d) : Calls Try.prog 154 #[.complex .f64 (wide a) (wide b), .complex .f64 (wide c) (wide d)] w fun e w' => e = .returned (.complex .f64 (mwR a b c d) (mwI a b c d)) ∧ ∃ m, w' = w.drewN m := by
  obtain ⟨⟨k1, k1n⟩, ⟨k2, k2n⟩, ⟨k3, k3n⟩, ⟨k4, k4n⟩, ⟨k5, k5n⟩, ⟨k6, k6n⟩⟩ := sk_words ha hb hc hd
  clear ha hb hc hd
  go_enter Try.func154, Try.ntmps154
  go_wp2
  go_ret
  exact ⟨rfl, _, rfl⟩
theorem s_l01CNarrow {x y : Nat} {w : World} (h1 : fin .f64 x = true ∧ narOk x ∧ fin .f32 (nar x) = true) (h2 : fin .f64 y = true ∧ narOk y ∧ fin .f32 (nar y) = true) : Calls Try.prog 153 #[.complex .f64 x y] w fun e w' => e = .returned (.complex .f32 (nar x) (nar y)) ∧ ∃ m, w' = w.drewN m := by
  have HP := hide (And.intro h1 h2)
  clear h1 h2
  go_enter Try.func153, Try.ntmps153
  go_wp2_with fail
  refine (s_l01Nar HP.out.1.2.1 HP.out.1.2.2 HP.out.1.1).mono ?_
  rintro e w' ⟨rfl, m1, rfl⟩
  go_wp2_with fail
  refine (s_l01Nar HP.out.2.2.1 HP.out.2.2.2 HP.out.2.1).mono ?_
  rintro e w' ⟨rfl, m2, rfl⟩
  go_wp2
  go_ret
  exact ⟨rfl, _, rfl⟩
theorem s_l01Mul {a b c d : Nat} {w : World} (ha : Sk a) (hb : Sk b) (hc : Sk c) (hd : Sk d) : Calls Try.prog 139 #[.complex .f32 a b, .complex .f32 c d] w fun e w' => e = .returned (.complex .f32 (nar (mwR a b c d)) (nar (mwI a b c d))) ∧ ∃ m, w' = w.drewN m := by
  obtain ⟨⟨m1, m2, m3, _⟩, n1, n2, n3, _⟩ := mw_told ha hb hc hd
  have HP := hide (And.intro (And.intro ha hb) (And.intro hc hd))
  have HQ := hide (And.intro (And.intro m1 (And.intro m2 m3)) (And.intro n1 (And.intro n2 n3)))
  clear ha hb hc hd m1 m2 m3 n1 n2 n3
  go_enter Try.func139, Try.ntmps139
  go_wp2_with fail
  refine (s_l01Wide HP.out.1.1 HP.out.1.2).mono ?_
  rintro e w' ⟨rfl, rfl⟩
  go_wp2_with fail
  refine (s_l01Wide HP.out.2.1 HP.out.2.2).mono ?_
  rintro e w' ⟨rfl, rfl⟩
  go_wp2_with fail
  refine (s_l01WideMul HP.out.1.1 HP.out.1.2 HP.out.2.1 HP.out.2.2).mono ?_
  rintro e w' ⟨rfl, m, rfl⟩
  go_wp2_with fail
  refine (s_l01CNarrow HQ.out.1 HQ.out.2).mono ?_
  rintro e w' ⟨rfl, m2, rfl⟩
  go_wp2
  go_ret
  exact ⟨rfl, _, rfl⟩
end Go.Proofs.Yteabfkgbakoljaa

/-
  A signal of lines that are not great: the plain law, and the program's walk.
-/
namespace Go.Proofs.Yteabfkgbakoljaa
open Go.RowKit Mem Fl
set_option linter.unusedVariables false
set_option maxRecDepth 100000

theorem word_told {a X : Nat} (h : cn .f32 a = X) (hf : fin .f32 X = true) : a = X := by
  cases hn : isNan .f32 a with
  | true => rw [cn_nan hn] at h; subst h; exact absurd hf (by decide)
  | false => rwa [cn_num hn] at h
theorem mul_abs' {x y a : Rat} (h1 : x ≤ a) (h2 : -x ≤ a) (h3 : y ≤ 1) (h4 : -y ≤ 1) : x * y ≤ a ∧ -(x * y) ≤ a := by
  have p1 := Rat.mul_nonneg (show 0 ≤ a - x by grind) (show 0 ≤ 1 + y by grind)
  have p2 := Rat.mul_nonneg (show 0 ≤ a + x by grind) (show 0 ≤ 1 - y by grind)
  have p3 := Rat.mul_nonneg (show 0 ≤ a - x by grind) (show 0 ≤ 1 - y by grind)
  have p4 := Rat.mul_nonneg (show 0 ≤ a + x by grind) (show 0 ≤ 1 + y by grind)
  constructor <;> grind
def Sl (x : Nat) : Prop := fin .f32 x = true ∧ fv .f32 x ≤ 200 ∧ -fv .f32 x ≤ 200
def SlL (l : List (Nat × Nat)) : Prop := ∀ p ∈ l, Sl p.1 ∧ Sl p.2
theorem sl_sk {x : Nat} (h : Sl x) : Sk x := ⟨h.1, by have := h.2.1; grind, by have := h.2.2; grind⟩
theorem pz_sk {x : Nat} {z : Int} (h : Pz x z) : Sk x := by
  obtain ⟨a, b⟩ := pz_le h
  exact ⟨h.f, by grind, by grind⟩
def dblB (n k : Nat) : Bool := (k != 0) && (2 * k != n)
def bkM (n k p : Nat) (q : Nat × Nat) : Nat := nar (mwR q.1 q.2 (ph1 (slQ n k p)) (ph2 (slQ n k p)))
def bkT (n k p : Nat) (q : Nat × Nat) : Nat := if dblB n k = true then fb .mul .f32 1073741824 (bkM n k p q) else bkM n k p q
def bkS (n p : Nat) (L : List (Nat × Nat)) : Nat → Nat
  | 0 => 0
  | k + 1 => fb .add .f32 (bkS n p L k) (bkT n k p (L.getD k (0, 0)))
def bkV (n p : Nat) (L : List (Nat × Nat)) : Nat := fb .quo .f32 (bkS n p L L.length) (floatOfInt .f32 (n : Int))
def bkL (n : Nat) (L : List (Nat × Nat)) (m : Nat) : List Nat := (List.range m).map fun p => bkV n p L
theorem two32 : fin .f32 1073741824 = true ∧ fv .f32 1073741824 = 2 := by decide +kernel
theorem bkM_fin {n k p : Nat} {q : Nat × Nat} (hn : n < 21) (hk : k < n / 2 + 1) (hp : p < n) (hq : Sl q.1 ∧ Sl q.2) : fin .f32 (bkM n k p q) = true ∧ fv .f32 (bkM n k p q) ≤ 401 ∧ -fv .f32 (bkM n k p q) ≤ 401 := by
  obtain ⟨_, _, p1, p2'⟩ := ph_val hn hk hp
  obtain ⟨a1, a2⟩ := pz_le p1
  obtain ⟨b1, b2⟩ := pz_le p2'
  obtain ⟨⟨x1, x2, x3⟩, y1, y2, y3⟩ := hq
  obtain ⟨⟨m1, m2, m3, m4, m5⟩, _⟩ := mw_told (sl_sk ⟨x1, x2, x3⟩) (sl_sk ⟨y1, y2, y3⟩) (pz_sk p1) (pz_sk p2')
  obtain ⟨u1, u2⟩ := mul_abs' x2 x3 a1 a2
  obtain ⟨v1, v2⟩ := mul_abs' y2 y3 b1 b2
  obtain ⟨n1, n2⟩ := nar_near m1 (M := 4005 / 10) (by grind) (by grind) (by grind)
  unfold bkM
  exact ⟨m3, by grind, by grind⟩
theorem bkT_fin {n k p : Nat} {q : Nat × Nat} (hn : n < 21) (hk : k < n / 2 + 1) (hp : p < n) (hq : Sl q.1 ∧ Sl q.2) : fin .f32 (bkT n k p q) = true ∧ fv .f32 (bkT n k p q) ≤ 803 ∧ -fv .f32 (bkT n k p q) ≤ 803 := by
  obtain ⟨a, b, c⟩ := bkM_fin hn hk hp hq
  obtain ⟨t1, t2⟩ := two32
  have hb := big12
  have he := e20
  unfold bkT
  split
  · obtain ⟨d, e⟩ := re_mul t1 a (by rw [t2]; grind) (by rw [t2]; grind)
    have f := e 802 (by rw [t2]; grind) (by rw [t2]; grind)
    rw [uu32, lp32, t2] at f
    exact ⟨d, by grind, by grind⟩
  · exact ⟨a, by grind, by grind⟩
theorem bkS_fin {n p : Nat} {L : List (Nat × Nat)} (hn : n < 21) (hp : p < n) (hL : SlL L) (hl : L.length = n / 2 + 1) : ∀ k, k ≤ L.length → fin .f32 (bkS n p L k) = true ∧ fv .f32 (bkS n p L k) ≤ (k : Rat) * 900 ∧ -fv .f32 (bkS n p L k) ≤ (k : Rat) * 900
  | 0, _ => by
    have f0 := f0'
    have e0 : ((0 : Nat) : Rat) = 0 := rfl
    simp only [bkS]
    rw [f0.2, e0]
    exact ⟨f0.1, by decide +kernel, by decide +kernel⟩
  | k + 1, hk => by
    obtain ⟨a, b, c⟩ := bkS_fin hn hp hL hl k (by omega)
    have hq : Sl (L.getD k (0, 0)).1 ∧ Sl (L.getD k (0, 0)).2 := hL _ (by rw [List.getD_eq_getElem?_getD, List.getElem?_eq_getElem (by omega)]; exact List.getElem_mem _)
    obtain ⟨d, e, f⟩ := bkT_fin hn (show k < n / 2 + 1 by omega) hp hq
    have ek : ((k + 1 : Nat) : Rat) = (k : Rat) + 1 := by rw [Rat.natCast_add]; rfl
    have e11 : (k : Rat) ≤ 11 := by have := nat_le.2 (show k ≤ 11 by omega); exact this
    have hb := big12
    obtain ⟨g, h⟩ := re_add a d (by grind) (by grind)
    have i := h 20000 (by grind) (by grind)
    rw [uu32] at i
    simp only [bkS]
    rw [ek]
    exact ⟨g, by grind, by grind⟩
theorem bkV_fin {n p : Nat} {L : List (Nat × Nat)} (hn : n < 21) (hp : p < n) (hL : SlL L) (hl : L.length = n / 2 + 1) : fin .f32 (bkV n p L) = true := by
  obtain ⟨a, b, c⟩ := bkS_fin hn hp hL hl L.length (Nat.le_refl _)
  have e11 : (L.length : Rat) ≤ 11 := by have := nat_le.2 (show L.length ≤ 11 by omega); exact this
  have n1 := natpos (show 1 ≤ n by omega)
  obtain ⟨q, _⟩ := quo_n a (n := n) (by omega) (by omega) (M := 20000) (by grind) (by grind) (by grind)
  exact q
theorem i_phase {n k p : Nat} {w : World} (hn : n < 21) (hk : k < n / 2 + 1) (hp : p < n) : Calls Try.prog 96 #[.int .i64 (k : Int), .int .i64 (p : Int), .int .i64 (n : Int)] w fun e w' => e = .returned (.complex .f32 (ph1 (slQ n k p)) (ph2 (slQ n k p))) ∧ ∃ m, w' = w.drewN m := by
  obtain ⟨_, _, p1, p2'⟩ := ph_val hn hk hp
  have hq : ∀ W, flR .quo .f64 (floatOfInt .f64 ((k : Int) * (p : Int))) (floatOfInt .f64 (n : Int)) W = slQ n k p := slQ_word (by omega) (by omega) (by omega) (by omega)
  obtain ⟨hR, s, r, hw, hr⟩ := slQ_bd (n := n) (k := k) (i := p) (by omega) (by omega) (by omega) (by omega)
  have HP : Hid (∀ W : World, _) := hide (fun W => i_PhN (w := W) hw (Nat.lt_of_le_of_lt hr (by decide +kernel)))
  have HF := hide (And.intro p1.f p2'.f)
  have b0 : (0 : Int) ≤ (k : Int) * (p : Int) := by rw [← Int.natCast_mul]; omega
  have b1 : (k : Int) * (p : Int) ≤ 4608 := by
    have : k * p ≤ 48 * 96 := Nat.mul_le_mul (by omega) (by omega)
    rw [← Int.natCast_mul]; omega
  clear p1 p2' hw hr hR hk hp hn
  go_enter Try.func96, Try.ntmps96
  go_wp2_with fail
  refine (HP.out _).mono ?_
  rintro e w' ⟨a, b, rfl, ha, hb, m, rfl⟩
  rw [word_told ha.out HF.out.1, word_told hb.out HF.out.2]
  go_wp2
  go_ret
  exact ⟨rfl, _, rfl⟩
theorem i_isDouble {n k : Nat} {w : World} (hn : n < 21) (hk : k < n / 2 + 1) : Calls Try.prog 97 #[.int .i64 (k : Int), .int .i64 (n : Int)] w fun e w' => e = .returned (.bool (dblB n k)) ∧ w = w' := by
  by_cases h0 : k = 0
  · subst h0
    go_enter Try.func97, Try.ntmps97
    go_wp2
    go_ret
    exact ⟨rfl, rfl⟩
  · have h1 : ((k : Int) != 0) = true := by simp; omega
    by_cases h2 : 2 * k = n
    · have h3 : (2 * (k : Int) != (n : Int)) = false := by simp; omega
      have e : dblB n k = false := by unfold dblB; simp [h2]
      rw [e]
      go_enter Try.func97, Try.ntmps97
      go_wp2
      go_ret
      exact ⟨rfl, rfl⟩
    · have h3 : (2 * (k : Int) != (n : Int)) = true := by simp; omega
      have e : dblB n k = true := by unfold dblB; simp [h0, h2]
      rw [e]
      go_enter Try.func97, Try.ntmps97
      go_wp2
      go_ret
      exact ⟨rfl, rfl⟩
end Go.Proofs.Yteabfkgbakoljaa

/-
  Lines of the signals that the laws draw lead back, nearly: the plain law.
-/
namespace Go.Proofs.Yteabfkgbakoljaa
open Go.RowKit Mem Fl
set_option linter.unusedVariables false
set_option maxRecDepth 100000

/-- A part of a line of n numbers from -4 to 4. -/
def Bn (n x : Nat) : Prop := fin .f32 x = true ∧ fv .f32 x ≤ 4001 / 1000 * (n : Rat) ∧ -fv .f32 x ≤ 4001 / 1000 * (n : Rat)
def BnL (n : Nat) (l : List (Nat × Nat)) : Prop := ∀ p ∈ l, Bn n p.1 ∧ Bn n p.2
theorem nat_20 {n : Nat} (h : n < 21) : (n : Rat) ≤ 20 := by have := nat_le.2 (show n ≤ 20 by omega); exact this
theorem bn_sl {n x : Nat} (hn : n < 21) (h : Bn n x) : Sl x := by
  have e := nat_20 hn
  exact ⟨h.1, by have := h.2.1; grind, by have := h.2.2; grind⟩
theorem bnL_sl {n : Nat} {l : List (Nat × Nat)} (hn : n < 21) (h : BnL n l) : SlL l := fun p hp => ⟨bn_sl hn (h p hp).1, bn_sl hn (h p hp).2⟩
theorem bn_zero (n : Nat) : Bn n 0 := by
  have f0 := f0'
  have : (0 : Rat) ≤ (n : Rat) := Rat.natCast_nonneg
  exact ⟨f0.1, by rw [f0.2]; grind, by rw [f0.2]; grind⟩
/-- What a line adds to a place, in fractions. -/
def cC (n k p : Nat) : Rat := (atI jA (ixF n k p) : Rat) * p2 (-30)
def sS (n k p : Nat) : Rat := (atI jB (ixF n k p) : Rat) * p2 (-30)
def tq (n k p : Nat) (q : Nat × Nat) : Rat := (dbl n k : Rat) * (fv .f32 q.1 * cC n k p - fv .f32 q.2 * sS n k p)
def bq (n p : Nat) (L : List (Nat × Nat)) : Nat → Rat
  | 0 => 0
  | k + 1 => bq n p L k + tq n k p (L.getD k (0, 0))
theorem dbl_cases (n k : Nat) : (dblB n k = true ∧ (dbl n k : Rat) = 2) ∨ (dblB n k = false ∧ (dbl n k : Rat) = 1) := by
  unfold dblB dbl
  by_cases h0 : k = 0
  · right; simp [h0]
  · by_cases h2 : 2 * k = n
    · right; simp [h0, h2]
    · left; simp [h0, h2]
theorem tab_cs {n k p : Nat} (hn : n < 21) (hk : k < n / 2 + 1) (hp : p < n) :
    fin .f32 (ph1 (slQ n k p)) = true ∧ fin .f32 (ph2 (slQ n k p)) = true ∧ fv .f32 (ph1 (slQ n k p)) = cC n k p ∧ fv .f32 (ph2 (slQ n k p)) = sS n k p ∧ cC n k p ≤ 1 ∧ -cC n k p ≤ 1 ∧ sS n k p ≤ 1 ∧ -sS n k p ≤ 1 := by
  obtain ⟨_, _, p1, p2'⟩ := ph_val hn hk hp
  obtain ⟨a1, a2⟩ := pz_le p1
  obtain ⟨b1, b2⟩ := pz_le p2'
  have e1 : fv .f32 (ph1 (slQ n k p)) = cC n k p := p1.v
  have e2 : fv .f32 (ph2 (slQ n k p)) = sS n k p := p2'.v
  rw [e1] at a1 a2
  rw [e2] at b1 b2
  exact ⟨p1.f, p2'.f, e1, e2, a1, a2, b1, b2⟩
theorem term_near {n k p : Nat} {q : Nat × Nat} (hn : n < 21) (hk : k < n / 2 + 1) (hp : p < n) (hq : Bn n q.1 ∧ Bn n q.2) :
    fin .f32 (bkT n k p q) = true ∧ tq n k p q ≤ 16004 / 1000 * (n : Rat) ∧ -tq n k p q ≤ 16004 / 1000 * (n : Rat) ∧ Near (fv .f32 (bkT n k p q)) (tq n k p q) (21 / 1000000 + 2 / 1000000 * (n : Rat)) := by
  obtain ⟨f1, f2, e1, e2, a1, a2, b1, b2⟩ := tab_cs hn hk hp
  have n20 := nat_20 hn
  have n1 := natpos (show 1 ≤ n by omega)
  have hs1 := sl_sk (bn_sl hn hq.1)
  have hs2 := sl_sk (bn_sl hn hq.2)
  obtain ⟨_, _, p1, p2'⟩ := ph_val hn hk hp
  obtain ⟨⟨m1, m2, m3, m4⟩, _⟩ := mw_told hs1 hs2 (pz_sk p1) (pz_sk p2')
  rw [e1, e2] at m4
  obtain ⟨⟨x1, x2, x3⟩, y1, y2, y3⟩ := hq
  obtain ⟨u1, u2⟩ := mul_abs' x2 x3 a1 a2
  obtain ⟨v1, v2⟩ := mul_abs' y2 y3 b1 b2
  obtain ⟨m4, m5⟩ := m4
  have he := e20n
  obtain ⟨n3, n4⟩ := nar_near m1 (M := 8003 / 1000 * (n : Rat)) (by grind) (by grind) (by grind)
  have hM : nar (mwR q.1 q.2 (ph1 (slQ n k p)) (ph2 (slQ n k p))) = bkM n k p q := rfl
  rw [hM] at n3 n4 m3
  obtain ⟨E, hE⟩ : ∃ E, fv .f32 q.1 * cC n k p - fv .f32 q.2 * sS n k p = E := ⟨_, rfl⟩
  have hE1 : E ≤ 8002 / 1000 * (n : Rat) := by grind
  have hE2 : -E ≤ 8002 / 1000 * (n : Rat) := by grind
  unfold tq
  rw [hE] at m4 m5 ⊢
  clear hE u1 u2 v1 v2 a1 a2 b1 b2 x2 x3 y2 y3
  obtain ⟨t1, t2⟩ := two32
  have hb := big12
  have heb := e20
  rcases dbl_cases n k with ⟨hd, hv⟩ | ⟨hd, hv⟩
  · unfold bkT
    rw [if_pos hd, hv]
    obtain ⟨d, e⟩ := re_mul t1 m3 (by rw [t2]; grind) (by rw [t2]; grind)
    have f := e (16007 / 1000 * (n : Rat)) (by rw [t2]; grind) (by rw [t2]; grind)
    rw [uu32, lp32, t2] at f
    exact ⟨d, by grind, by grind, by grind, by grind⟩
  · unfold bkT
    rw [if_neg (by rw [hd]; decide), hv]
    exact ⟨m3, by grind, by grind, by grind, by grind⟩
theorem sum_arith {k n s b t T r : Rat} (hk0 : 0 ≤ k) (hk : k ≤ 10) (hn : 1 ≤ n) (hn2 : n ≤ 20) (kn0 : 0 ≤ k * n) (kn : k * n ≤ 10 * n) (b1 : b ≤ k * n * (16004 / 1000)) (b2 : -b ≤ k * n * (16004 / 1000))
    (s1 : s - b ≤ k * (22 / 1000000) + k * n * (13 / 1000000)) (s2 : b - s ≤ k * (22 / 1000000) + k * n * (13 / 1000000)) (T1 : T ≤ 16004 / 1000 * n) (T2 : -T ≤ 16004 / 1000 * n) (t1 : t - T ≤ 21 / 1000000 + 2 / 1000000 * n) (t2 : T - t ≤ 21 / 1000000 + 2 / 1000000 * n) :
    s + t ≤ 177 * n ∧ -(s + t) ≤ 177 * n ∧ (r - (s + t) ≤ 1 / 16777216 * (177 * n) → s + t - r ≤ 1 / 16777216 * (177 * n) → b + T ≤ (k + 1) * n * (16004 / 1000) ∧ -(b + T) ≤ (k + 1) * n * (16004 / 1000) ∧ r - (b + T) ≤ (k + 1) * (22 / 1000000) + (k + 1) * n * (13 / 1000000) ∧ (b + T) - r ≤ (k + 1) * (22 / 1000000) + (k + 1) * n * (13 / 1000000)) := by
  refine ⟨by grind, by grind, fun h1 h2 => ⟨by grind, by grind, by grind, by grind⟩⟩
theorem sum_near {n p : Nat} {L : List (Nat × Nat)} (hn : n < 21) (hp : p < n) (hL : BnL n L) (hl : L.length = n / 2 + 1) : ∀ k, k ≤ L.length → fin .f32 (bkS n p L k) = true ∧ bq n p L k ≤ (k : Rat) * (n : Rat) * (16004 / 1000) ∧ -bq n p L k ≤ (k : Rat) * (n : Rat) * (16004 / 1000) ∧ Near (fv .f32 (bkS n p L k)) (bq n p L k) ((k : Rat) * (22 / 1000000) + (k : Rat) * (n : Rat) * (13 / 1000000))
  | 0, _ => by
    have f0 := f0'
    have e0 : ((0 : Nat) : Rat) = 0 := rfl
    simp only [bkS, bq]
    unfold Near
    rw [f0.2, e0]
    exact ⟨f0.1, by grind, by grind, by grind, by grind⟩
  | k + 1, hk => by
    obtain ⟨a, b, c, d, e⟩ := sum_near hn hp hL hl k (by omega)
    have hq : Bn n (L.getD k (0, 0)).1 ∧ Bn n (L.getD k (0, 0)).2 := hL _ (by rw [List.getD_eq_getElem?_getD, List.getElem?_eq_getElem (by omega)]; exact List.getElem_mem _)
    obtain ⟨g, h, i, j1, j2⟩ := term_near hn (show k < n / 2 + 1 by omega) hp hq
    have n20 := nat_20 hn
    have n1 := natpos (show 1 ≤ n by omega)
    have k0 : (0 : Rat) ≤ (k : Rat) := Rat.natCast_nonneg
    have k10 : (k : Rat) ≤ 10 := by have := nat_le.2 (show k ≤ 10 by omega); exact this
    have ek : ((k + 1 : Nat) : Rat) = (k : Rat) + 1 := by rw [Rat.natCast_add]; rfl
    have kn0 := Rat.mul_nonneg k0 (show (0 : Rat) ≤ (n : Rat) by grind)
    have kn := Rat.mul_le_mul_of_nonneg_right k10 (show (0 : Rat) ≤ (n : Rat) by grind)
    have hb := big12
    simp only [bkS, bq]
    rw [ek]
    obtain ⟨q1, q2, q3⟩ := sum_arith (r := fv .f32 (fb .add .f32 (bkS n p L k) (bkT n k p (L.getD k (0, 0))))) k0 k10 n1 n20 kn0 kn b c d e h i j1 j2
    obtain ⟨x, y⟩ := re_add a g (by grind) (by grind)
    have z := y (177 * (n : Rat)) q1 q2
    rw [uu32] at z
    obtain ⟨r1, r2, r3, r4⟩ := q3 z.1 z.2
    exact ⟨x, r1, r2, r3, r4⟩
/-- A place that lines lead back to. -/
theorem back_near {n p : Nat} {L : List (Nat × Nat)} (hn : n < 21) (hp : p < n) (hL : BnL n L) (hl : L.length = n / 2 + 1) : fin .f32 (bkV n p L) = true ∧ Near (fv .f32 (bkV n p L) * (n : Rat)) (bq n p L L.length) ((n : Rat) * (19 / 100000)) := by
  obtain ⟨a, b, c, d, e⟩ := sum_near hn hp hL hl L.length (Nat.le_refl _)
  have n1 := natpos (show 1 ≤ n by omega)
  have hK1 : (L.length : Rat) ≤ (n : Rat) := nat_le.2 (by omega)
  have hK2 : (L.length : Rat) ≤ 11 := by have := nat_le.2 (show L.length ≤ 11 by omega); exact this
  have hKn := Rat.mul_le_mul_of_nonneg_right hK2 (show (0 : Rat) ≤ (n : Rat) by grind)
  obtain ⟨K, hK⟩ : ∃ K, (L.length : Rat) = K := ⟨_, rfl⟩
  rw [hK] at *
  have he := e20
  obtain ⟨q, v, v1, v2, v3, v4, v5⟩ := quo_n a (n := n) (M := 177) (by omega) (by omega) (by grind) (by grind) (by grind)
  have hV : fb .quo .f32 (bkS n p L L.length) (floatOfInt .f32 (n : Int)) = bkV n p L := rfl
  rw [hV] at q v4 v5
  have w1 := Rat.mul_le_mul_of_nonneg_right (show fv .f32 (bkV n p L) - v ≤ 22 / 1000000 by grind) (show (0 : Rat) ≤ (n : Rat) by grind)
  have w2 := Rat.mul_le_mul_of_nonneg_right (show v - fv .f32 (bkV n p L) ≤ 22 / 1000000 by grind) (show (0 : Rat) ≤ (n : Rat) by grind)
  clear v2 v3 v4 v5 he hV
  exact ⟨q, by grind, by grind⟩
theorem tq_zero (n k p : Nat) : tq n k p (0, 0) = 0 := by
  unfold tq
  simp only [f0'.2]
  grind
/-- Bands add up. -/
theorem bq_add {n p : Nat} {A B L : List (Nat × Nat)} : ∀ m, (∀ k, k < m → (A.getD k (0, 0) = L.getD k (0, 0) ∧ B.getD k (0, 0) = (0, 0)) ∨ (A.getD k (0, 0) = (0, 0) ∧ B.getD k (0, 0) = L.getD k (0, 0))) → bq n p A m + bq n p B m = bq n p L m
  | 0, _ => by simp only [bq]; grind
  | k + 1, h => by
    have ih := bq_add (n := n) (p := p) k (fun j hj => h j (by omega))
    simp only [bq]
    rcases h k (by omega) with ⟨a, b⟩ | ⟨a, b⟩ <;> rw [a, b, tq_zero] <;> grind
/-- The same out of exact lines. -/
def bx (n p : Nat) (xs : List Nat) : Nat → Rat
  | 0 => 0
  | k + 1 => bx n p xs k + (dbl n k : Rat) * (lnA n k xs n * cC n k p - lnB n k xs n * sS n k p)
theorem slL_at {xs : List Nat} {m k : Nat} (h : k < m) : (slL xs m).getD k (0, 0) = slS xs.length k xs xs.length := by
  unfold slL
  rw [List.getD_eq_getElem?_getD, List.getElem?_map, List.getElem?_range h]
  rfl
theorem lines_bn {xs : List Nat} (h : Sg xs) (hl : xs.length < 21) : BnL xs.length (slL xs (xs.length / 2 + 1)) := by
  intro q hq
  unfold slL at hq
  simp only [List.mem_map, List.mem_range] at hq
  obtain ⟨k, hk, rfl⟩ := hq
  have n0 : (0 : Rat) ≤ (xs.length : Rat) := Rat.natCast_nonneg
  obtain ⟨⟨a1, a2, a3, a4, a5⟩, b1, b2, b3, b4, b5⟩ := line_near h hl hk xs.length (Nat.le_refl _)
  exact ⟨⟨a1, by grind, by grind⟩, b1, by grind, by grind⟩
theorem bx_arith {d a A C b B S e : Rat} (hd : d = 1 ∨ d = 2) (he : 0 ≤ e) (a1 : a - A ≤ e) (a2 : A - a ≤ e) (b1 : b - B ≤ e) (b2 : B - b ≤ e) (c1 : C ≤ 1) (c2 : -C ≤ 1) (s1 : S ≤ 1) (s2 : -S ≤ 1) :
    d * (a * C - b * S) - d * (A * C - B * S) ≤ 4 * e ∧ d * (A * C - B * S) - d * (a * C - b * S) ≤ 4 * e := by
  obtain ⟨u1, u2⟩ := mul_abs' (x := a - A) (a := e) a1 (by grind) c1 c2
  obtain ⟨v1, v2⟩ := mul_abs' (x := b - B) (a := e) b1 (by grind) s1 s2
  have x1 : a * C - A * C ≤ e := by grind
  have x2 : A * C - a * C ≤ e := by grind
  have y1 : b * S - B * S ≤ e := by grind
  have y2 : B * S - b * S ≤ e := by grind
  clear u1 u2 v1 v2
  rcases hd with rfl | rfl <;> constructor <;> grind
theorem bq_bx {xs : List Nat} (h : Sg xs) (hl : xs.length < 21) {p : Nat} (hp : p < xs.length) : ∀ k, k ≤ xs.length / 2 + 1 → Near (bq xs.length p (slL xs (xs.length / 2 + 1)) k) (bx xs.length p xs k) ((k : Rat) * ((xs.length : Rat) * (24 / 1000000)))
  | 0, _ => by
    have e0 : ((0 : Nat) : Rat) = 0 := rfl
    simp only [bq, bx]
    unfold Near
    rw [e0]
    constructor <;> grind
  | k + 1, hk => by
    obtain ⟨a, b⟩ := bq_bx h hl hp k (by omega)
    obtain ⟨⟨_, _, _, a4, a5⟩, _, _, _, b4, b5⟩ := line_near h hl (k := k) (by omega) xs.length (Nat.le_refl _)
    obtain ⟨_, _, _, _, c1, c2, s1, s2⟩ := tab_cs hl (show k < xs.length / 2 + 1 by omega) hp
    have n0 : (0 : Rat) ≤ (xs.length : Rat) := Rat.natCast_nonneg
    have hd : (dbl xs.length k : Rat) = 1 ∨ (dbl xs.length k : Rat) = 2 := by rcases dbl_cases xs.length k with h | h <;> simp [h.2]
    obtain ⟨x1, x2⟩ := bx_arith hd (show 0 ≤ (xs.length : Rat) * (6 / 1000000) by grind) a4 a5 b4 b5 c1 c2 s1 s2
    have ek : ((k + 1 : Nat) : Rat) = (k : Rat) + 1 := by rw [Rat.natCast_add]; rfl
    simp only [bq, bx]
    rw [slL_at (show k < xs.length / 2 + 1 by omega), ek]
    unfold tq
    generalize (dbl xs.length k : Rat) * (fv .f32 (slS xs.length k xs xs.length).1 * cC xs.length k p - fv .f32 (slS xs.length k xs xs.length).2 * sS xs.length k p) = X at *
    generalize (dbl xs.length k : Rat) * (lnA xs.length k xs xs.length * cC xs.length k p - lnB xs.length k xs xs.length * sS xs.length k p) = Y at *
    constructor <;> grind
/-- Places first. -/
def oq (n p : Nat) (xs : List Nat) (m : Nat) : Nat → Rat
  | 0 => 0
  | i + 1 => oq n p xs m i + fv .f32 (xs.getD i 0) * ((orS n i p m : Int) : Rat) * (p2 (-30) * p2 (-30))
theorem oq_zero (n p : Nat) (xs : List Nat) : ∀ i, oq n p xs 0 i = 0
  | 0 => rfl
  | i + 1 => by
    simp only [oq, oq_zero n p xs i, orS]
    have e : ((0 : Int) : Rat) = 0 := rfl
    rw [e]; grind
theorem oq_succ (n p : Nat) (xs : List Nat) (m : Nat) : ∀ i, oq n p xs (m + 1) i = oq n p xs m i + (dbl n m : Rat) * (lnA n m xs i * cC n m p - lnB n m xs i * sS n m p)
  | 0 => by simp only [oq, lnA, lnB]; grind
  | i + 1 => by
    simp only [oq, lnA, lnB, oq_succ n p xs m i, orS, cC, sS]
    rw [Rat.intCast_add, Rat.intCast_mul, Rat.intCast_sub, Rat.intCast_mul, Rat.intCast_mul]
    grind
theorem bx_oq (n p : Nat) (xs : List Nat) : ∀ m, bx n p xs m = oq n p xs m n
  | 0 => by rw [oq_zero]; rfl
  | m + 1 => by rw [oq_succ, bx, bx_oq n p xs m]
theorem or_near {n i p : Nat} (hn : n < 21) (hi : i < n) (hp : p < n) : Near (((orS n i p (n / 2 + 1) : Int) : Rat) * (p2 (-30) * p2 (-30))) (if i = p then (n : Rat) else 0) ((n : Rat) * (1 / 10000000)) := by
  have h := orth_tab n hn i hi p hp
  unfold orOk at h
  have hd := of_decide_eq_true h
  obtain ⟨a, b⟩ := z_abs hd
  have e : p2 (-30) = 1 / 1073741824 := by decide +kernel
  have n0 : (0 : Rat) ≤ (n : Rat) := Rat.natCast_nonneg
  rw [Rat.natCast_mul] at a b
  have e1 : ((57646075230 : Nat) : Rat) = 57646075230 := rfl
  rw [e1] at a b
  rw [e]
  generalize orS n i p (n / 2 + 1) = z at *
  clear h hd
  split
  · rename_i hip
    rw [if_pos hip, Rat.intCast_sub, Rat.intCast_mul, Rat.intCast_natCast] at a b
    have e2 : ((1152921504606846976 : Int) : Rat) = 1152921504606846976 := rfl
    rw [e2] at a b
    constructor <;> grind
  · rename_i hip
    rw [if_neg hip, Rat.intCast_sub] at a b
    have e2 : ((0 : Int) : Rat) = 0 := rfl
    rw [e2] at a b
    constructor <;> grind
theorem oq_arith {x y N d : Rat} (x1 : x ≤ 4) (x2 : -x ≤ 4) (h1 : y - d ≤ N * (1 / 10000000)) (h2 : d - y ≤ N * (1 / 10000000)) (hN : 0 ≤ N) : x * y - x * d ≤ N * (4 / 10000000) ∧ x * d - x * y ≤ N * (4 / 10000000) := by
  have p1 := Rat.mul_nonneg (show 0 ≤ 4 - x by grind) (show 0 ≤ N * (1 / 10000000) + (y - d) by grind)
  have p2 := Rat.mul_nonneg (show 0 ≤ 4 + x by grind) (show 0 ≤ N * (1 / 10000000) - (y - d) by grind)
  have p3 := Rat.mul_nonneg (show 0 ≤ 4 - x by grind) (show 0 ≤ N * (1 / 10000000) - (y - d) by grind)
  have p4 := Rat.mul_nonneg (show 0 ≤ 4 + x by grind) (show 0 ≤ N * (1 / 10000000) + (y - d) by grind)
  constructor <;> grind
theorem oq_near {xs : List Nat} (h : Sg xs) (hl : xs.length < 21) {p : Nat} (hp : p < xs.length) : ∀ i, i ≤ xs.length → Near (oq xs.length p xs (xs.length / 2 + 1) i) (if p < i then (xs.length : Rat) * fv .f32 (xs.getD p 0) else 0) ((i : Rat) * ((xs.length : Rat) * (4 / 10000000)))
  | 0, _ => by
    have e0 : ((0 : Nat) : Rat) = 0 := rfl
    rw [if_neg (by omega), e0]
    simp only [oq]
    constructor <;> grind
  | i + 1, hi => by
    obtain ⟨a, b⟩ := oq_near h hl hp i (by omega)
    obtain ⟨_, _, _, x2, x3⟩ := qF_gr (h.at_ (getD_mem (show i < xs.length by omega)))
    obtain ⟨c, d⟩ := or_near hl (show i < xs.length by omega) hp
    have n0 : (0 : Rat) ≤ (xs.length : Rat) := Rat.natCast_nonneg
    have ek : ((i + 1 : Nat) : Rat) = (i : Rat) + 1 := by rw [Rat.natCast_add]; rfl
    obtain ⟨y1, y2⟩ := oq_arith x2 x3 c d n0
    simp only [oq]
    rw [ek]
    have ea : fv .f32 (xs.getD i 0) * ((orS xs.length i p (xs.length / 2 + 1) : Int) : Rat) * (p2 (-30) * p2 (-30)) = fv .f32 (xs.getD i 0) * (((orS xs.length i p (xs.length / 2 + 1) : Int) : Rat) * (p2 (-30) * p2 (-30))) := by rw [Rat.mul_assoc]
    rw [ea]
    rcases (by omega : p < i ∨ p = i ∨ i < p) with hh | rfl | hh
    · rw [if_pos hh] at a b
      rw [if_pos (by omega)]
      rw [if_neg (by omega)] at y1 y2
      constructor <;> grind
    · rw [if_neg (by omega)] at a b
      rw [if_pos (by omega)]
      rw [if_pos rfl] at y1 y2
      constructor <;> grind
    · rw [if_neg (by omega)] at a b
      rw [if_neg (by omega)]
      rw [if_neg (by omega)] at y1 y2
      constructor <;> grind
/-- All lines lead back. -/
theorem all_near {xs : List Nat} (h : Sg xs) (hl : xs.length < 21) {p : Nat} (hp : p < xs.length) : Near (bq xs.length p (slL xs (xs.length / 2 + 1)) (xs.length / 2 + 1)) ((xs.length : Rat) * fv .f32 (xs.getD p 0)) ((xs.length : Rat) * (28 / 100000)) := by
  obtain ⟨a, b⟩ := bq_bx h hl hp (xs.length / 2 + 1) (Nat.le_refl _)
  obtain ⟨c, d⟩ := oq_near h hl hp xs.length (Nat.le_refl _)
  rw [if_pos hp] at c d
  rw [bx_oq] at a b
  have n0 : (0 : Rat) ≤ (xs.length : Rat) := Rat.natCast_nonneg
  have n20 := nat_20 hl
  have hK2 : ((xs.length / 2 + 1 : Nat) : Rat) ≤ 11 := by have := nat_le.2 (show xs.length / 2 + 1 ≤ 11 by omega); exact this
  have hKn := Rat.mul_le_mul_of_nonneg_right hK2 n0
  have hNn := Rat.mul_le_mul_of_nonneg_right n20 n0
  generalize ((xs.length / 2 + 1 : Nat) : Rat) = K at *
  constructor <;> grind
theorem div_near {y x N e : Rat} (hN : 1 ≤ N) (h1 : y * N - N * x ≤ N * e) (h2 : N * x - y * N ≤ N * e) : Near y x e := by
  have hp : 0 < N := by grind
  constructor
  · exact Rat.le_of_mul_le_mul_right (c := N) (by grind) hp
  · exact Rat.le_of_mul_le_mul_right (c := N) (by grind) hp
theorem back_told {xs : List Nat} (h : Sg xs) (hl : xs.length < 21) {p : Nat} (hp : p < xs.length) : fin .f32 (bkV xs.length p (slL xs (xs.length / 2 + 1))) = true ∧ Near (fv .f32 (bkV xs.length p (slL xs (xs.length / 2 + 1)))) (fv .f32 (xs.getD p 0)) (47 / 100000) := by
  obtain ⟨a, b, c⟩ := back_near hl hp (lines_bn h hl) (slL_len _ _)
  rw [slL_len] at b c
  obtain ⟨d, e⟩ := all_near h hl hp
  have n1 := natpos (show 1 ≤ xs.length by omega)
  refine ⟨a, div_near n1 ?_ ?_⟩ <;> grind
/-- Two bands lead back together. -/
theorem bands_told {xs : List Nat} (h : Sg xs) (hl : xs.length < 21) {p : Nat} (hp : p < xs.length) {A B : List (Nat × Nat)} (hA : A.length = xs.length / 2 + 1) (hB : B.length = xs.length / 2 + 1)
    (hAB : ∀ k, k < xs.length / 2 + 1 → (A.getD k (0, 0) = (slL xs (xs.length / 2 + 1)).getD k (0, 0) ∧ B.getD k (0, 0) = (0, 0)) ∨ (A.getD k (0, 0) = (0, 0) ∧ B.getD k (0, 0) = (slL xs (xs.length / 2 + 1)).getD k (0, 0))) (bA : BnL xs.length A) (bB : BnL xs.length B) :
    fin .f32 (bkV xs.length p A) = true ∧ fin .f32 (bkV xs.length p B) = true ∧ Near (fv .f32 (bkV xs.length p A) + fv .f32 (bkV xs.length p B)) (fv .f32 (xs.getD p 0)) (66 / 100000) := by
  obtain ⟨a, b, c⟩ := back_near hl hp bA hA
  obtain ⟨a2, b2, c2⟩ := back_near hl hp bB hB
  have hs := bq_add (n := xs.length) (p := p) (xs.length / 2 + 1) hAB
  rw [hA] at b c
  rw [hB] at b2 c2
  obtain ⟨d, e⟩ := all_near h hl hp
  have n1 := natpos (show 1 ≤ xs.length by omega)
  refine ⟨a, a2, div_near n1 ?_ ?_⟩ <;> grind
end Go.Proofs.Yteabfkgbakoljaa

/-
  Powers, roots and logarithms of lines that are not great: the plain law.
-/
namespace Go.Proofs.Yteabfkgbakoljaa
open Go.RowKit Mem Fl
set_option linter.unusedVariables false
set_option maxRecDepth 100000

theorem u64c : uu .f64 = 1 / 9007199254740992 := by decide +kernel
theorem lp64c : p2 (FloatKind.f64.format.leastPlace - 1) ≤ 1 / 100000000000000000000 := by decide +kernel
theorem lp64n : 0 ≤ p2 (FloatKind.f64.format.leastPlace - 1) := p2_nn _
theorem big64d : (1000000000000000000000 : Rat) ≤ big .f64 := by decide +kernel
/-- A part of at most M. -/
def Pm (M : Rat) (x : Nat) : Prop := fin .f32 x = true ∧ fv .f32 x ≤ M ∧ -fv .f32 x ≤ M
theorem sq_le_of {x M : Rat} (h1 : x ≤ M) (h2 : -x ≤ M) : x * x ≤ M * M := by
  have p := Rat.mul_nonneg (show 0 ≤ M - x by grind) (show 0 ≤ M + x by grind)
  grind
theorem sq_pm {M : Rat} {x : Nat} (hM : M * M ≤ 1000000000) (h : Pm M x) : fin .f64 (fb .mul .f64 (wide x) (wide x)) = true ∧ 0 ≤ fv .f64 (fb .mul .f64 (wide x) (wide x)) ∧ Near (fv .f64 (fb .mul .f64 (wide x) (wide x))) (fv .f32 x * fv .f32 x) (1 / 9007199254740992 * (M * M) + 1 / 100000000000000000000) ∧ fv .f32 x * fv .f32 x ≤ M * M ∧ 0 ≤ fv .f32 x * fv .f32 x := by
  obtain ⟨f, h1, h2⟩ := h
  obtain ⟨w1, v1⟩ := re_wide f
  have hs := sq_of_nn (fv .f32 x)
  have hq := sq_le_of h1 h2
  have hb := big64d
  have hl := lp64c
  obtain ⟨a, b⟩ := re_mul w1 w1 (by rw [v1]; grind) (by rw [v1]; grind)
  have c := b (M * M) (by rw [v1]; exact hq) (by rw [v1]; grind)
  rw [u64c, v1] at c
  have hn : 0 ≤ fv .f64 (fb .mul .f64 (wide x) (wide x)) := by
    obtain ⟨s, m, i, rx, _, _⟩ := fin_read w1
    rw [fb_mul_eq rx rx]
    have hv : sg (s ^^ s) * (((m * m : Nat) : Rat) * p2 (i + i)) = fv .f64 (wide x) * fv .f64 (wide x) := by rw [prod_val, fv_num rx]
    exact write_nn (by rw [hv, v1]; exact hs) (by rw [hv, v1]; grind)
  exact ⟨a, hn, ⟨by grind, by grind⟩, hq, hs⟩
/-- The power, in 64 bits. -/
theorem pw_pm {M : Rat} {a b : Nat} (hM : M * M ≤ 1000000000) (ha : Pm M a) (hb : Pm M b) : fin .f64 (pwW a b) = true ∧ 0 ≤ fv .f64 (pwW a b) ∧ Near (fv .f64 (pwW a b)) (fv .f32 a * fv .f32 a + fv .f32 b * fv .f32 b) (5 / 9007199254740992 * (M * M) + 4 / 100000000000000000000) := by
  obtain ⟨a1, a2, ⟨a3, a4⟩, a5, a6⟩ := sq_pm hM ha
  obtain ⟨b1, b2, ⟨b3, b4⟩, b5, b6⟩ := sq_pm hM hb
  have hbg := big64d
  obtain ⟨s1, s2⟩ := re_add a1 b1 (by grind) (by grind)
  have hW : fb .add .f64 (fb .mul .f64 (wide a) (wide a)) (fb .mul .f64 (wide b) (wide b)) = pwW a b := rfl
  have s3 := s2 (fv .f64 (fb .mul .f64 (wide a) (wide a)) + fv .f64 (fb .mul .f64 (wide b) (wide b))) (by grind) (by grind)
  rw [u64c] at s3
  rw [hW] at s1 s3
  clear s2 hW
  generalize fv .f64 (fb .mul .f64 (wide a) (wide a)) = X at *
  generalize fv .f64 (fb .mul .f64 (wide b) (wide b)) = Y at *
  exact ⟨s1, by grind, by grind, by grind⟩
/-- The power of a line. -/
theorem pv_pm {M : Rat} {a b : Nat} (hM : M * M ≤ 1000000000) (ha : Pm M a) (hb : Pm M b) : narOk (pwW a b) ∧ Pv (pwV a b) ∧ fv .f32 (pwV a b) ≤ 21 / 10 * (M * M) + 1 / 1000 := by
  obtain ⟨a1, a2, a3, a4⟩ := pw_pm hM ha hb
  obtain ⟨_, _, _, a5, a6⟩ := sq_pm hM ha
  obtain ⟨_, _, _, b5, b6⟩ := sq_pm hM hb
  have hb := big12
  obtain ⟨n1, n2, n3⟩ := re_nar a1 (by grind) (by grind)
  have n4 := n3 (fv .f64 (pwW a b)) (by grind) (by grind)
  rw [uu32] at n4
  have n5 := nar_nn a1 a2 (by grind)
  have he := e20
  have hV : nar (pwW a b) = pwV a b := rfl
  rw [hV] at n2 n4 n5
  exact ⟨n1, ⟨n2, n5⟩, by grind⟩
/-- The length of a point. -/
def lnV (a b : Nat) : Nat := nar (sq (pwW a b))
theorem long_arith {r a Q : Rat} (r0 : 0 ≤ r) (h : a * a ≤ r * r + Q) (hQ : Q ≤ 1 / 400000000) : a ≤ r + 1 / 20000 := by
  have := sq_mono (a := a) (b := r + 1 / 20000) (by grind) (by grind)
  exact this
theorem long_told {a b : Nat} (ha : Pm 1000 a) (hb : Pm 1000 b) : fin .f64 (pwW a b) = true ∧ fin .f64 (sq (pwW a b)) = true ∧ narOk (sq (pwW a b)) ∧ fin .f32 (lnV a b) = true ∧ fv .f32 a ≤ fv .f32 (lnV a b) + 2 / 10000 ∧ -fv .f32 a ≤ fv .f32 (lnV a b) + 2 / 10000 := by
  obtain ⟨a1, a2, a3, a4⟩ := pw_pm (by grind) ha hb
  obtain ⟨_, _, _, a5, a6⟩ := sq_pm (by grind) ha
  obtain ⟨_, _, _, b5, b6⟩ := sq_pm (by grind) hb
  have hp : (1000000000 : Rat) ≤ p2 1000 := by decide +kernel
  obtain ⟨s1, s2, s3, s4⟩ := re_sq a1 a2 (by grind)
  rw [p2m51] at s3 s4
  obtain ⟨r, hr⟩ : ∃ r, fv .f64 (sq (pwW a b)) = r := ⟨_, rfl⟩
  rw [hr] at s2 s3 s4
  have hbg := big12
  have r1 : r ≤ 2000 := sq_mono (a := r) (b := 2000) (by grind) (by grind)
  have l1 := long_arith (a := fv .f32 a) (r := r) (Q := 1 / 2251799813685248 * (2000 * 2000) + 5 / 9007199254740992 * (1000 * 1000) + 4 / 100000000000000000000) s2 (by have := sq_le_of (x := r) (M := 2000) r1 (by grind); grind) (by grind)
  have l2 := long_arith (a := -fv .f32 a) (r := r) (Q := 1 / 2251799813685248 * (2000 * 2000) + 5 / 9007199254740992 * (1000 * 1000) + 4 / 100000000000000000000) s2 (by have := sq_le_of (x := r) (M := 2000) r1 (by grind); grind) (by grind)
  obtain ⟨n1, n2, n3⟩ := re_nar s1 (by rw [hr]; grind) (by rw [hr]; grind)
  have n4 := n3 r (by rw [hr]; grind) (by rw [hr]; grind)
  have n5 := nar_nn s1 (by rw [hr]; exact s2) (by rw [hr]; grind)
  rw [uu32, hr] at n4
  have he := e20
  have hV : nar (sq (pwW a b)) = lnV a b := rfl
  rw [hV] at n2 n4 n5
  exact ⟨a1, s1, n1, n2, by grind, by grind⟩
end Go.Proofs.Yteabfkgbakoljaa

/-
  A signal of lines that are not great: the program's walk.
-/
namespace Go.Proofs.Yteabfkgbakoljaa
open Go.RowKit Mem Fl
set_option linter.unusedVariables false
set_option maxRecDepth 100000

theorem bk_at {L : List (Nat × Nat)} {k : Nat} {q : Nat × Nat} (h : L[k]? = some q) : L.getD k (0, 0) = q := by
  rw [List.getD_eq_getElem?_getD, h]; rfl
theorem sl_all {L : List (Nat × Nat)} (h : SlL L) : L.all cfp = true := by
  rw [List.all_eq_true]
  intro q hq
  obtain ⟨a, b⟩ := h q hq
  simp [cfp, cfin, a.1, b.1]
theorem bkT_word {n k p : Nat} {q : Nat × Nat} (hn : n < 21) (hk : k < n / 2 + 1) (hp : p < n) (hq : Sl q.1 ∧ Sl q.2) (hd : dblB n k = true) : (∀ W, flR .mul .f32 1073741824 (bkM n k p q) W = bkT n k p q) ∧ flN .mul .f32 1073741824 (bkM n k p q) = 0 := by
  obtain ⟨a, _⟩ := bkT_fin hn hk hp hq
  unfold bkT at a ⊢
  rw [if_pos hd] at a ⊢
  exact ⟨fun W => flR_num (fin_n32 a) W, flN_num (fin_n32 a)⟩
theorem bkS_word {n k p : Nat} {L : List (Nat × Nat)} {q : Nat × Nat} (hn : n < 21) (hp : p < n) (hL : SlL L) (hl : L.length = n / 2 + 1) (hk : L[k]? = some q) : (∀ W, flR .add .f32 (bkS n p L k) (bkT n k p q) W = bkS n p L (k + 1)) ∧ flN .add .f32 (bkS n p L k) (bkT n k p q) = 0 := by
  have hk' : k < L.length := by
    rcases Nat.lt_or_ge k L.length with h | h
    · exact h
    · rw [List.getElem?_eq_none h] at hk; exact absurd hk (by simp)
  obtain ⟨a, _⟩ := bkS_fin hn hp hL hl (k + 1) (by omega)
  have e := bk_at hk
  simp only [bkS, e] at a ⊢
  exact ⟨fun W => flR_num (fin_n32 a) W, flN_num (fin_n32 a)⟩
theorem bkV_word {n p : Nat} {L : List (Nat × Nat)} (hn : n < 21) (hp : p < n) (hL : SlL L) (hl : L.length = n / 2 + 1) : (∀ W, flR .quo .f32 (bkS n p L L.length) (floatOfInt .f32 (n : Int)) W = bkV n p L) ∧ flN .quo .f32 (bkS n p L L.length) (floatOfInt .f32 (n : Int)) = 0 := by
  have a := bkV_fin hn hp hL hl
  unfold bkV at a ⊢
  exact ⟨fun W => flR_num (fin_n32 a) W, flN_num (fin_n32 a)⟩
theorem bkL_succ (n : Nat) (L : List (Nat × Nat)) (m : Nat) : bkL n L (m + 1) = bkL n L m ++ [bkV n m L] := by
  simp [bkL, List.range_succ]
theorem bkL_len (n : Nat) (L : List (Nat × Nat)) (m : Nat) : (bkL n L m).length = m := by simp [bkL]
theorem bkL_fin {n : Nat} {L : List (Nat × Nat)} (hn : n < 21) (hL : SlL L) (hl : L.length = n / 2 + 1) : (bkL n L n).all (fin .f32) = true := by
  rw [List.all_eq_true]
  intro x hx
  simp only [bkL, List.mem_map, List.mem_range] at hx
  obtain ⟨p, hp, rfl⟩ := hx
  exact bkV_fin hn hp hL hl
set_option maxHeartbeats 4000000 in
theorem i_SignalOfLines {A : Option Addr} {n c : Nat} {L : List (Nat × Nat)} {w : World} (h : Reads w w.heap.size 1 A (n / 2 + 1) (cl L)) (hL : SlL L) (h1 : 1 ≤ n) (hn : n < 21) :
    Calls Try.prog 41 #[.slice A (n / 2 + 1) c, .int .i64 (n : Int)] w fun e w' => ∃ v, e = .returned (.tuple #[v, .bool true]) ∧ w'.ownsRow w.heap.size 27 1 v n (fl .f32 (bkL n L n)) ∧ Below w.heap.size w w' := by
  have hl : L.length = n / 2 + 1 := h.map_len
  obtain ⟨m, hm⟩ : ∃ m, n / 2 = m := ⟨_, rfl⟩
  have hmI : (n : Int).tdiv 2 = (m : Int) := by rw [← hm]; rfl
  have hm2 : m ≤ 10 := by omega
  have hin : inB (n : Int) 1 96 = true := by simp [inB]; omega
  have HA := hide (sl_all hL)
  have HF := hide (bkL_fin hn hL hl)
  have HS : Hid (∀ p k q, p < n → L[k]? = some q → _) := hide (fun p k q hp hk => bkS_word (n := n) (p := p) hn hp hL hl hk)
  have HT : Hid (∀ (p k : Nat) (q : Nat × Nat), k < n / 2 + 1 → p < n → Sl q.1 ∧ Sl q.2 → dblB n k = true → _) := hide (fun p k q hk hp hq hd => bkT_word (n := n) (k := k) (p := p) (q := q) hn hk hp hq hd)
  have HV : Hid (∀ p, p < n → _) := hide (fun p hp => bkV_word (n := n) (p := p) hn hp hL hl)
  have HL := hide hL
  have Hl := hide hl
  have Hm := hide hm
  rw [hm] at h ⊢
  clear hL hl hm
  go_enter Try.func41, Try.ntmps41
  go_wp2_with fail
  refine (i_within _ _ _ _).mono ?_
  rintro e w' ⟨rfl, rfl⟩
  rw [hin]
  go_wp2_with fail
  refine (i_areLines h (by unfold maxLen; omega)).mono ?_
  rintro e w' ⟨rfl, q0, rfl⟩
  rw [HA.out]
  go_wp2_with fail
  have bel0 : Below w.heap.size w ((w.drewN q0).alloc (.cells #[] 27)) := (below_drewN (Below.refl _ _) _).alloc (Nat.le_refl _) _
  go_loopw [7, 32] (fun v i wr => ∃ p : Nat, p ≤ n ∧ i = .int .i64 (p : Int) ∧ Hid (wr.ownsRow w.heap.size 27 1 v p (fl .f32 (bkL n L p))) ∧ Below w.heap.size w wr) (fun _ i _ => n - (intOf i).toNat)
  case atStart => exact ⟨0, Nat.zero_le _, rfl, hide (own_emp rfl (Nat.le_refl _)), bel0⟩
  case round =>
    clear bel0
    obtain ⟨p, hp, rfl, Hown, hbel⟩ := hrel
    rename World => wo
    have hsz := hbel.size
    by_cases hlt : p < n
    · have hlt' : (p : Int) < (n : Int) := by omega
      go_wp2
      go_loopw [9, 37] (fun s i wr => ∃ k q : Nat, k ≤ m + 1 ∧ i = .int .i64 (k : Int) ∧ s = .float .f32 (bkS n p L k) ∧ wr = wo.drewN q) (fun _ i _ => m + 1 - (intOf i).toNat)
      case atStart => exact ⟨0, 0, Nat.zero_le _, rfl, rfl, rfl⟩
      case round =>
        obtain ⟨k, q, hk, rfl, rfl, rfl⟩ := hrel
        by_cases hjt : k < m + 1
        · have hjt' : (k : Int) < (m : Int) + 1 := by omega
          obtain ⟨ad, x, rfl, _, hx, hc⟩ := (h.below hbel).map_at hjt
          have HX := hide (HS.out p k x hlt hx)
          have hq : Sl x.1 ∧ Sl x.2 := HL.out x (List.mem_of_getElem? hx)
          obtain ⟨_, _, pz1, pz2⟩ := ph_val (n := n) (k := k) (i := p) hn (by rw [Hm.out]; exact hjt) hlt
          have HQ := hide (And.intro (And.intro (sl_sk hq.1) (sl_sk hq.2)) (And.intro (pz_sk pz1) (pz_sk pz2)))
          have HT2 : Hid (dblB n k = true → _) := hide (fun hd => HT.out p k x (by rw [Hm.out]; exact hjt) hlt hq hd)
          have hk2 : k < n / 2 + 1 := by rw [Hm.out]; exact hjt
          clear hx hq pz1 pz2
          cases hd : dblB n k with
          | true =>
            obtain ⟨t1, t1n⟩ := HT2.out hd
            unfold bkM at t1 t1n
            obtain ⟨x1, x1n⟩ := HX.out
            go_wp2_with (first
              | (go_at_call 96; refine (i_phase hn hk2 hlt).mono ?_; rintro e w' ⟨rfl, m1, rfl⟩)
              | (go_at_call 95; refine (i_MulComplex HQ.out.1.1 HQ.out.1.2 HQ.out.2.1 HQ.out.2.2).mono ?_; rintro e w' ⟨rfl, m2, rfl⟩)
              | (go_at_call 97; refine (i_isDouble hn hk2).mono ?_; rintro e w' ⟨rfl, rfl⟩; rw [hd]))
            go_roundw
            case rel => exact ⟨k + 1, _, by omega, by go_num, rfl, rfl⟩
            case measure => simp [intOf]; omega
          | false =>
            have e1 : bkM n k p x = bkT n k p x := by unfold bkT; rw [hd]; rfl
            obtain ⟨x1, x1n⟩ := HX.out
            rw [← e1] at x1 x1n
            unfold bkM at x1 x1n
            go_wp2_with (first
              | (go_at_call 96; refine (i_phase hn hk2 hlt).mono ?_; rintro e w' ⟨rfl, m1, rfl⟩)
              | (go_at_call 95; refine (i_MulComplex HQ.out.1.1 HQ.out.1.2 HQ.out.2.1 HQ.out.2.2).mono ?_; rintro e w' ⟨rfl, m2, rfl⟩)
              | (go_at_call 97; refine (i_isDouble hn hk2).mono ?_; rintro e w' ⟨rfl, rfl⟩; rw [hd]))
            go_roundw
            case rel => exact ⟨k + 1, _, by omega, by go_num, rfl, rfl⟩
            case measure => simp [intOf]; omega
        · obtain rfl : k = m + 1 := by omega
          have hlen : L.length = m + 1 := by rw [Hl.out, Hm.out]
          have HV2 := HV.out p hlt
          rw [hlen] at HV2
          obtain ⟨v1, v1n⟩ := HV2
          go_wp2_with (at_builtin; refine wpList_append1 rfl (.tmp 58) (.tmp 63) 36 rfl w.heap.size 27 (.float .f32 0) _ 4 info_f32 Try.underlying36 rfl rfl _ _ _ rfl (own_drewN Hown.out _) rfl rfl (by omega) (by omega) (by simp; omega) ?_)
          intro v' w' hown' hb'
          have hbel' : Below w.heap.size w w' := (below_drewN hbel _).trans hb'
          have HO := hide (own_snoc hown')
          clear hown' hb'
          go_wp2
          go_roundw
          case rel => exact ⟨p + 1, by omega, by go_num, hide (by rw [bkL_succ]; exact HO.out), hbel'⟩
          case measure => simp [intOf]; omega
    · obtain rfl : p = n := by omega
      obtain ⟨OA, oc, hov⟩ := own_shape Hown.out
      subst hov
      have hR2 := Reads.of_own Hown.out
      go_wp2_with (go_at_call 60; refine (i_ifAll_yes hR2 (by unfold maxLen; omega) HF.out).mono ?_; rintro e w' ⟨rfl, m', rfl⟩)
      go_ret2
      exact ⟨_, rfl, own_drewN Hown.out _, below_drewN hbel _⟩
end Go.Proofs.Yteabfkgbakoljaa

/-
  Turned signals of what the laws draw, and their envelopes: the program's walk.
-/
namespace Go.Proofs.Yteabfkgbakoljaa
open Go.RowKit Mem Fl
set_option linter.unusedVariables false
set_option maxRecDepth 100000

theorem fin_cnw {x : Nat} (h : fin .f32 x = true) : cn .f32 x = x := cn_num (fin_n32 h)
theorem word_told64 {a X : Nat} (h : cn .f64 a = X) (hf : fin .f64 X = true) : a = X := by
  cases hn : isNan .f64 a with
  | true => rw [cn_nan hn] at h; subst h; exact absurd hf (by decide +kernel)
  | false => rwa [cn_num hn] at h
def bkMi (n k p : Nat) (q : Nat × Nat) : Nat := nar (mwI q.1 q.2 (ph1 (slQ n k p)) (ph2 (slQ n k p)))
def bkTi (n k p : Nat) (q : Nat × Nat) : Nat := if dblB n k = true then fb .mul .f32 1073741824 (bkMi n k p q) else bkMi n k p q
def bkSi (n p : Nat) (L : List (Nat × Nat)) : Nat → Nat
  | 0 => 0
  | k + 1 => fb .add .f32 (bkSi n p L k) (bkTi n k p (L.getD k (0, 0)))
def bkVi (n p : Nat) (L : List (Nat × Nat)) : Nat := fb .quo .f32 (bkSi n p L L.length) (floatOfInt .f32 (n : Int))
def tdL (n : Nat) (L : List (Nat × Nat)) (m : Nat) : List (Nat × Nat) := (List.range m).map fun p => (bkV n p L, bkVi n p L)
def enL (n : Nat) (L : List (Nat × Nat)) (m : Nat) : List Nat := (List.range m).map fun p => lnV (bkV n p L) (bkVi n p L)
theorem tdL_succ (n : Nat) (L : List (Nat × Nat)) (m : Nat) : tdL n L (m + 1) = tdL n L m ++ [(bkV n m L, bkVi n m L)] := by simp [tdL, List.range_succ]
theorem tdL_len (n : Nat) (L : List (Nat × Nat)) (m : Nat) : (tdL n L m).length = m := by simp [tdL]
theorem enL_succ (n : Nat) (L : List (Nat × Nat)) (m : Nat) : enL n L (m + 1) = enL n L m ++ [lnV (bkV n m L) (bkVi n m L)] := by simp [enL, List.range_succ]
theorem term_i {n k p : Nat} {q : Nat × Nat} (hn : n < 21) (hk : k < n / 2 + 1) (hp : p < n) (hq : Bn n q.1 ∧ Bn n q.2) :
    fin .f32 (bkMi n k p q) = true ∧ fin .f32 (bkTi n k p q) = true ∧ fv .f32 (bkTi n k p q) ≤ 161 / 10 * (n : Rat) ∧ -fv .f32 (bkTi n k p q) ≤ 161 / 10 * (n : Rat) := by
  obtain ⟨f1, f2, e1, e2, a1, a2, b1, b2⟩ := tab_cs hn hk hp
  have n20 := nat_20 hn
  have n1 := natpos (show 1 ≤ n by omega)
  have hs1 := sl_sk (bn_sl hn hq.1)
  have hs2 := sl_sk (bn_sl hn hq.2)
  obtain ⟨_, _, p1, p2'⟩ := ph_val hn hk hp
  obtain ⟨_, m1, m2, m3, m4⟩ := mw_told hs1 hs2 (pz_sk p1) (pz_sk p2')
  rw [e1, e2] at m4
  obtain ⟨⟨x1, x2, x3⟩, y1, y2, y3⟩ := hq
  obtain ⟨u1, u2⟩ := mul_abs' x2 x3 b1 b2
  obtain ⟨v1, v2⟩ := mul_abs' y2 y3 a1 a2
  obtain ⟨m4, m5⟩ := m4
  obtain ⟨n3, n4⟩ := nar_near m1 (M := 8003 / 1000 * (n : Rat)) (by grind) (by grind) (by grind)
  have hM : nar (mwI q.1 q.2 (ph1 (slQ n k p)) (ph2 (slQ n k p))) = bkMi n k p q := rfl
  rw [hM] at n3 n4 m3
  obtain ⟨E, hE⟩ : ∃ E, fv .f32 q.1 * sS n k p + fv .f32 q.2 * cC n k p = E := ⟨_, rfl⟩
  have hE1 : E ≤ 8002 / 1000 * (n : Rat) := by grind
  have hE2 : -E ≤ 8002 / 1000 * (n : Rat) := by grind
  rw [hE] at m4 m5
  clear hE u1 u2 v1 v2 a1 a2 b1 b2 x2 x3 y2 y3
  obtain ⟨t1, t2⟩ := two32
  have hb := big12
  have heb := e20
  refine ⟨m3, ?_⟩
  unfold bkTi
  split
  · obtain ⟨d, e⟩ := re_mul t1 m3 (by rw [t2]; grind) (by rw [t2]; grind)
    have f := e (16007 / 1000 * (n : Rat)) (by rw [t2]; grind) (by rw [t2]; grind)
    rw [uu32, lp32, t2] at f
    exact ⟨d, by grind, by grind⟩
  · exact ⟨m3, by grind, by grind⟩
theorem sum_i {n p : Nat} {L : List (Nat × Nat)} (hn : n < 21) (hp : p < n) (hL : BnL n L) (hl : L.length = n / 2 + 1) : ∀ k, k ≤ L.length → fin .f32 (bkSi n p L k) = true ∧ fv .f32 (bkSi n p L k) ≤ (k : Rat) * (n : Rat) * 17 ∧ -fv .f32 (bkSi n p L k) ≤ (k : Rat) * (n : Rat) * 17
  | 0, _ => by
    have f0 := f0'
    have e0 : ((0 : Nat) : Rat) = 0 := rfl
    simp only [bkSi]
    rw [f0.2, e0]
    exact ⟨f0.1, by grind, by grind⟩
  | k + 1, hk => by
    obtain ⟨a, b, c⟩ := sum_i hn hp hL hl k (by omega)
    have hq : Bn n (L.getD k (0, 0)).1 ∧ Bn n (L.getD k (0, 0)).2 := hL _ (by rw [List.getD_eq_getElem?_getD, List.getElem?_eq_getElem (by omega)]; exact List.getElem_mem _)
    obtain ⟨_, g, h, i⟩ := term_i hn (show k < n / 2 + 1 by omega) hp hq
    have n20 := nat_20 hn
    have n1 := natpos (show 1 ≤ n by omega)
    have k0 : (0 : Rat) ≤ (k : Rat) := Rat.natCast_nonneg
    have k10 : (k : Rat) ≤ 10 := by have := nat_le.2 (show k ≤ 10 by omega); exact this
    have ek : ((k + 1 : Nat) : Rat) = (k : Rat) + 1 := by rw [Rat.natCast_add]; rfl
    have kn0 := Rat.mul_nonneg k0 (show (0 : Rat) ≤ (n : Rat) by grind)
    have kn := Rat.mul_le_mul_of_nonneg_right k10 (show (0 : Rat) ≤ (n : Rat) by grind)
    have hb := big12
    simp only [bkSi]
    rw [ek]
    obtain ⟨x, y⟩ := re_add a g (by grind) (by grind)
    have z := y (187 * (n : Rat)) (by grind) (by grind)
    rw [uu32] at z
    exact ⟨x, by grind, by grind⟩
theorem bkVi_pm {n p : Nat} {L : List (Nat × Nat)} (hn : n < 21) (hp : p < n) (hL : BnL n L) (hl : L.length = n / 2 + 1) : Pm 1000 (bkVi n p L) := by
  obtain ⟨a, b, c⟩ := sum_i hn hp hL hl L.length (Nat.le_refl _)
  have n1 := natpos (show 1 ≤ n by omega)
  have hK2 : (L.length : Rat) ≤ 11 := by have := nat_le.2 (show L.length ≤ 11 by omega); exact this
  have hKn := Rat.mul_le_mul_of_nonneg_right hK2 (show (0 : Rat) ≤ (n : Rat) by grind)
  have he := e20
  obtain ⟨q, v, v1, v2, v3, v4, v5⟩ := quo_n a (n := n) (M := 187) (by omega) (by omega) (by grind) (by grind) (by grind)
  exact ⟨q, by unfold bkVi; grind, by unfold bkVi; grind⟩
theorem bkV_pm {n p : Nat} {L : List (Nat × Nat)} (hn : n < 21) (hp : p < n) (hL : BnL n L) (hl : L.length = n / 2 + 1) : Pm 1000 (bkV n p L) := by
  obtain ⟨a, b, c, d, e⟩ := sum_near hn hp hL hl L.length (Nat.le_refl _)
  have n1 := natpos (show 1 ≤ n by omega)
  have hK1 : (L.length : Rat) ≤ (n : Rat) := nat_le.2 (by omega)
  have hK2 : (L.length : Rat) ≤ 11 := by have := nat_le.2 (show L.length ≤ 11 by omega); exact this
  have hKn := Rat.mul_le_mul_of_nonneg_right hK2 (show (0 : Rat) ≤ (n : Rat) by grind)
  have he := e20
  obtain ⟨q, v, v1, v2, v3, v4, v5⟩ := quo_n a (n := n) (M := 187) (by omega) (by omega) (by grind) (by grind) (by grind)
  exact ⟨q, by unfold bkV; grind, by unfold bkV; grind⟩
theorem tdL_all {n : Nat} {L : List (Nat × Nat)} (hn : n < 21) (hL : BnL n L) (hl : L.length = n / 2 + 1) : (tdL n L n).all cfp = true := by
  rw [List.all_eq_true]
  intro x hx
  simp only [tdL, List.mem_map, List.mem_range] at hx
  obtain ⟨p, hp, rfl⟩ := hx
  simp [cfp, cfin, (bkV_pm hn hp hL hl).1, (bkVi_pm hn hp hL hl).1]
theorem enL_all {n : Nat} {L : List (Nat × Nat)} (hn : n < 21) (hL : BnL n L) (hl : L.length = n / 2 + 1) : (enL n L n).all (fin .f32) = true := by
  rw [List.all_eq_true]
  intro x hx
  simp only [enL, List.mem_map, List.mem_range] at hx
  obtain ⟨p, hp, rfl⟩ := hx
  obtain ⟨_, _, _, h, _⟩ := long_told (bkV_pm hn hp hL hl) (bkVi_pm hn hp hL hl)
  exact h
theorem bkTi_word {n k p : Nat} {q : Nat × Nat} (hn : n < 21) (hk : k < n / 2 + 1) (hp : p < n) (hq : Bn n q.1 ∧ Bn n q.2) (hd : dblB n k = true) : (∀ W, flR .mul .f32 1073741824 (bkMi n k p q) W = bkTi n k p q) ∧ flN .mul .f32 1073741824 (bkMi n k p q) = 0 := by
  obtain ⟨_, a, _⟩ := term_i hn hk hp hq
  unfold bkTi at a ⊢
  rw [if_pos hd] at a ⊢
  exact ⟨fun W => flR_num (fin_n32 a) W, flN_num (fin_n32 a)⟩
theorem i_plusW {a b c d : Nat} {w : World} (ha : fin .f32 a = true) (hb : fin .f32 b = true) (hc : fin .f32 c = true) (hd : fin .f32 d = true) (h1 : fin .f32 (fb .add .f32 a c) = true) (h2 : fin .f32 (fb .add .f32 b d) = true) :
    Calls Try.prog 98 #[.complex .f32 a b, .complex .f32 c d] w fun e w' => e = .returned (.complex .f32 (fb .add .f32 a c) (fb .add .f32 b d)) ∧ ∃ m, w' = w.drewN m := by
  refine (i_plus (fin_cnw ha) (fin_cnw hb) (fin_cnw hc) (fin_cnw hd)).mono ?_
  rintro e w' ⟨x, y, rfl, hx, hy, m, rfl⟩
  rw [word_told hx.out h1, word_told hy.out h2]
  exact ⟨rfl, m, rfl⟩
theorem pm_sm {M : Rat} {x : Nat} (hM : M ≤ 100000) (h : Pm M x) : Sm x := ⟨h.1, by have := h.2.1; grind, by have := h.2.2; grind⟩
theorem i_LongOf {a b : Nat} {w : World} (ha : Pm 1000 a) (hb : Pm 1000 b) : Calls Try.prog 99 #[.complex .f32 a b] w fun e w' => e = .returned (.float .f32 (lnV a b)) ∧ ∃ m, w' = w.drewN m := by
  obtain ⟨p1, p2', p3, p4, _⟩ := long_told ha hb
  have hn := nar_word p3 p4 p2'
  have HP := hide (And.intro (pm_sm (by grind) ha) (pm_sm (by grind) hb))
  have HF := hide p2'
  have hV : nar (sq (pwW a b)) = lnV a b := rfl
  rw [hV] at hn
  obtain ⟨Q, hQ⟩ : ∃ Q, sq (pwW a b) = Q := ⟨_, rfl⟩
  have HQ := hide hQ
  rw [hQ] at hn
  clear ha hb p1 p2' p3 p4 hV hQ
  go_enter Try.func99, Try.ntmps99
  go_wp2_with (first
    | (go_at_call 136; refine (i_power HP.out.1 HP.out.2).mono ?_; rintro e w' ⟨rfl, m, rfl⟩)
    | (go_at_call 115; refine (sqrt_calls _ _).mono ?_; rintro e w' ⟨z, rfl, hz, m', rfl⟩; rw [word_told64 hz.out HF.out, HQ.out]))
  go_ret
  exact ⟨rfl, _, rfl⟩
theorem s_l01Long {a b : Nat} {w : World} (ha : Pm 1000 a) (hb : Pm 1000 b) : Calls Try.prog 102 #[.complex .f32 a b] w fun e w' => e = .returned (.float .f32 (lnV a b)) ∧ ∃ m, w' = w.drewN m := by
  obtain ⟨p1, p2', p3, p4, _⟩ := long_told ha hb
  have hV : nar (sq (pwW a b)) = lnV a b := rfl
  have HP := hide (And.intro (pm_sm (by grind) ha) (pm_sm (by grind) hb))
  have HF := hide (And.intro p2' (And.intro p3 p4))
  rw [← hV]
  clear ha hb p1 p2' p3 p4 hV
  go_enter Try.func102, Try.ntmps102
  go_wp2_with (first
    | (go_at_call 131; refine (s_l01PowerWide HP.out.1 HP.out.2).mono ?_; rintro e w' ⟨rfl, m, rfl⟩)
    | (go_at_call 115; refine (sqrt_calls _ _).mono ?_; rintro e w' ⟨z, rfl, hz, m', rfl⟩; rw [word_told64 hz.out HF.out.1])
    | (go_at_call 130; refine (s_l01Nar HF.out.2.1 HF.out.2.2 HF.out.1).mono ?_; rintro e w' ⟨rfl, m2, rfl⟩))
  go_ret
  exact ⟨rfl, _, rfl⟩
theorem s_LongOf {a b : Nat} {w : World} (ha : Pm 1000 a) (hb : Pm 1000 b) : Calls Try.prog 49 #[.complex .f32 a b] w fun e w' => e = .returned (.float .f32 (lnV a b)) ∧ ∃ m, w' = w.drewN m := by
  have HP := hide (And.intro ha hb)
  clear ha hb
  go_enter Try.func49, Try.ntmps49
  go_wp2_with (go_at_call 102; refine (s_l01Long HP.out.1 HP.out.2).mono ?_; rintro e w' ⟨rfl, m, rfl⟩)
  go_ret
  exact ⟨rfl, _, rfl⟩
theorem s_PowerOf {a b : Nat} {w : World} (ha : Sm a) (hb : Sm b) : Calls Try.prog 46 #[.complex .f32 a b] w fun e w' => e = .returned (.float .f32 (pwV a b)) ∧ ∃ m, w' = w.drewN m := by
  have HP := hide (And.intro ha hb)
  clear ha hb
  go_enter Try.func46, Try.ntmps46
  go_wp2_with (go_at_call 91; refine (s_l01Power HP.out.1 HP.out.2).mono ?_; rintro e w' ⟨rfl, m, rfl⟩)
  go_ret
  exact ⟨rfl, _, rfl⟩
/-- What a round of the inner loop adds, both parts. -/
theorem td_step {n k p : Nat} {L : List (Nat × Nat)} {x : Nat × Nat} (hn : n < 21) (hp : p < n) (hL : BnL n L) (hl : L.length = n / 2 + 1) (hx : L[k]? = some x) :
    fin .f32 (bkS n p L k) = true ∧ fin .f32 (bkSi n p L k) = true ∧ fin .f32 (bkT n k p x) = true ∧ fin .f32 (bkTi n k p x) = true ∧ fb .add .f32 (bkS n p L k) (bkT n k p x) = bkS n p L (k + 1) ∧ fb .add .f32 (bkSi n p L k) (bkTi n k p x) = bkSi n p L (k + 1) ∧ fin .f32 (bkS n p L (k + 1)) = true ∧ fin .f32 (bkSi n p L (k + 1)) = true := by
  have hk : k < L.length := (List.getElem?_eq_some_iff.1 hx).1
  have hq := hL x (List.mem_of_getElem? hx)
  have e := bk_at hx
  obtain ⟨_, t2, _⟩ := term_i hn (show k < n / 2 + 1 by omega) hp hq
  exact ⟨(sum_near hn hp hL hl k (by omega)).1, (sum_i hn hp hL hl k (by omega)).1, (term_near hn (show k < n / 2 + 1 by omega) hp hq).1, t2, by simp only [bkS, e], by simp only [bkSi, e], (sum_near hn hp hL hl (k + 1) (by omega)).1, (sum_i hn hp hL hl (k + 1) (by omega)).1⟩
set_option maxHeartbeats 4000000 in
theorem i_TurnedSignal {A : Option Addr} {n c : Nat} {xs : List Nat} {w : World} (h : Reads w w.heap.size 1 A n (fl .f32 xs)) (hs : Sg xs) (hn : n < 21) :
    Calls Try.prog 42 #[.slice A n c] w fun e w' => ∃ v, e = .returned (.tuple #[v, .bool true]) ∧ w'.ownsRow w.heap.size 68 1 v n (cl (tdL n (slL xs (n / 2 + 1)) n)) ∧ Below w.heap.size w w' := by
  have hl := h.map_len
  have l1 := hs.l1
  rw [hl] at l1
  obtain ⟨hsm, hok⟩ := lines_sm hs
  have hbn := lines_bn hs (by rw [hl]; exact hn)
  rw [hl] at hsm hbn
  have hLl := slL_len xs (n / 2 + 1)
  have hV : slV xs = slL xs (n / 2 + 1) := by unfold slV; rw [if_pos hok, hl]
  obtain ⟨L, hL⟩ : ∃ L, slL xs (n / 2 + 1) = L := ⟨_, rfl⟩
  rw [hL] at hsm hV hLl hbn ⊢
  obtain ⟨m, hm⟩ : ∃ m, n / 2 = m := ⟨_, rfl⟩
  have hm2 : m ≤ 10 := by omega
  have HF := hide (tdL_all hn hbn hLl)
  have HS : Hid (∀ p k q, p < n → L[k]? = some q → _) := hide (fun p k q hp hk => td_step (n := n) (k := k) (p := p) (x := q) hn hp hbn hLl hk)
  have HT : Hid (∀ (p k : Nat) (q : Nat × Nat), k < n / 2 + 1 → p < n → q ∈ L → dblB n k = true → _) := hide (fun p k q hk hp hq hd => And.intro (bkT_word (n := n) (k := k) (p := p) (q := q) hn hk hp (bnL_sl hn hbn q hq) hd) (bkTi_word (n := n) (k := k) (p := p) (q := q) hn hk hp (hbn q hq) hd))
  have HV : Hid (∀ p, p < n → (fin .f32 (bkV n p L) = true ∧ fin .f32 (bkVi n p L) = true)) := hide (fun p hp => And.intro (bkV_pm hn hp hbn hLl).1 (bkVi_pm hn hp hbn hLl).1)
  have HSL := hide (bnL_sl hn hbn)
  have Hm := hide hm
  have HLl := hide hLl
  clear hL hl hbn
  go_enter Try.func42, Try.ntmps42
  go_wp2_with fail
  refine (i_SignalLines h (by unfold maxLen; omega)).mono ?_
  rintro e w1 ⟨v, zs, rfl, ho, hzs, hb1⟩
  rw [hok]
  have hz : zs = L := told_lines (by rw [hzs.out, hV]) hsm
  rw [hz, hLl, hm] at ho
  obtain ⟨g, cp, rfl⟩ := own_addr ho (by omega)
  have hRD := Reads.of_own ho
  have hsz1 := hb1.size
  have bel0 : Below w.heap.size w (w1.alloc (.cells #[] 68)) := hb1.alloc hsz1 _
  clear hzs hz hV hok hs ho h hsm hLl hm
  go_wp2_with fail
  go_loopw [7, 24] (fun v i wr => ∃ p : Nat, p ≤ n ∧ i = .int .i64 (p : Int) ∧ Hid (wr.ownsRow w1.heap.size 68 1 v p (cl (tdL n L p))) ∧ Below w1.heap.size w1 wr ∧ Below w.heap.size w wr) (fun _ i _ => n - (intOf i).toNat)
  case atStart => exact ⟨0, Nat.zero_le _, rfl, hide (own_emp rfl (Nat.le_refl _)), (Below.refl _ _).alloc (Nat.le_refl _) _, bel0⟩
  case round =>
    clear bel0
    obtain ⟨p, hp, rfl, Hown, hbel, hbw⟩ := hrel
    rename World => wo
    have hsz := hbel.size
    by_cases hlt : p < n
    · have hlt' : (p : Int) < (n : Int) := by omega
      go_wp2
      go_loopw [9, 29] (fun s i wr => ∃ k q : Nat, k ≤ m + 1 ∧ i = .int .i64 (k : Int) ∧ s = .complex .f32 (bkS n p L k) (bkSi n p L k) ∧ wr = wo.drewN q) (fun _ i _ => m + 1 - (intOf i).toNat)
      case atStart => exact ⟨0, 0, Nat.zero_le _, rfl, rfl, rfl⟩
      case round =>
        obtain ⟨k, q, hk, rfl, rfl, rfl⟩ := hrel
        by_cases hjt : k < m + 1
        · have hjt' : (k : Int) < (m : Int) + 1 := by omega
          obtain ⟨ad, x, hA, _, hx, hc⟩ := (hRD.below hbel).map_at hjt
          injection hA with hA
          subst hA
          rw [Addr.add_lit, Nat.zero_add] at hc
          have hk2 : k < n / 2 + 1 := by rw [Hm.out]; exact hjt
          obtain ⟨s1, s2, s3, s4, s5, s6, s7, s8⟩ := HS.out p k x hlt hx
          have hxm : x ∈ L := List.mem_of_getElem? hx
          have hq := HSL.out x hxm
          obtain ⟨_, _, pz1, pz2⟩ := ph_val (n := n) (k := k) (i := p) hn hk2 hlt
          have HQ := hide (And.intro (And.intro (sl_sk hq.1) (sl_sk hq.2)) (And.intro (pz_sk pz1) (pz_sk pz2)))
          have HT2 : Hid (dblB n k = true → _) := hide (fun hd => HT.out p k x hk2 hlt hxm hd)
          have HC : Hid (∀ W : World, Calls Try.prog 98 #[.complex .f32 (bkS n p L k) (bkSi n p L k), .complex .f32 (bkT n k p x) (bkTi n k p x)] W fun e w' => e = .returned (.complex .f32 (bkS n p L (k + 1)) (bkSi n p L (k + 1))) ∧ ∃ m, w' = W.drewN m) := hide (fun W => by
            have := i_plusW (w := W) s1 s2 s3 s4 (by rw [s5]; exact s7) (by rw [s6]; exact s8)
            rwa [s5, s6] at this)
          clear hx hq pz1 pz2 s1 s2 s3 s4 s5 s6 s7 s8 hxm
          cases hd : dblB n k with
          | true =>
            obtain ⟨⟨t1, t1n⟩, t2, t2n⟩ := HT2.out hd
            unfold bkM at t1 t1n
            unfold bkMi at t2 t2n
            go_wp2_with (first
              | (go_at_call 96; refine (i_phase hn hk2 hlt).mono ?_; rintro e w' ⟨rfl, m1, rfl⟩)
              | (go_at_call 95; refine (i_MulComplex HQ.out.1.1 HQ.out.1.2 HQ.out.2.1 HQ.out.2.2).mono ?_; rintro e w' ⟨rfl, m2, rfl⟩)
              | (go_at_call 97; refine (i_isDouble hn hk2).mono ?_; rintro e w' ⟨rfl, rfl⟩; rw [hd])
              | (go_at_call 98; refine (HC.out _).mono ?_; rintro e w' ⟨rfl, m3, rfl⟩))
            go_roundw
            case rel => exact ⟨k + 1, _, by omega, by go_num, rfl, rfl⟩
            case measure => simp [intOf]; omega
          | false =>
            have e1 : bkT n k p x = nar (mwR x.1 x.2 (ph1 (slQ n k p)) (ph2 (slQ n k p))) := by unfold bkT; rw [hd]; rfl
            have e2 : bkTi n k p x = nar (mwI x.1 x.2 (ph1 (slQ n k p)) (ph2 (slQ n k p))) := by unfold bkTi; rw [hd]; rfl
            rw [e1, e2] at HC
            clear e1 e2
            go_wp2_with (first
              | (go_at_call 96; refine (i_phase hn hk2 hlt).mono ?_; rintro e w' ⟨rfl, m1, rfl⟩)
              | (go_at_call 95; refine (i_MulComplex HQ.out.1.1 HQ.out.1.2 HQ.out.2.1 HQ.out.2.2).mono ?_; rintro e w' ⟨rfl, m2, rfl⟩)
              | (go_at_call 97; refine (i_isDouble hn hk2).mono ?_; rintro e w' ⟨rfl, rfl⟩; rw [hd])
              | (go_at_call 98; refine (HC.out _).mono ?_; rintro e w' ⟨rfl, m3, rfl⟩))
            go_roundw
            case rel => exact ⟨k + 1, _, by omega, by go_num, rfl, rfl⟩
            case measure => simp [intOf]; omega
        · obtain rfl : k = m + 1 := by omega
          have hlen : L.length = m + 1 := by rw [HLl.out, Hm.out]
          obtain ⟨V1, V2⟩ := HV.out p hlt
          have v1 : ∀ W, flR .quo .f32 (bkS n p L (m + 1)) (floatOfInt .f32 (n : Int)) W = bkV n p L := fun W => by
            have e : bkV n p L = fb .quo .f32 (bkS n p L (m + 1)) (floatOfInt .f32 (n : Int)) := by unfold bkV; rw [hlen]
            rw [e]; exact flR_num (fin_n32 (by rw [← e]; exact V1)) W
          have v1n : flN .quo .f32 (bkS n p L (m + 1)) (floatOfInt .f32 (n : Int)) = 0 := flN_num (fin_n32 (by
            have e : bkV n p L = fb .quo .f32 (bkS n p L (m + 1)) (floatOfInt .f32 (n : Int)) := by unfold bkV; rw [hlen]
            rw [← e]; exact V1))
          have v2 : ∀ W, flR .quo .f32 (bkSi n p L (m + 1)) (floatOfInt .f32 (n : Int)) W = bkVi n p L := fun W => by
            have e : bkVi n p L = fb .quo .f32 (bkSi n p L (m + 1)) (floatOfInt .f32 (n : Int)) := by unfold bkVi; rw [hlen]
            rw [e]; exact flR_num (fin_n32 (by rw [← e]; exact V2)) W
          have v2n : flN .quo .f32 (bkSi n p L (m + 1)) (floatOfInt .f32 (n : Int)) = 0 := flN_num (fin_n32 (by
            have e : bkVi n p L = fb .quo .f32 (bkSi n p L (m + 1)) (floatOfInt .f32 (n : Int)) := by unfold bkVi; rw [hlen]
            rw [← e]; exact V2))
          clear V1 V2 hlen
          go_wp2_with (at_builtin; refine wpList_append1 rfl (.tmp 54) (.tmp 66) 60 rfl w1.heap.size 68 (.complex .f32 0 0) _ 8 info_c64 Try.underlying60 rfl rfl _ _ _ rfl (own_drewN Hown.out _) rfl rfl (by omega) (by omega) (by simp; omega) ?_)
          intro v' w' hown' hb'
          have hbel' := (below_drewN hbel q).trans hb'
          have hbw' := (below_drewN hbw q).trans (hb'.mono hsz1)
          have HO := hide (own_snocC hown')
          clear hown' hb'
          go_wp2
          go_roundw
          case rel => exact ⟨p + 1, by omega, by go_num, hide (by rw [tdL_succ]; exact HO.out), hbel', hbw'⟩
          case measure => simp [intOf]; omega
    · obtain rfl : p = n := by omega
      obtain ⟨OA, oc, hov⟩ := own_shape Hown.out
      subst hov
      have hR2 := Reads.of_own Hown.out
      go_wp2_with (go_at_call 94; refine (i_areLines hR2 (by unfold maxLen; omega)).mono ?_; rintro e w' ⟨rfl, m', rfl⟩; rw [HF.out])
      go_ret2
      exact ⟨_, rfl, own_drewN (own_up Hown.out hsz1) _, below_drewN hbw _⟩
set_option maxHeartbeats 4000000 in
theorem i_EnvelopeOf {A : Option Addr} {n c : Nat} {xs : List Nat} {w : World} (h : Reads w w.heap.size 1 A n (fl .f32 xs)) (hs : Sg xs) (hn : n < 21) :
    Calls Try.prog 43 #[.slice A n c] w fun e w' => ∃ v, e = .returned (.tuple #[v, .bool true]) ∧ w'.ownsRow w.heap.size 27 1 v n (fl .f32 (enL n (slL xs (n / 2 + 1)) n)) ∧ Below w.heap.size w w' := by
  have hl := h.map_len
  have l1 := hs.l1
  rw [hl] at l1
  have hbn := lines_bn hs (by rw [hl]; exact hn)
  rw [hl] at hbn
  have hLl := slL_len xs (n / 2 + 1)
  have HC := hide (i_TurnedSignal (c := c) h hs hn)
  obtain ⟨L, hL⟩ : ∃ L, slL xs (n / 2 + 1) = L := ⟨_, rfl⟩
  rw [hL] at hLl hbn HC ⊢
  have HF := hide (enL_all hn hbn hLl)
  have HP : Hid (∀ p, p < n → Pm 1000 (bkV n p L) ∧ Pm 1000 (bkVi n p L)) := hide (fun p hp => ⟨bkV_pm hn hp hbn hLl, bkVi_pm hn hp hbn hLl⟩)
  clear hL hl hbn hLl hs h
  go_enter Try.func43, Try.ntmps43
  go_wp2_with fail
  refine HC.out.mono ?_
  rintro e w1 ⟨v, rfl, ho, hb1⟩
  obtain ⟨g, cp, rfl⟩ := own_addr ho (by omega)
  have hRD := Reads.of_own ho
  have hsz1 := hb1.size
  have bel0 : Below w.heap.size w (w1.alloc (.cells #[] 27)) := hb1.alloc hsz1 _
  clear ho HC
  go_wp2_with fail
  go_loopw [6, 19] (fun v i wr => ∃ p : Nat, p ≤ n ∧ i = .int .i64 (p : Int) ∧ Hid (wr.ownsRow w1.heap.size 27 1 v p (fl .f32 (enL n L p))) ∧ Below w1.heap.size w1 wr ∧ Below w.heap.size w wr) (fun _ i _ => n - (intOf i).toNat)
  case atStart => exact ⟨0, Nat.zero_le _, rfl, hide (own_emp rfl (Nat.le_refl _)), (Below.refl _ _).alloc (Nat.le_refl _) _, bel0⟩
  case round =>
    clear bel0
    obtain ⟨p, hp, rfl, Hown, hbel, hbw⟩ := hrel
    rename World => wo
    have hsz := hbel.size
    by_cases hlt : p < n
    · have hlt' : (p : Int) < (n : Int) := by omega
      obtain ⟨ad, x, hA, _, hx, hc⟩ := (hRD.below hbel).map_at hlt
      injection hA with hA
      subst hA
      rw [Addr.add_lit, Nat.zero_add] at hc
      obtain rfl : (bkV n p L, bkVi n p L) = x := by
        unfold tdL at hx
        rw [List.getElem?_map, List.getElem?_range hlt] at hx
        simpa using hx
      have HX := hide (HP.out p hlt)
      obtain ⟨X, hX⟩ : ∃ X, bkV n p L = X := ⟨_, rfl⟩
      obtain ⟨Y, hY⟩ : ∃ Y, bkVi n p L = Y := ⟨_, rfl⟩
      have HE : Hid (enL n L (p + 1) = enL n L p ++ [lnV X Y]) := hide (by rw [enL_succ, hX, hY])
      rw [hX, hY] at HX
      simp only [hX, hY] at hc
      clear hx hX hY
      go_wp2_with (first
        | (go_at_call 99; refine (i_LongOf HX.out.1 HX.out.2).mono ?_; rintro e w' ⟨rfl, m1, rfl⟩)
        | (at_builtin; refine wpList_append1 rfl (.tmp 23) (.tmp 26) 36 rfl w1.heap.size 27 (.float .f32 0) _ 4 info_f32 Try.underlying36 rfl rfl _ _ _ rfl (own_drewN Hown.out _) rfl rfl (by omega) (by omega) (by simp; omega) ?_))
      intro v' w' hown' hb'
      have hbel' := (below_drewN hbel _).trans hb'
      have hbw' := (below_drewN hbw _).trans (hb'.mono hsz1)
      have HO := hide (own_snoc hown')
      clear hown' hb'
      go_wp2
      go_roundw
      case rel => exact ⟨p + 1, by omega, by go_num, hide (by rw [HE.out]; exact HO.out), hbel', hbw'⟩
      case measure => simp [intOf]; omega
    · obtain rfl : p = n := by omega
      obtain ⟨OA, oc, hov⟩ := own_shape Hown.out
      subst hov
      have hR2 := Reads.of_own Hown.out
      go_wp2_with (go_at_call 60; refine (i_ifAll_yes hR2 (by unfold maxLen; omega) HF.out).mono ?_; rintro e w' ⟨rfl, m', rfl⟩)
      go_ret2
      exact ⟨_, rfl, own_drewN (own_up Hown.out hsz1) _, below_drewN hbw _⟩
end Go.Proofs.Yteabfkgbakoljaa

/-
  Are whole numbers within bounds: the program's walk over a list.
-/
namespace Go.Proofs.Yteabfkgbakoljaa
open Go.RowKit Mem
set_option linter.unusedVariables false
set_option maxRecDepth 100000

set_option maxHeartbeats 400000 in
theorem areWithin_1 {n lo hi : Int} {b1 b2 : Nat} {w : World} (h1 : w.cell? ⟨b1, 0, none⟩ = some (.int .i64 lo)) (h2 : w.cell? ⟨b2, 0, none⟩ = some (.int .i64 hi)) :
    Calls Try.prog 146 #[.int .i64 n, .pointer (some ⟨b1, 0, none⟩), .pointer (some ⟨b2, 0, none⟩)] w fun e w' => e = .returned (.bool (!inB n lo hi)) ∧ w' = w := by
  go_enter Try.func146, Try.ntmps146
  go_wp2_with (go_at_call 59; refine (i_within _ _ _ _).mono ?_; rintro e w' ⟨rfl, rfl⟩)
  go_ret
  exact ⟨rfl, rfl⟩
set_option maxHeartbeats 400000 in
theorem indexFunc_within {A : Option Addr} {n c : Nat} {xs : List Int} {B : Nat} {lo hi : Int} {b1 b2 : Nat} {w : World} (h : Reads w B 1 A n (il xs)) (hn : n ≤ maxLen)
    (h1 : w.cell? ⟨b1, 0, none⟩ = some (.int .i64 lo)) (h2 : w.cell? ⟨b2, 0, none⟩ = some (.int .i64 hi)) :
    Calls Try.prog 159 #[.slice A n c, .func (.func 146) #[] #[.pointer (some ⟨b1, 0, none⟩), .pointer (some ⟨b2, 0, none⟩)]] w fun e w' => e = .returned (.int .i64 (ixf (fun x => !inB x lo hi) xs)) ∧ w' = w := by
  unfold maxLen at hn
  have Hlen := hide h.map_len
  go_enter Try.func159, Try.ntmps159
  go_wp2
  go_loopw [5, 8] (fun _ i wr => ∃ k : Nat, k ≤ n ∧ i = .int .i64 k ∧ wr = w ∧ Hid ((xs.take k).all (fun y => !!inB y lo hi) = true)) (fun _ i _ => n - (intOf i).toNat)
  case atStart => exact ⟨0, Nat.zero_le _, rfl, rfl, rfl⟩
  case round =>
    obtain ⟨k, hk, rfl, rfl, ha⟩ := hrel
    by_cases hlt : k < n
    · obtain ⟨ad, x, rfl, _, hx, hc⟩ := h.map_at hlt
      have Hx := hide hx
      clear hx
      cases hb : inB x lo hi with
      | false =>
        go_wp2_with (go_at_call 146; refine (areWithin_1 h1 h2).mono ?_; rintro e w' ⟨rfl, rfl⟩; rw [hb])
        go_ret
        exact ⟨ret_int (ixf_at Hx.out ha.out (by rw [hb]; rfl)).symm, rfl⟩
      | true =>
        have HA : Hid ((xs.take (k + 1)).all (fun y => !!inB y lo hi) = true) := hide (by rw [take_eq Hx.out, List.all_append, ha.out]; simp [hb])
        go_wp2_with (go_at_call 146; refine (areWithin_1 h1 h2).mono ?_; rintro e w' ⟨rfl, rfl⟩; rw [hb])
        go_roundw
        case rel => exact ⟨k + 1, by omega, by go_num, trivial, HA⟩
        case measure => simp [intOf]; omega
    · go_wp2
      go_ret
      refine ⟨ret_int (ixf_none ?_).symm, rfl⟩
      rw [← ha.out, List.take_of_length_le (by rw [Hlen.out]; omega)]
theorem containsFunc_within {A : Option Addr} {n c : Nat} {xs : List Int} {B : Nat} {lo hi : Int} {b1 b2 : Nat} {w : World} (h : Reads w B 1 A n (il xs)) (hn : n ≤ maxLen)
    (h1 : w.cell? ⟨b1, 0, none⟩ = some (.int .i64 lo)) (h2 : w.cell? ⟨b2, 0, none⟩ = some (.int .i64 hi)) :
    Calls Try.prog 145 #[.slice A n c, .func (.func 146) #[] #[.pointer (some ⟨b1, 0, none⟩), .pointer (some ⟨b2, 0, none⟩)]] w fun e w' => e = .returned (.bool (xs.any (fun x => !inB x lo hi))) ∧ w' = w := by
  go_enter Try.func145, Try.ntmps145
  go_wp2_with (go_at_call 159; refine (indexFunc_within h hn h1 h2).mono ?_; rintro e w' ⟨rfl, rfl⟩)
  go_ret
  refine ⟨ret_bool ?_, rfl⟩
  rw [← ixf_ge]
theorem i_areWithin {A : Option Addr} {n c : Nat} {xs : List Int} {B : Nat} {lo hi : Int} {w : World} (h : Reads w B 1 A n (il xs)) (hB : B ≤ w.heap.size) (hn : n ≤ maxLen) :
    Calls Try.prog 117 #[.slice A n c, .int .i64 lo, .int .i64 hi] w fun e w' => e = .returned (.bool (xs.all (fun x => inB x lo hi))) ∧ Below w.heap.size w w' := by
  have hr : Reads ((w.alloc (.cells #[.int .i64 lo] 2)).alloc (.cells #[.int .i64 hi] 2)) B 1 A n (il xs) := (h.alloc hB _).alloc (by simp; omega) _
  go_enter Try.func117, Try.ntmps117
  go_wp2_with fail
  refine (containsFunc_within (lo := lo) (hi := hi) hr hn (by simp) (by simp)).mono ?_
  rintro e w' ⟨rfl, rfl⟩
  go_wp2
  go_ret
  refine ⟨ret_bool ?_, ((Below.refl _ _).alloc (Nat.le_refl _) _).alloc (by simp) _⟩
  rw [List.all_eq_not_any_not]
end Go.Proofs.Yteabfkgbakoljaa

/-
  Bands of signals that the laws draw: the program's walk.
-/
namespace Go.Proofs.Yteabfkgbakoljaa
open Go.RowKit Mem Fl
set_option linter.unusedVariables false
set_option maxRecDepth 100000

/-- A row of complex numbers in a block. -/
def RowC (w : World) (g N : Nat) (L : List (Nat × Nat)) : Prop := ∃ cur : Array Value, Blk w g 68 cur ∧ L.length = N ∧ N ≤ cur.size ∧ ∀ i, i < N → cur[i]? = some (.complex .f32 (L.getD i (0, 0)).1 (L.getD i (0, 0)).2)
theorem rowC_of_own {w : World} {base N : Nat} {v : Value} {L : List (Nat × Nat)} (h : w.ownsRow base 68 1 v N (cl L)) (hN : 0 < N) : ∃ g c, v = .slice (some ⟨g, 0, none⟩) N c ∧ N ≤ c ∧ base ≤ g ∧ RowC w g N L := by
  rcases h with ⟨hl, ⟨_, h0⟩ | ⟨g, cap, cur, rfl, hb, hh, hc, _, hs, ht⟩⟩
  · omega
  · have hL : L.length = N := by unfold cl at hl; simp at hl; omega
    refine ⟨g, cap, rfl, by omega, hb, cur, hh, hL, by omega, fun i hi => ?_⟩
    have e : (cur.toList.take (N * 1))[i]? = (cl L)[i]? := by rw [ht]
    rw [List.getElem?_take, if_pos (by omega), Array.getElem?_toList] at e
    rw [e]
    unfold cl
    rw [List.getElem?_map, List.getD_eq_getElem?_getD, List.getElem?_eq_getElem (by omega)]; rfl
theorem RowC.lt {w : World} {g N : Nat} {L : List (Nat × Nat)} (h : RowC w g N L) : g < w.heap.size := by
  obtain ⟨cur, hb, _⟩ := h; exact hb.lt
theorem RowC.cell {w : World} {g N : Nat} {L : List (Nat × Nat)} (h : RowC w g N L) {i : Nat} (hi : i < N) : w.cell? ⟨g, i, none⟩ = some (.complex .f32 (L.getD i (0, 0)).1 (L.getD i (0, 0)).2) := by
  obtain ⟨cur, hb, _, _, hc⟩ := h
  rw [hb.cell, hc i hi]
theorem RowC.frozen {w : World} {g N : Nat} {L : List (Nat × Nat)} (h : RowC w g N L) (i : Nat) : w.frozen? ⟨g, i, none⟩ = false := by
  obtain ⟨cur, hb, _⟩ := h; exact hb.frozen i
theorem getD_setC {L : List (Nat × Nat)} {i j : Nat} {v : Nat × Nat} (hi : i < L.length) : (L.set i v).getD j (0, 0) = if i = j then v else L.getD j (0, 0) := by
  rw [List.getD_eq_getElem?_getD, List.getElem?_set]
  by_cases e : i = j
  · rw [if_pos e, if_pos e, if_pos hi]; rfl
  · rw [if_neg e, if_neg e, List.getD_eq_getElem?_getD]
theorem RowC.put {w : World} {g N : Nat} {L : List (Nat × Nat)} (h : RowC w g N L) {i : Nat} (hi : i < N) (v : Nat × Nat) : RowC (w.setCell ⟨g, i, none⟩ (.complex .f32 v.1 v.2)) g N (L.set i v) := by
  obtain ⟨cur, hb, hl, hs, hc⟩ := h
  refine ⟨_, hb.set_ i _, by rw [List.length_set]; exact hl, by simpa using hs, fun j hj => ?_⟩
  rw [getD_setC (by omega), Array.getElem?_setIfInBounds]
  by_cases e : i = j
  · rw [if_pos e, if_pos e, if_pos (by omega)]
  · rw [if_neg e, if_neg e]; exact hc j hj
theorem RowC.below {w w' : World} {g N : Nat} {L : List (Nat × Nat)} (h : RowC w g N L) (hb' : Below w.heap.size w w') : RowC w' g N L := by
  have hl := h.lt
  obtain ⟨cur, hb, r⟩ := h; exact ⟨cur, hb.below hb' hl, r⟩
theorem RowC.drewN {w : World} {g N : Nat} {L : List (Nat × Nat)} (h : RowC w g N L) (m : Nat) : RowC (w.drewN m) g N L := h
theorem RowC.len {w : World} {g N : Nat} {L : List (Nat × Nat)} (h : RowC w g N L) : L.length = N := by
  obtain ⟨_, _, h, _⟩ := h; exact h
theorem RowC.reads {w : World} {g N B : Nat} {L : List (Nat × Nat)} (h : RowC w g N L) (hB : g < B) : Reads w B 1 (some ⟨g, 0, none⟩) N (cl L) := by
  have hl := h.len
  refine ⟨by unfold cl; simp; exact hl, fun _ => ⟨⟨g, 0, none⟩, rfl, hB, fun j u hu => ?_⟩⟩
  unfold cl at hu
  rw [List.getElem?_map] at hu
  rw [Addr.add_lit, Nat.zero_add]
  by_cases hj : j < N
  · rw [h.cell hj, ← hu, List.getD_eq_getElem?_getD, List.getElem?_eq_getElem (by omega)]; rfl
  · rw [List.getElem?_eq_none (by omega)] at hu; cases hu
/-- Some numbers of a list are cleared. -/
def clrL : Nat → Nat → List (Nat × Nat) → List (Nat × Nat)
  | _, 0, L => L
  | o, m + 1, L => clrL (o + 1) m (L.set o (0, 0))
theorem clrL_len : ∀ (m o : Nat) (L : List (Nat × Nat)), (clrL o m L).length = L.length
  | 0, _, _ => rfl
  | m + 1, o, L => by rw [clrL, clrL_len m, List.length_set]
theorem clrL_at : ∀ (m o : Nat) (L : List (Nat × Nat)) (j : Nat), o + m ≤ L.length → (clrL o m L).getD j (0, 0) = if o ≤ j ∧ j < o + m then (0, 0) else L.getD j (0, 0)
  | 0, o, L, j, _ => by rw [if_neg (by omega)]; rfl
  | m + 1, o, L, j, h => by
    rw [clrL, clrL_at m (o + 1) _ j (by rw [List.length_set]; omega), getD_setC (by omega)]
    by_cases h1 : o = j
    · subst h1
      rw [if_neg (by omega), if_pos rfl, if_pos (by omega)]
    · by_cases h2 : o + 1 ≤ j ∧ j < o + 1 + m
      · rw [if_pos h2, if_pos (by omega)]
      · rw [if_neg h2, if_neg h1, if_neg (by omega)]
theorem RowC.clr {g N : Nat} : ∀ (m o : Nat) (w : World) (L : List (Nat × Nat)), RowC w g N L → o + m ≤ N → RowC (w.setCells g o (List.replicate m (.complex .f32 0 0))) g N (clrL o m L)
  | 0, o, w, L, h, _ => h
  | m + 1, o, w, L, h, hm => by
    rw [List.replicate_succ]
    exact RowC.clr m (o + 1) _ _ (h.put (by omega) (0, 0)) (by omega)
theorem below_clr {B g : Nat} {a : World} (hg : B ≤ g) : ∀ (m o : Nat) (w : World), Below B a w → Below B a (w.setCells g o (List.replicate m (.complex .f32 0 0)))
  | 0, _, _, h => h
  | m + 1, o, w, h => by
    rw [List.replicate_succ]
    exact below_clr hg m (o + 1) _ (h.setCell (p := ⟨g, o, none⟩) hg _)
/-- 'clear' of a part of a row. -/
theorem run_clrC {w : World} {g N : Nat} {L : List (Nat × Nat)} (h : RowC w g N L) (ty : TypeId) (o m c : Nat) (hm : o + m ≤ N) :
    (Builtin.clear_ #[60] ty #[.slice (some ⟨g, o, none⟩) m c]).run Try.prog w = .ok (.tuple #[]) (w.setCells g o (List.replicate m (.complex .f32 0 0))) := by
  rcases Nat.eq_zero_or_pos m with rfl | hp
  · simp [Builtin.clear_, run_underlying Try.underlying60, World.setCells]
  · exact Lib.run_clear_slice w 60 68 ty (.complex .f32 0 0) Try.underlying60 Try.zeroValue68 rfl rfl g o m c hp (fun j hj => by rw [h.cell (by omega)]; rfl) (fun j hj => h.frozen _)
/-- The lines of a band. -/
def bandL (L : List (Nat × Nat)) (f t : Nat) : List (Nat × Nat) := clrL t (L.length - t) (clrL 0 f L)
theorem bandL_len (L : List (Nat × Nat)) (f t : Nat) : (bandL L f t).length = L.length := by unfold bandL; rw [clrL_len, clrL_len]
theorem bandL_at {L : List (Nat × Nat)} {f t : Nat} (hf : f < t) (ht : t ≤ L.length) (j : Nat) (hj : j < L.length) : (bandL L f t).getD j (0, 0) = if f ≤ j ∧ j < t then L.getD j (0, 0) else (0, 0) := by
  unfold bandL
  rw [clrL_at _ _ _ _ (by rw [clrL_len]; omega), clrL_at _ _ _ _ (by omega)]
  by_cases h1 : t ≤ j ∧ j < t + (L.length - t)
  · rw [if_pos h1, if_neg (by omega)]
  · rw [if_neg h1]
    by_cases h2 : 0 ≤ j ∧ j < 0 + f
    · rw [if_pos h2, if_neg (by omega)]
    · rw [if_neg h2, if_pos (by omega)]
theorem bandL_bn {n : Nat} {L : List (Nat × Nat)} {f t : Nat} (hf : f < t) (ht : t ≤ L.length) (h : BnL n L) : BnL n (bandL L f t) := by
  intro q hq
  obtain ⟨j, hj, rfl⟩ := List.getElem_of_mem hq
  have hj2 : j < L.length := by rw [bandL_len] at hj; exact hj
  have e := bandL_at hf ht j hj2
  rw [List.getD_eq_getElem?_getD, List.getElem?_eq_getElem hj] at e
  have e2 : (bandL L f t)[j] = if f ≤ j ∧ j < t then L.getD j (0, 0) else (0, 0) := e
  rw [e2]
  split
  · exact h _ (by rw [List.getD_eq_getElem?_getD, List.getElem?_eq_getElem hj2]; exact List.getElem_mem _)
  · exact ⟨bn_zero n, bn_zero n⟩
set_option maxHeartbeats 400000 in
theorem i_BandPart {A : Option Addr} {n c f t : Nat} {xs : List Nat} {w : World} (h : Reads w w.heap.size 1 A n (fl .f32 xs)) (hs : Sg xs) (hn : n < 21) (hf : f < t) (ht : t ≤ n / 2 + 1) :
    Calls Try.prog 47 #[.slice A n c, .int .i64 (f : Int), .int .i64 (t : Int)] w fun e w' => ∃ v, e = .returned (.tuple #[v, .bool true]) ∧ w'.ownsRow w.heap.size 27 1 v n (fl .f32 (bkL n (bandL (slL xs (n / 2 + 1)) f t) n)) ∧ Below w.heap.size w w' := by
  have hl := h.map_len
  have l1 := hs.l1
  rw [hl] at l1
  obtain ⟨hsm, hok⟩ := lines_sm hs
  have hbn := lines_bn hs (by rw [hl]; exact hn)
  rw [hl] at hsm hbn
  have hLl := slL_len xs (n / 2 + 1)
  have hV : slV xs = slL xs (n / 2 + 1) := by unfold slV; rw [if_pos hok, hl]
  obtain ⟨L, hL⟩ : ∃ L, slL xs (n / 2 + 1) = L := ⟨_, rfl⟩
  rw [hL] at hsm hV hLl hbn ⊢
  obtain ⟨m, hm⟩ : ∃ m, n / 2 = m := ⟨_, rfl⟩
  have hm2 : m ≤ 10 := by omega
  have HBL := hide (bnL_sl hn (bandL_bn hf (by rw [hLl]; exact ht) hbn))
  rw [hm] at ht
  have hin1 : inB (t : Int) 1 ((m : Int) + 1) = true := by simp [inB]; omega
  have hin2 : inB (f : Int) 0 ((t : Int) - 1) = true := by simp [inB]; omega
  have HI := hide (And.intro hin1 hin2)
  have Hm := hide hm
  clear hL hl hbn hin1 hin2
  go_enter Try.func47, Try.ntmps47
  go_wp2_with fail
  refine (i_SignalLines h (by unfold maxLen; omega)).mono ?_
  rintro e w1 ⟨v, zs, rfl, ho, hzs, hb1⟩
  rw [hok]
  have hz : zs = L := told_lines (by rw [hzs.out, hV]) hsm
  rw [hz, hLl, hm] at ho
  obtain ⟨g, cp, rfl, hcp, hg, hR⟩ := rowC_of_own ho (by omega)
  have hsz1 := hb1.size
  have HR := hide hR
  have c1 : ∀ ty, (Builtin.clear_ #[60] ty #[.slice (some ⟨g, 0, none⟩) f cp]).run Try.prog w1 = .ok (.tuple #[]) (w1.setCells g 0 (List.replicate f (.complex .f32 0 0))) := fun ty => run_clrC HR.out ty 0 f cp (by omega)
  have HR2 := hide (RowC.clr f 0 w1 L HR.out (by omega))
  have HB2 := hide (below_clr (B := w.heap.size) hg f 0 w1 hb1)
  obtain ⟨w2, hw2⟩ : ∃ w2, w1.setCells g 0 (List.replicate f (.complex .f32 0 0)) = w2 := ⟨_, rfl⟩
  rw [hw2] at c1 HR2 HB2
  have c2 : ∀ ty, (Builtin.clear_ #[60] ty #[.slice (some ⟨g, t, none⟩) (m + 1 - t) (cp - t)]).run Try.prog w2 = .ok (.tuple #[]) (w2.setCells g t (List.replicate (m + 1 - t) (.complex .f32 0 0))) := fun ty => run_clrC HR2.out ty t (m + 1 - t) (cp - t) (by omega)
  have HR3 : Hid (RowC (w2.setCells g t (List.replicate (m + 1 - t) (.complex .f32 0 0))) g (m + 1) (bandL L f t)) := hide (by
    have := RowC.clr (m + 1 - t) t w2 (clrL 0 f L) HR2.out (by omega)
    unfold bandL
    rw [hLl, hm]; exact this)
  have HB3 := hide (below_clr (B := w.heap.size) hg (m + 1 - t) t w2 HB2.out)
  obtain ⟨w3, hw3⟩ : ∃ w3, w2.setCells g t (List.replicate (m + 1 - t) (.complex .f32 0 0)) = w3 := ⟨_, rfl⟩
  rw [hw3] at c2 HR3 HB3
  clear hzs hz hV hok hs ho h hsm hLl hm hw2 hw3 hR HR HR2 HB2 hb1
  go_wp2_with fail
  refine (i_within _ _ _ _).mono ?_
  rintro e w' ⟨rfl, rfl⟩
  rw [HI.out.1]
  go_wp2_with fail
  refine (i_within _ _ _ _).mono ?_
  rintro e w' ⟨rfl, rfl⟩
  rw [HI.out.2]
  clear HI
  have hf0 : (0 : Int) ≤ (f : Int) := by omega
  have hfI : (f : Int) ≤ (m : Int) + 1 := by omega
  have hfc : (f : Int) ≤ (cp : Int) := by omega
  have htI : (t : Int) ≤ (m : Int) + 1 := by omega
  have htc : (t : Int) ≤ (cp : Int) := by omega
  have HC : Hid (Calls Try.prog 41 #[.slice (some ⟨g, 0, none⟩) (m + 1) cp, .int .i64 (n : Int)] w3 fun e w' => ∃ v, e = .returned (.tuple #[v, .bool true]) ∧ w'.ownsRow w3.heap.size 27 1 v n (fl .f32 (bkL n (bandL L f t) n)) ∧ Below w3.heap.size w3 w') := hide (by
    have := i_SignalOfLines (n := n) (L := bandL L f t) (c := cp) (A := some ⟨g, 0, none⟩) (w := w3) (by rw [Hm.out]; exact HR3.out.reads HR3.out.lt) HBL.out (by omega) hn
    rwa [Hm.out] at this)
  have c3 : t = cp → ∀ ty, (Builtin.clear_ #[60] ty #[.slice (some ⟨g, 0, none⟩) 0 0]).run Try.prog w2 = .ok (.tuple #[]) w3 := fun e ty => by
    have e0 : m + 1 - t = 0 := by omega
    have := c2 ty
    rw [e0] at this
    rw [← this]
    simp [Builtin.clear_, run_underlying Try.underlying60]
  by_cases htq : t = cp
  · replace c3 := c3 htq
    have htq2 : (t : Int) = (cp : Int) := by omega
    subst htq
    clear htq2 c2
    go_wp2_with fail
    refine HC.out.mono ?_
    rintro e w4 ⟨v4, rfl, ho4, hb4⟩
    have hb5 := HB3.out.trans (hb4.mono HB3.out.size)
    have ho5 := own_up ho4 HB3.out.size
    clear ho4 hb4
    go_wp2_with fail
    go_ret2
    exact ⟨_, rfl, ho5, hb5⟩
  · clear c3
    have htq2 : (t : Int) < (cp : Int) := by omega
    have htq3 : t < cp := by omega
    go_wp2_with fail
    refine HC.out.mono ?_
    rintro e w4 ⟨v4, rfl, ho4, hb4⟩
    have hb5 := HB3.out.trans (hb4.mono HB3.out.size)
    have ho5 := own_up ho4 HB3.out.size
    clear ho4 hb4
    go_wp2_with fail
    go_ret2
    exact ⟨_, rfl, ho5, hb5⟩
end Go.Proofs.Yteabfkgbakoljaa

/-
  Logarithms of powers of lines, and powers of bands: the plain law.
-/
namespace Go.Proofs.Yteabfkgbakoljaa
open Go.RowKit Mem Fl
set_option linter.unusedVariables false
set_option maxRecDepth 100000

theorem nn_fv {x : Nat} (hw : Wf .f32 x) (hf : fin .f32 x = true) (h0 : 0 < fv .f32 x) : Nn x ∧ x ≠ 0 := by
  obtain ⟨s, m, i, rx, _, _⟩ := fin_read hf
  have hv := fv_num rx
  have hm : m ≠ 0 := by
    rintro rfl
    rw [hv] at h0
    have : sg s * (((0 : Nat) : Rat) * p2 i) = 0 := by
      have e : ((0 : Nat) : Rat) = 0 := rfl
      rw [e]; grind
    rw [this] at h0
    exact absurd h0 (by decide)
  have hs := sg_pos (s := s) (m := m) (i := i) hm (by rw [← hv]; grind)
  subst hs
  refine ⟨nn_of hw rx, ?_⟩
  rintro rfl
  rw [f0'.2] at h0
  exact absurd h0 (by decide)
theorem fin_rung {r : Nat} (h : r < 9218868437227405312) : fin .f64 r = true := (fin_iff _ _).2 ⟨_, _, _, read_pos (k := .f64) (by rw [d64_inf]; exact h)⟩
theorem fv_mono {a b : Nat} (h : a ≤ b) (hb : b < 9218868437227405312) : fv .f64 a ≤ fv .f64 b := by
  have ho := gt_pos (k := .f64) (c := a) (q := b) (by rw [d64_inf]; omega) (by rw [d64_inf]; exact hb)
  rw [ord_gt (fin_rung (by omega)) (fin_rung hb)] at ho
  have : decide (b < a) = false := by simp; omega
  rw [this] at ho
  have := of_decide_eq_false ho
  grind
theorem div_abs {x y M : Rat} (hy : 0 < y) (h1 : x ≤ M * y) (h2 : -x ≤ M * y) : x / y ≤ M ∧ -(x / y) ≤ M := by
  have hv : x / y * y = x := Rat.div_mul_cancel (Rat.ne_of_gt hy)
  exact ⟨Rat.le_of_mul_le_mul_right (c := y) (by rw [hv]; exact h1) hy, Rat.le_of_mul_le_mul_right (c := y) (by rw [Rat.neg_mul, hv]; exact h2) hy⟩
theorem lp64q : 0 ≤ p2 (FloatKind.f64.format.leastPlace - 1) := p2_nn _
theorem c_ends : fin .f64 4607182418800017408 = true ∧ fv .f64 4607182418800017408 = 1 ∧ 7 / 10 ≤ fv .f64 4604930618986332160 ∧ fv .f64 4609434218613702656 ≤ 16 / 10 ∧ fin .f64 4611686018427387904 = true ∧ fv .f64 4611686018427387904 = 2 ∧ fin .f64 ln2 = true ∧ fv .f64 ln2 ≤ 1 ∧ 0 ≤ fv .f64 ln2 := by decide +kernel
theorem logS_small {c : Nat} (h1 : 4604930618986332160 ≤ c) (h2 : c < 4609434218613702656) : fin .f64 (logS c) = true ∧ fv .f64 (logS c) ≤ 1 / 2 ∧ -fv .f64 (logS c) ≤ 1 / 2 := by
  obtain ⟨o1, o2, e1, e2, _⟩ := c_ends
  have fc := fin_rung (show c < 9218868437227405312 by omega)
  have g1 := fv_mono h1 (by omega)
  have g2 := fv_mono (Nat.le_of_lt h2) (by decide)
  have hb := big64d
  obtain ⟨a1, a2⟩ := re_sub fc o1 (by grind) (by grind)
  have a3 := a2 1 (by grind) (by grind)
  obtain ⟨b1, b2⟩ := re_add fc o1 (by grind) (by grind)
  have b3 := b2 3 (by grind) (by grind)
  rw [u64c, o2] at a3 b3
  have hl := lp64c
  have hpos : 0 < fv .f64 (fb .add .f64 c 4607182418800017408) := by grind
  obtain ⟨q1, q2⟩ := div_abs (x := fv .f64 (fb .sub .f64 c 4607182418800017408)) (y := fv .f64 (fb .add .f64 c 4607182418800017408)) (M := 4 / 10) hpos (by grind) (by grind)
  obtain ⟨r1, r2⟩ := re_quo a1 b1 (Rat.ne_of_gt hpos) (by grind) (by grind)
  have r3 := r2 (4 / 10) q1 q2
  rw [u64c] at r3
  unfold logS
  exact ⟨r1, by grind, by grind⟩
theorem kq_tab : ∀ j : Nat, j < 13 → fin .f64 (fb .quo .f64 4607182418800017408 (floatOfInt .f64 (25 - 2 * (j : Int)))) = true ∧ fv .f64 (fb .quo .f64 4607182418800017408 (floatOfInt .f64 (25 - 2 * (j : Int)))) ≤ 1 ∧ 0 ≤ fv .f64 (fb .quo .f64 4607182418800017408 (floatOfInt .f64 (25 - 2 * (j : Int)))) := by decide +kernel
theorem logQ_small {u : Nat} (hu : fin .f64 u = true) (h1 : fv .f64 u ≤ 1 / 2) (h2 : -fv .f64 u ≤ 1 / 2) : ∀ j, j ≤ 13 → fin .f64 (logQ u j) = true ∧ fv .f64 (logQ u j) ≤ 3 ∧ -fv .f64 (logQ u j) ≤ 3
  | 0, _ => by
    have : fin .f64 0 = true ∧ fv .f64 0 = 0 := by decide +kernel
    simp only [logQ]
    rw [this.2]
    exact ⟨this.1, by decide +kernel, by decide +kernel⟩
  | j + 1, hj => by
    obtain ⟨a, b, c⟩ := logQ_small hu h1 h2 j (by omega)
    obtain ⟨k1, k2, k3⟩ := kq_tab j (by omega)
    have p1 := Rat.mul_nonneg (show 0 ≤ 1 / 2 - fv .f64 u by grind) (show 0 ≤ 3 + fv .f64 (logQ u j) by grind)
    have p2 := Rat.mul_nonneg (show 0 ≤ 1 / 2 + fv .f64 u by grind) (show 0 ≤ 3 - fv .f64 (logQ u j) by grind)
    have p3 := Rat.mul_nonneg (show 0 ≤ 1 / 2 - fv .f64 u by grind) (show 0 ≤ 3 - fv .f64 (logQ u j) by grind)
    have p4 := Rat.mul_nonneg (show 0 ≤ 1 / 2 + fv .f64 u by grind) (show 0 ≤ 3 + fv .f64 (logQ u j) by grind)
    have m1 : fv .f64 u * fv .f64 (logQ u j) ≤ 3 / 2 := by grind
    have m2 : -(fv .f64 u * fv .f64 (logQ u j)) ≤ 3 / 2 := by grind
    clear p1 p2 p3 p4
    have hb := big64d
    have hl := lp64c
    obtain ⟨x1, x2⟩ := re_mul hu a (by grind) (by grind)
    have x3 := x2 (3 / 2) m1 m2
    rw [u64c] at x3
    obtain ⟨y1, y2⟩ := re_add k1 x1 (by grind) (by grind)
    have y3 := y2 3 (by grind) (by grind)
    rw [u64c] at y3
    simp only [logQ]
    exact ⟨y1, by grind, by grind⟩
theorem redc (r : Nat) : 4604930618986332160 ≤ redR r ∧ redR r < 4609434218613702656 := by
  unfold redR
  have a := Int.emod_lt_of_pos ((r : Int) - 4604930618986332160) (show (0 : Int) < 4503599627370496 by decide)
  have b := Int.emod_nonneg ((r : Int) - 4604930618986332160) (show (4503599627370496 : Int) ≠ 0 by decide)
  omega
/-- Logarithms of what lies between a quarter and 32768. -/
theorem logV_small {r : Nat} (h1 : 4598175219545276416 ≤ r) (h2 : r ≤ pw 15) : fin .f64 (logV r) = true ∧ fv .f64 (logV r) ≤ 100 ∧ -fv .f64 (logV r) ≤ 100 := by
  obtain ⟨c1, c2⟩ := redc r
  obtain ⟨s1, s2, s3⟩ := logS_small c1 c2
  have he1 : -3 ≤ redE r := by unfold redE; omega
  have he2 : redE r ≤ 20 := by unfold redE pw at *; omega
  obtain ⟨S, hS⟩ : ∃ S, logS (redR r) = S := ⟨_, rfl⟩
  unfold logV
  rw [hS] at s1 s2 s3 ⊢
  have hb := big64d
  have hl := lp64c
  have q1 := sq_le_of s2 s3
  have q2 := sq_of_nn (fv .f64 S)
  obtain ⟨u1, u2⟩ := re_mul s1 s1 (by grind) (by grind)
  have u3 := u2 (1 / 4) (by grind) (by grind)
  rw [u64c] at u3
  obtain ⟨v1, v2, v3⟩ := logQ_small u1 (by grind) (by grind) 13 (Nat.le_refl _)
  obtain ⟨Q, hQ⟩ : ∃ Q, logQ (fb .mul .f64 S S) 13 = Q := ⟨_, rfl⟩
  rw [hQ] at v1 v2 v3 ⊢
  have p1 := Rat.mul_nonneg (show 0 ≤ 1 / 2 - fv .f64 S by grind) (show 0 ≤ 3 + fv .f64 Q by grind)
  have p2 := Rat.mul_nonneg (show 0 ≤ 1 / 2 + fv .f64 S by grind) (show 0 ≤ 3 - fv .f64 Q by grind)
  have p3 := Rat.mul_nonneg (show 0 ≤ 1 / 2 - fv .f64 S by grind) (show 0 ≤ 3 - fv .f64 Q by grind)
  have p4 := Rat.mul_nonneg (show 0 ≤ 1 / 2 + fv .f64 S by grind) (show 0 ≤ 3 + fv .f64 Q by grind)
  have m1 : fv .f64 S * fv .f64 Q ≤ 3 / 2 := by grind
  have m2 : -(fv .f64 S * fv .f64 Q) ≤ 3 / 2 := by grind
  clear p1 p2 p3 p4 u1 u2 u3 q1 q2 s2 s3 v2 v3
  obtain ⟨x1, x2⟩ := re_mul s1 v1 (by grind) (by grind)
  have x3 := x2 (3 / 2) m1 m2
  rw [u64c] at x3
  obtain ⟨_, _, _, _, t1, t2, l1, l2, l3⟩ := c_ends
  obtain ⟨y1, y2⟩ := re_mul t1 x1 (by rw [t2]; grind) (by rw [t2]; grind)
  have y3 := y2 4 (by rw [t2]; grind) (by rw [t2]; grind)
  rw [u64c, t2] at y3
  obtain ⟨i1, i2⟩ := re_int (k := .f64) (n := redE r) (by rw [d64_fb]; omega)
  have i3 : ((redE r : Int) : Rat) ≤ 20 := by
    have := Rat.intCast_le_intCast.2 he2; exact this
  have i4 : -((redE r : Int) : Rat) ≤ 20 := by
    have := Rat.intCast_le_intCast.2 (show -20 ≤ redE r by omega)
    have e : ((-20 : Int) : Rat) = -20 := rfl
    rw [e] at this; grind
  rw [← i2] at i3 i4
  have p1 := Rat.mul_nonneg (show 0 ≤ 20 - fv .f64 (floatOfInt .f64 (redE r)) by grind) l3
  have p2 := Rat.mul_nonneg (show 0 ≤ 20 + fv .f64 (floatOfInt .f64 (redE r)) by grind) l3
  have n1 : fv .f64 (floatOfInt .f64 (redE r)) * fv .f64 ln2 ≤ 20 := by grind
  have n2 : -(fv .f64 (floatOfInt .f64 (redE r)) * fv .f64 ln2) ≤ 20 := by grind
  obtain ⟨z1, z2⟩ := re_mul i1 l1 (by grind) (by grind)
  have z3 := z2 20 n1 n2
  rw [u64c] at z3
  obtain ⟨w1, w2⟩ := re_add y1 z1 (by grind) (by grind)
  have w3 := w2 50 (by grind) (by grind)
  rw [u64c] at w3
  exact ⟨w1, by grind, by grind⟩
/-- What the cepstrum takes of a line. -/
def lgX (q : Nat × Nat) : Nat := fb .add .f32 (pwV q.1 q.2) 1056964608
def lgW (q : Nat × Nat) : Nat := logN (lgX q)
theorem half32 : fin .f32 1056964608 = true ∧ fv .f32 1056964608 = 1 / 2 := by decide +kernel
theorem ends64 : fv .f64 4598175219545276416 = 1 / 4 ∧ fv .f64 (pw 15) = 32768 ∧ 4598175219545276416 < 9218868437227405312 ∧ pw 15 < 9218868437227405312 := by decide +kernel
theorem fv_up {a b : Nat} (h : fv .f64 a < fv .f64 b) (ha : a < 9218868437227405312) : a ≤ b := by
  rcases Nat.lt_or_ge b a with h1 | h1
  · have := fv_mono (Nat.le_of_lt h1) ha
    grind
  · exact h1
theorem log_fv {X : Nat} (hf : fin .f64 X = true) (hX : X < 9218868437227405312) (h1 : 1 / 4 < fv .f64 X) (h2 : fv .f64 X < 32768) : fin .f64 (logV X) = true ∧ fv .f64 (logV X) ≤ 100 ∧ -fv .f64 (logV X) ≤ 100 := by
  obtain ⟨e1, e2, e3, e4⟩ := ends64
  rw [← e1] at h1
  rw [← e2] at h2
  exact logV_small (fv_up h1 e3) (fv_up h2 hX)
theorem bn_pm {n x : Nat} (hn : n < 21) (h : Bn n x) : Pm 81 x := by
  have e := nat_20 hn
  exact ⟨h.1, by have := h.2.1; grind, by have := h.2.2; grind⟩
theorem lg_told {q : Nat × Nat} (ha : Pm 81 q.1) (hb : Pm 81 q.2) : fin .f32 (lgX q) = true ∧ lgX q ≤ 2139095040 ∧ lgX q ≠ 0 ∧ Sl (lgW q) := by
  obtain ⟨_, ⟨p1, p2'⟩, p3⟩ := pv_pm (by grind) ha hb
  obtain ⟨h1, h2⟩ := half32
  have hbg := big12
  have p4 : fv .f32 (pwV q.1 q.2) ≤ 14000 := by grind
  clear p3
  obtain ⟨a1, a2⟩ := re_add p1 h1 (by rw [h2]; grind) (by rw [h2]; grind)
  have a3 := a2 (fv .f32 (pwV q.1 q.2) + 1 / 2) (by rw [h2]; grind) (by rw [h2]; grind)
  rw [uu32, h2] at a3
  have hX : fb .add .f32 (pwV q.1 q.2) 1056964608 = lgX q := rfl
  rw [hX] at a1 a3
  have wx : Wf .f32 (lgX q) := wf_fb _ _ _ _
  have v1 : 499 / 1000 ≤ fv .f32 (lgX q) := by grind
  have v2 : fv .f32 (lgX q) ≤ 20000 := by grind
  obtain ⟨n1, n2⟩ := nn_fv wx a1 (by grind)
  obtain ⟨w1, w2⟩ := re_wide a1
  obtain ⟨w3, w4⟩ := wide_pos n1 n2
  obtain ⟨X, hX2⟩ : ∃ X, wide (lgX q) = X := ⟨_, rfl⟩
  rw [hX2] at w1 w2 w3 w4
  obtain ⟨l1, l2, l3⟩ := log_fv w1 w4 (by rw [w2]; grind) (by rw [w2]; grind)
  have hL : lgW q = nar (logV X) := by unfold lgW; rw [logN_num n1, hX2]
  obtain ⟨V, hV⟩ : ∃ V, logV X = V := ⟨_, rfl⟩
  rw [hV] at l1 l2 l3 hL
  clear hV hX2 hX w1 w2 w3 w4 v1 v2 wx a3
  obtain ⟨_, m2, _⟩ := re_nar l1 (by grind) (by grind)
  obtain ⟨m3, m4⟩ := nar_near l1 l2 l3 (by grind)
  refine ⟨a1, ?_, n2, ?_⟩
  · unfold Nn at n1; omega
  · rw [hL]
    exact ⟨m2, by grind, by grind⟩
end Go.Proofs.Yteabfkgbakoljaa

/-
  A signal of lines that are not great: the law's walk.
-/
namespace Go.Proofs.Yteabfkgbakoljaa
open Go.RowKit Mem Fl
set_option linter.unusedVariables false
set_option maxRecDepth 100000

theorem s_phase {n k p : Nat} {w : World} (W : World) (hn : n < 21) (hk : k < n / 2 + 1) (hp : p < n) : Calls Try.prog 140 #[.float .f64 (flR .quo .f64 (floatOfInt .f64 ((k : Int) * (p : Int))) (floatOfInt .f64 (n : Int)) W)] w fun e w' => e = .returned (.complex .f32 (ph1 (slQ n k p)) (ph2 (slQ n k p))) ∧ ∃ m, w' = w.drewN m := by
  obtain ⟨_, _, p1, p2'⟩ := ph_val hn hk hp
  have hq : flR .quo .f64 (floatOfInt .f64 ((k : Int) * (p : Int))) (floatOfInt .f64 (n : Int)) W = slQ n k p := slQ_word (by omega) (by omega) (by omega) (by omega) W
  obtain ⟨hR, s, r, hw, hr⟩ := slQ_bd (n := n) (k := k) (i := p) (by omega) (by omega) (by omega) (by omega)
  rw [hq]
  refine (s_PhN (w := w) hw (Nat.lt_of_le_of_lt hr (by decide +kernel))).mono ?_
  rintro e w' ⟨a, b, rfl, ha, hb, m, rfl⟩
  rw [word_told ha.out p1.f, word_told hb.out p2'.f]
  exact ⟨rfl, _, rfl⟩
set_option maxHeartbeats 4000000 in
theorem s_SignalOfLines {A : Option Addr} {n c : Nat} {L : List (Nat × Nat)} {w : World} (h : Reads w w.heap.size 1 A (n / 2 + 1) (cl L)) (hL : SlL L) (h1 : 1 ≤ n) (hn : n < 21) :
    Calls Try.prog 106 #[.slice A (n / 2 + 1) c, .int .i64 (n : Int)] w fun e w' => ∃ v, e = .returned (.tuple #[v, .bool true]) ∧ w'.ownsRow w.heap.size 27 1 v n (fl .f32 (bkL n L n)) ∧ Below w.heap.size w w' := by
  have hl : L.length = n / 2 + 1 := h.map_len
  obtain ⟨m, hm⟩ : ∃ m, n / 2 = m := ⟨_, rfl⟩
  have hmI : (n : Int).tdiv 2 = (m : Int) := by rw [← hm]; rfl
  have hm2 : m ≤ 10 := by omega
  have hin : inB (n : Int) 1 96 = true := by simp [inB]; omega
  have HA := hide (sl_all hL)
  have HF := hide (bkL_fin hn hL hl)
  have HS : Hid (∀ p k q, p < n → L[k]? = some q → _) := hide (fun p k q hp hk => bkS_word (n := n) (p := p) hn hp hL hl hk)
  have HT : Hid (∀ (p k : Nat) (q : Nat × Nat), k < n / 2 + 1 → p < n → Sl q.1 ∧ Sl q.2 → dblB n k = true → _) := hide (fun p k q hk hp hq hd => bkT_word (n := n) (k := k) (p := p) (q := q) hn hk hp hq hd)
  have HV : Hid (∀ p, p < n → _) := hide (fun p hp => bkV_word (n := n) (p := p) hn hp hL hl)
  have HL := hide hL
  have Hl := hide hl
  have Hm := hide hm
  rw [hm] at h ⊢
  clear hL hl hm
  go_enter Try.func106, Try.ntmps106
  go_wp2_with fail
  refine (s_l00In _ _ _ _).mono ?_
  rintro e w' ⟨rfl, rfl⟩
  rw [hin]
  go_wp2_with fail
  refine (s_l02CFinite h (by unfold maxLen; omega)).mono ?_
  rintro e w' ⟨rfl, q0, rfl⟩
  rw [HA.out]
  go_wp2_with fail
  have bel0 : Below w.heap.size w ((w.drewN q0).alloc (.cells #[] 27)) := (below_drewN (Below.refl _ _) _).alloc (Nat.le_refl _) _
  go_loopw [6, 7] (fun v i wr => ∃ p : Nat, p ≤ n ∧ i = .int .i64 (p : Int) ∧ Hid (wr.ownsRow w.heap.size 27 1 v p (fl .f32 (bkL n L p))) ∧ Below w.heap.size w wr) (fun _ i _ => n - (intOf i).toNat)
  case atStart => exact ⟨0, Nat.zero_le _, rfl, hide (own_emp rfl (Nat.le_refl _)), bel0⟩
  case round =>
    clear bel0
    obtain ⟨p, hp, rfl, Hown, hbel⟩ := hrel
    rename World => wo
    have hsz := hbel.size
    by_cases hlt : p < n
    · have hlt' : (p : Int) < (n : Int) := by omega
      go_wp2
      go_loopw [8, 35] (fun s i wr => ∃ k q : Nat, k ≤ m + 1 ∧ i = .int .i64 (k : Int) ∧ s = .float .f32 (bkS n p L k) ∧ wr = wo.drewN q) (fun _ i _ => m + 1 - (intOf i).toNat)
      case atStart => exact ⟨0, 0, Nat.zero_le _, rfl, rfl, rfl⟩
      case round =>
        obtain ⟨k, q, hk, rfl, rfl, hwr⟩ := hrel
        rename World => wr
        by_cases hjt : k < m + 1
        · have hjt' : (k : Int) < (m : Int) + 1 := by omega
          obtain ⟨ad, x, rfl, _, hx, hc⟩ := (h.below (show Below w.heap.size w wr by rw [hwr]; exact below_drewN hbel q)).map_at hjt
          have HX := hide (HS.out p k x hlt hx)
          have hq : Sl x.1 ∧ Sl x.2 := HL.out x (List.mem_of_getElem? hx)
          obtain ⟨_, _, pz1, pz2⟩ := ph_val (n := n) (k := k) (i := p) hn (by rw [Hm.out]; exact hjt) hlt
          have HQ := hide (And.intro (And.intro (sl_sk hq.1) (sl_sk hq.2)) (And.intro (pz_sk pz1) (pz_sk pz2)))
          have HT2 : Hid (dblB n k = true → _) := hide (fun hd => HT.out p k x (by rw [Hm.out]; exact hjt) hlt hq hd)
          have hk2 : k < n / 2 + 1 := by rw [Hm.out]; exact hjt
          clear hx hq pz1 pz2
          have b0 : (0 : Int) ≤ (k : Int) * (p : Int) := by rw [← Int.natCast_mul]; omega
          have b1 : (k : Int) * (p : Int) ≤ 4608 := by
            have : k * p ≤ 48 * 96 := Nat.mul_le_mul (by omega) (by omega)
            rw [← Int.natCast_mul]; omega
          have Hwr := hide hwr
          have hqw : ∀ W, flR .quo .f64 (floatOfInt .f64 ((k : Int) * (p : Int))) (floatOfInt .f64 (n : Int)) W = slQ n k p := slQ_word (by omega) (by omega) (by omega) (by omega)
          have hqn : flN .quo .f64 (floatOfInt .f64 ((k : Int) * (p : Int))) (floatOfInt .f64 (n : Int)) = 0 := flN_num (bd_nan64 (slQ_bd (n := n) (k := k) (i := p) (by omega) (by omega) (by omega) (by omega)))
          have HC1 : Hid (∀ W : World, Calls Try.prog 140 #[.float .f64 (slQ n k p)] W fun e w' => e = .returned (.complex .f32 (ph1 (slQ n k p)) (ph2 (slQ n k p))) ∧ ∃ m, w' = W.drewN m) := hide (fun W => by
            have := s_phase (w := W) W hn hk2 hlt
            rwa [hqw] at this)
          have HC2 : Hid (∀ W : World, Calls Try.prog 139 #[.complex .f32 x.1 x.2, .complex .f32 (ph1 (slQ n k p)) (ph2 (slQ n k p))] W fun e w' => e = .returned (.complex .f32 (nar (mwR x.1 x.2 (ph1 (slQ n k p)) (ph2 (slQ n k p)))) (nar (mwI x.1 x.2 (ph1 (slQ n k p)) (ph2 (slQ n k p))))) ∧ ∃ m, w' = W.drewN m) := hide (fun W => s_l01Mul HQ.out.1.1 HQ.out.1.2 HQ.out.2.1 HQ.out.2.2)
          have HB : Hid (bkM n k p x = nar (mwR x.1 x.2 (ph1 (slQ n k p)) (ph2 (slQ n k p)))) := hide rfl
          have HD : Hid (dblB n k = false → bkM n k p x = bkT n k p x) := hide (fun hd => by unfold bkT; rw [hd]; rfl)
          have h2I : IntKind.i64.wrap (2 * (k : Int)) = 2 * (k : Int) := IntWalk.i64_in _ (by omega)
          have hkp : IntKind.i64.wrap ((k : Int) * (p : Int)) = (k : Int) * (p : Int) := IntWalk.i64_in _ (by omega)
          obtain ⟨MR, hMR⟩ : ∃ MR, nar (mwR x.1 x.2 (ph1 (slQ n k p)) (ph2 (slQ n k p))) = MR := ⟨_, rfl⟩
          obtain ⟨MI, hMI⟩ : ∃ MI, nar (mwI x.1 x.2 (ph1 (slQ n k p)) (ph2 (slQ n k p))) = MI := ⟨_, rfl⟩
          rw [hMR, hMI] at HC2
          rw [hMR] at HB
          obtain ⟨Q, hQ⟩ : ∃ Q, slQ n k p = Q := ⟨_, rfl⟩
          rw [hQ] at hqw HC1 HC2
          obtain ⟨P1, hP1⟩ : ∃ P1, ph1 Q = P1 := ⟨_, rfl⟩
          obtain ⟨P2, hP2⟩ : ∃ P2, ph2 Q = P2 := ⟨_, rfl⟩
          rw [hP1, hP2] at HC1 HC2
          obtain ⟨S0, hS0⟩ : ∃ S0, bkS n p L k = S0 := ⟨_, rfl⟩
          obtain ⟨S1, hS1⟩ : ∃ S1, bkS n p L (k + 1) = S1 := ⟨_, rfl⟩
          obtain ⟨x1, x1n⟩ := HX.out
          rw [hS0] at x1 x1n ⊢
          rw [hS1] at x1
          have HS1 := hide hS1
          obtain ⟨xa, hxa⟩ : ∃ xa, x.1 = xa := ⟨_, rfl⟩
          obtain ⟨xb, hxb⟩ : ∃ xb, x.2 = xb := ⟨_, rfl⟩
          rw [hxa, hxb] at hc HC2
          clear hwr hMR hMI hQ hP1 hP2 hS0 hS1 hxa hxb HQ HX hbel hsz Hown
          rcases (by omega : k = 0 ∨ (0 < k ∧ 2 * k = n) ∨ (0 < k ∧ 2 * k ≠ n)) with h0 | ⟨h0, h2⟩ | ⟨h0, h2⟩
          · have hd : dblB n k = false := by subst h0; rfl
            have k0 : ¬ (0 : Int) < (k : Int) := by omega
            rw [← HD.out hd, HB.out] at x1 x1n
            clear h0 hd HD HB HT2
            go_wp2
            go_quiet ((first | (go_at_call 140; exact Calls.quiet_of (HC1.out _)) | (go_at_call 139; exact Calls.quiet_of (HC2.out _))))
            go_wp2
            go_roundw
            case rel => exact ⟨k + 1, _, by omega, by go_num, by rw [HS1.out], by rw [Hwr.out]; simp only [World.drewN_drewN]; rfl⟩
            case measure => simp [intOf]; omega
          · have hd : dblB n k = false := by unfold dblB; simp [h2]
            have k0 : (0 : Int) < (k : Int) := by omega
            have h3 : (2 * (k : Int) != (n : Int)) = false := by simp; omega
            rw [← HD.out hd, HB.out] at x1 x1n
            clear h2 hd HD HB HT2
            go_wp2
            go_quiet ((first | (go_at_call 140; exact Calls.quiet_of (HC1.out _)) | (go_at_call 139; exact Calls.quiet_of (HC2.out _))))
            go_wp2
            go_roundw
            case rel => exact ⟨k + 1, _, by omega, by go_num, by rw [HS1.out], by rw [Hwr.out]; simp only [World.drewN_drewN]; rfl⟩
            case measure => simp [intOf]; omega
          · have hd : dblB n k = true := by unfold dblB; simp [h2]; omega
            have k0 : (0 : Int) < (k : Int) := by omega
            have h3 : (2 * (k : Int) != (n : Int)) = true := by simp; omega
            obtain ⟨t1, t1n⟩ := HT2.out hd
            rw [HB.out] at t1 t1n
            obtain ⟨T, hT⟩ : ∃ T, bkT n k p x = T := ⟨_, rfl⟩
            rw [hT] at t1 x1 x1n
            clear h2 hd HD HB HT2 hT
            go_wp2
            go_quiet ((first | (go_at_call 140; exact Calls.quiet_of (HC1.out _)) | (go_at_call 139; exact Calls.quiet_of (HC2.out _))))
            go_wp2
            go_roundw
            case rel => exact ⟨k + 1, _, by omega, by go_num, by rw [HS1.out], by rw [Hwr.out]; simp only [World.drewN_drewN]; rfl⟩
            case measure => simp [intOf]; omega
        · obtain rfl : k = m + 1 := by omega
          subst hwr
          have hlen : L.length = m + 1 := by rw [Hl.out, Hm.out]
          have HV2 := HV.out p hlt
          rw [hlen] at HV2
          obtain ⟨v1, v1n⟩ := HV2
          go_wp2_with (at_builtin; refine wpList_append1 rfl (.tmp 66) (.tmp 71) 36 rfl w.heap.size 27 (.float .f32 0) _ 4 info_f32 Try.underlying36 rfl rfl _ _ _ rfl (own_drewN Hown.out _) rfl rfl (by omega) (by omega) (by simp; omega) ?_)
          intro v' w' hown' hb'
          have hbel' : Below w.heap.size w w' := (below_drewN hbel _).trans hb'
          have HO := hide (own_snoc hown')
          clear hown' hb'
          go_wp2
          go_roundw
          case rel => exact ⟨p + 1, by omega, by go_num, hide (by rw [bkL_succ]; exact HO.out), hbel'⟩
          case measure => simp [intOf]; omega
    · obtain rfl : p = n := by omega
      obtain ⟨OA, oc, hov⟩ := own_shape Hown.out
      subst hov
      have hR2 := Reads.of_own Hown.out
      go_wp2_with (go_at_call 92; refine (s_l02Finite _ _ _ _ _ _ hR2 (by unfold maxLen; omega)).mono ?_; rintro e w' ⟨rfl, m', rfl⟩; rw [HF.out])
      go_ret2
      exact ⟨_, rfl, own_drewN Hown.out _, below_drewN hbel _⟩
end Go.Proofs.Yteabfkgbakoljaa
