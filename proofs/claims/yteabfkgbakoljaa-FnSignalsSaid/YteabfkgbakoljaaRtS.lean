/-
  Powers near to rates, of the signals and the rates that a law draws: the reference's walk.
-/
import Derived.Test.YteabfkgbakoljaaGaT
import Derived.Test.YteabfkgbakoljaaSlT
import Derived.Test.YteabfkgbakoljaaPlace
namespace Go.Proofs.Yteabfkgbakoljaa
open Go.RowKit Mem Fl
set_option linter.unusedVariables false
set_option maxRecDepth 100000

theorem fin_nn64 {x : Nat} (h : fin .f64 x = true) : isNan .f64 x = false := by
  cases hx : isNan .f64 x
  · rfl
  · rw [← fin_cn, cn_nan hx] at h; exact absurd h (by decide +kernel)
theorem cv_fn {a : Nat} (h : fin .f32 a = true) : (∀ W : World, cvR .f32 .f64 a W = wide a) ∧ cvN .f32 .f64 a = 0 := by
  obtain ⟨s, m, i, rx, _, _⟩ := fin_read h
  have hc := cvBits_num (show FloatKind.f32.decode a = .number s m i from rx)
  have hw : wide a = FloatKind.f64.encode (.number s m i) := by
    unfold wide
    rw [hc]
    exact cn_num (isNan_nearest' _ _ _ _)
  refine ⟨fun W => ?_, ?_⟩
  · unfold cvR; rw [hc, hw]; rfl
  · unfold cvN; rw [hc]; rfl
/-- A part of a line that is not great. -/
def Sm (x : Nat) : Prop := fin .f32 x = true ∧ fv .f32 x ≤ 9007199254740992 ∧ -fv .f32 x ≤ 9007199254740992
def pwW (a b : Nat) : Nat := fb .add .f64 (fb .mul .f64 (wide a) (wide a)) (fb .mul .f64 (wide b) (wide b))
def pwV (a b : Nat) : Nat := nar (pwW a b)
theorem bigC64 : (10000000000000000000000000000000000000 : Rat) ≤ big .f64 := by decide +kernel
theorem bigC32 : (10000000000000000000000000000000000000 : Rat) ≤ big .f32 := by decide +kernel
theorem sm_sq {a : Nat} (h : Sm a) : fin .f64 (wide a) = true ∧ fin .f64 (fb .mul .f64 (wide a) (wide a)) = true ∧ fv .f64 (fb .mul .f64 (wide a) (wide a)) ≤ 100000000000000000000000000000000 ∧ -fv .f64 (fb .mul .f64 (wide a) (wide a)) ≤ 100000000000000000000000000000000 := by
  obtain ⟨f, h1, h2⟩ := h
  obtain ⟨w1, v1⟩ := re_wide f
  have hs := sq_of_nn (fv .f32 a)
  have p := Rat.mul_nonneg (show 0 ≤ 9007199254740992 - fv .f32 a by grind) (show 0 ≤ 9007199254740992 + fv .f32 a by grind)
  have hm : fv .f32 a * fv .f32 a ≤ 90000000000000000000000000000000 := by grind
  have hb := bigC64
  have hu := u64b
  have he : p2 (FloatKind.f64.format.leastPlace - 1) ≤ 1 := by decide +kernel
  obtain ⟨c1, c2⟩ := re_mul w1 w1 (by rw [v1]; grind) (by rw [v1]; grind)
  have c3 := c2 90000000000000000000000000000000 (by rw [v1]; exact hm) (by rw [v1]; grind)
  rw [v1] at c3
  exact ⟨w1, c1, by grind, by grind⟩
/-- The power of a line. -/
theorem pw_told {a b : Nat} (ha : Sm a) (hb : Sm b) : fin .f64 (pwW a b) = true ∧ narOk (pwW a b) ∧ fin .f32 (pwV a b) = true ∧ fv .f32 (pwV a b) ≤ 400000000000000000000000000000000 ∧ -fv .f32 (pwV a b) ≤ 400000000000000000000000000000000 := by
  obtain ⟨_, a1, a2, a3⟩ := sm_sq ha
  obtain ⟨_, b1, b2, b3⟩ := sm_sq hb
  have hbg := bigC64
  have hu := u64b
  obtain ⟨s1, s2⟩ := re_add a1 b1 (by grind) (by grind)
  have s3 := s2 200000000000000000000000000000000 (by grind) (by grind)
  have hbg2 := bigC32
  have hW : fb .add .f64 (fb .mul .f64 (wide a) (wide a)) (fb .mul .f64 (wide b) (wide b)) = pwW a b := rfl
  rw [hW] at s1 s3
  obtain ⟨n1, n2, n3⟩ := re_nar s1 (by grind) (by grind)
  have n4 := n3 300000000000000000000000000000000 (by grind) (by grind)
  rw [uu32] at n4
  have he := e20
  have hV : nar (pwW a b) = pwV a b := rfl
  rw [hV] at n2 n4
  exact ⟨s1, n1, n2, by grind, by grind⟩
theorem mul_word {a : Nat} (h : Sm a) : (∀ W, flR .mul .f64 (wide a) (wide a) W = fb .mul .f64 (wide a) (wide a)) ∧ flN .mul .f64 (wide a) (wide a) = 0 := by
  have := fin_nn64 (sm_sq h).2.1
  exact ⟨fun W => flR_num this W, flN_num this⟩
theorem add_word {a b : Nat} (ha : Sm a) (hb : Sm b) : (∀ W, flR .add .f64 (fb .mul .f64 (wide a) (wide a)) (fb .mul .f64 (wide b) (wide b)) W = pwW a b) ∧ flN .add .f64 (fb .mul .f64 (wide a) (wide a)) (fb .mul .f64 (wide b) (wide b)) = 0 := by
  have := fin_nn64 (pw_told ha hb).1
  exact ⟨fun W => flR_num this W, flN_num this⟩
theorem nar_word {z : Nat} (h : narOk z) (hf : fin .f32 (nar z) = true) (hz : fin .f64 z = true) : (∀ W : World, cvR .f64 .f32 z W = nar z) := fun W => by
  have := nar_t (cn_num (fin_nn64 hz)) h W
  rw [← this]
  have h2 : isNan .f32 (cvR .f64 .f32 z W) = false := by
    cases hx : isNan .f32 (cvR .f64 .f32 z W)
    · rfl
    · rw [cn_nan hx] at this; rw [← this] at hf; exact absurd hf (by decide +kernel)
  exact (cn_num h2).symm
theorem i_parts {a b : Nat} {w : World} (ha : Sm a) (hb : Sm b) : Calls Try.prog 134 #[.complex .f32 a b] w fun e w' => e = .returned (.tuple #[.float .f64 (wide a), .float .f64 (wide b)]) ∧ w = w' := by
  obtain ⟨v0, v0n⟩ := cv_fn ha.1
  obtain ⟨v1, v1n⟩ := cv_fn hb.1
  clear ha hb
  go_enter Try.func134, Try.ntmps134
  go_wp2
  go_ret2
  exact ⟨rfl, rfl⟩
theorem i_power {a b : Nat} {w : World} (ha : Sm a) (hb : Sm b) : Calls Try.prog 136 #[.complex .f32 a b] w fun e w' => e = .returned (.float .f64 (pwW a b)) ∧ ∃ m, w' = w.drewN m := by
  obtain ⟨m1, m1n⟩ := mul_word ha
  obtain ⟨m2, m2n⟩ := mul_word hb
  obtain ⟨m3, m3n⟩ := add_word ha hb
  have HP := hide (And.intro ha hb)
  clear ha hb
  go_enter Try.func136, Try.ntmps136
  go_wp2_with (go_at_call 134; refine (i_parts HP.out.1 HP.out.2).mono ?_; rintro e w' ⟨rfl, rfl⟩)
  go_ret
  exact ⟨rfl, _, rfl⟩
theorem i_PowerOf {a b : Nat} {w : World} (ha : Sm a) (hb : Sm b) : Calls Try.prog 103 #[.complex .f32 a b] w fun e w' => e = .returned (.float .f32 (pwV a b)) ∧ ∃ m, w' = w.drewN m := by
  obtain ⟨p1, p2', p3, _⟩ := pw_told ha hb
  have hn := nar_word p2' p3 p1
  have HP := hide (And.intro ha hb)
  clear ha hb p1 p2' p3
  go_enter Try.func103, Try.ntmps103
  go_wp2_with (go_at_call 136; refine (i_power HP.out.1 HP.out.2).mono ?_; rintro e w' ⟨rfl, m, rfl⟩)
  go_ret
  exact ⟨rfl, _, rfl⟩
theorem s_l01PowerWide {a b : Nat} {w : World} (ha : Sm a) (hb : Sm b) : Calls Try.prog 131 #[.complex .f32 a b] w fun e w' => e = .returned (.float .f64 (pwW a b)) ∧ ∃ m, w' = w.drewN m := by
  obtain ⟨v0, v0n⟩ := cv_fn ha.1
  obtain ⟨v1, v1n⟩ := cv_fn hb.1
  obtain ⟨m1, m1n⟩ := mul_word ha
  obtain ⟨m2, m2n⟩ := mul_word hb
  obtain ⟨m3, m3n⟩ := add_word ha hb
  clear ha hb
  go_enter Try.func131, Try.ntmps131
  go_wp2
  go_ret
  exact ⟨rfl, _, rfl⟩
theorem s_l01Nar {z : Nat} {w : World} (h : narOk z) (hf : fin .f32 (nar z) = true) (hz : fin .f64 z = true) : Calls Try.prog 130 #[.float .f64 z] w fun e w' => e = .returned (.float .f32 (nar z)) ∧ ∃ m, w' = w.drewN m := by
  have hn := nar_word h hf hz
  clear h hf hz
  go_enter Try.func130, Try.ntmps130
  go_wp2
  go_ret
  exact ⟨rfl, _, rfl⟩
theorem s_l01Power {a b : Nat} {w : World} (ha : Sm a) (hb : Sm b) : Calls Try.prog 91 #[.complex .f32 a b] w fun e w' => e = .returned (.float .f32 (pwV a b)) ∧ ∃ m, w' = w.drewN m := by
  obtain ⟨p1, p2', p3, _⟩ := pw_told ha hb
  have HP := hide (And.intro ha hb)
  have HQ := hide (And.intro p2' (And.intro p3 p1))
  clear ha hb p1 p2' p3
  go_enter Try.func91, Try.ntmps91
  go_wp2_with (first
    | (go_at_call 131; refine (s_l01PowerWide HP.out.1 HP.out.2).mono ?_; rintro e w' ⟨rfl, m, rfl⟩)
    | (go_at_call 130; refine (s_l01Nar HQ.out.1 HQ.out.2.1 HQ.out.2.2).mono ?_; rintro e w' ⟨rfl, m2, rfl⟩))
  go_ret
  exact ⟨rfl, _, rfl⟩
/-- Sums of powers from a line on. -/
def pwS (l : List (Nat × Nat)) : Nat := l.foldl (fun s p => fb .add .f32 s (pwV p.1 p.2)) 0
def SmL (l : List (Nat × Nat)) : Prop := ∀ p ∈ l, Sm p.1 ∧ Sm p.2
theorem pwS_snoc (l : List (Nat × Nat)) (p : Nat × Nat) : pwS (l ++ [p]) = fb .add .f32 (pwS l) (pwV p.1 p.2) := by unfold pwS; rw [List.foldl_append]; rfl
theorem pwS_fin : ∀ (l : List (Nat × Nat)) (s : Nat) (k : Nat), SmL l → fin .f32 s = true → fv .f32 s ≤ (k : Rat) * 500000000000000000000000000000000 → -fv .f32 s ≤ (k : Rat) * 500000000000000000000000000000000 → k + l.length ≤ 12 →
    let r := l.foldl (fun s p => fb .add .f32 s (pwV p.1 p.2)) s
    fin .f32 r = true ∧ fv .f32 r ≤ 12 * 500000000000000000000000000000000 ∧ -fv .f32 r ≤ 12 * 500000000000000000000000000000000
  | [], s, k, _, hs, h1, h2, hk => by
    have e : (k : Rat) ≤ 12 := by have := nat_le.2 (show k ≤ 12 by omega); exact this
    exact ⟨hs, by simp only [List.foldl_nil]; grind, by simp only [List.foldl_nil]; grind⟩
  | p :: l, s, k, hl, hs, h1, h2, hk => by
    obtain ⟨pa, pb⟩ := hl p (List.mem_cons_self ..)
    obtain ⟨_, _, p3, p5, p6⟩ := pw_told pa pb
    rw [List.length_cons] at hk
    have e : (k : Rat) ≤ 12 := by have := nat_le.2 (show k ≤ 12 by omega); exact this
    have hb := bigC32
    obtain ⟨a, b⟩ := re_add hs p3 (by grind) (by grind)
    have c := b 10000000000000000000000000000000000 (by grind) (by grind)
    rw [uu32] at c
    have ek : ((k + 1 : Nat) : Rat) = (k : Rat) + 1 := by rw [Rat.natCast_add]; rfl
    exact pwS_fin l _ (k + 1) (fun q hq => hl q (List.mem_cons_of_mem _ hq)) a (by rw [ek]; grind) (by rw [ek]; grind) (by omega)
theorem pwS_ok {l : List (Nat × Nat)} (h : SmL l) (hl : l.length ≤ 12) : fin .f32 (pwS l) = true ∧ fv .f32 (pwS l) ≤ 6000000000000000000000000000000000 ∧ -fv .f32 (pwS l) ≤ 6000000000000000000000000000000000 := by
  have f0 := f0'
  have := pwS_fin l 0 0 h f0.1 (by rw [f0.2]; decide +kernel) (by rw [f0.2]; decide +kernel) (by omega)
  have e : pwS l = l.foldl (fun s p => fb .add .f32 s (pwV p.1 p.2)) 0 := rfl
  rw [e]
  exact ⟨this.1, by grind, by grind⟩
/-- Numbers of at most a rung. -/
theorem bd_fv {k : FloatKind} {R x : Nat} (h : Bd k R x) : fin k x = true ∧ fv k x ≤ (vv k R : Rat) * p2 k.format.leastPlace ∧ -fv k x ≤ (vv k R : Rat) * p2 k.format.leastPlace := by
  obtain ⟨hR, s, r, rfl, hr⟩ := h
  have hrd := read_word (k := k) (s := s) (r := r) (by omega)
  refine ⟨(fin_iff _ _).2 ⟨_, _, _, hrd⟩, ?_⟩
  rw [fv_num hrd]
  have e : (magOf k.format r : Rat) * p2 (placeOf k.format r) = (vv k r : Rat) * p2 k.format.leastPlace := by
    unfold vv
    have hp := place_ge k.format r
    rw [Rat.natCast_mul, ← p2_toNat (by omega), Rat.mul_assoc, ← p2_add]
    congr 2; omega
  rw [e]
  have hm := Rat.mul_le_mul_of_nonneg_right (nat_le.2 (vv_le (k := k) hr)) (p2_nn k.format.leastPlace)
  have hn : 0 ≤ (vv k r : Rat) * p2 k.format.leastPlace := Rat.mul_nonneg Rat.natCast_nonneg (p2_nn _)
  rcases sg_cases s with h | h <;> rw [h] <;> constructor <;> grind
theorem pw44 : (vv .f64 (pw 44) : Rat) * p2 FloatKind.f64.format.leastPlace = 17592186044416 := by decide +kernel
theorem nar_44 {z : Nat} (h : Bd .f64 (pw 44) z) : fin .f32 (nar z) = true ∧ fv .f32 (nar z) ≤ 20000000000000 ∧ -fv .f32 (nar z) ≤ 20000000000000 := by
  obtain ⟨a, b, c⟩ := bd_fv h
  rw [pw44] at b c
  have hb := bigC32
  obtain ⟨_, n2, n3⟩ := re_nar a (by grind) (by grind)
  have n4 := n3 17592186044416 b c
  rw [uu32] at n4
  have he := e20
  exact ⟨n2, by grind, by grind⟩
theorem bd_43 {z : Nat} (h : Bd .f64 (pw 43) z) : Bd .f64 (pw 44) z := h.mono (by decide) (by decide +kernel)
/-- A part of a phasor, roughly. -/
def Ph (x : Nat) : Prop := fin .f32 x = true ∧ fv .f32 x ≤ 20000000000000 ∧ -fv .f32 x ≤ 20000000000000
theorem ph_rough {s : Bool} {r y : Nat} (hy : y = FloatKind.f64.format.word s r) (hr : r < 9218868437227405312) : Ph (ph1 y) ∧ Ph (ph2 y) := by
  have hm := (word_mod (s := s) hr).1
  rw [← hy] at hm
  by_cases hb : 4841369599423283200 ≤ r
  · unfold ph1 ph2
    rw [hm, if_pos hb, if_pos hb]
    exact ⟨⟨by decide +kernel, by decide +kernel, by decide +kernel⟩, ⟨by decide +kernel, by decide +kernel, by decide +kernel⟩⟩
  · have h1 : ph1 y = phRe y := by unfold ph1; rw [hm, if_neg hb]
    have h2 : ph2 y = phIm y := by unfold ph2; rw [hm, if_neg hb]
    rw [h1, h2]
    have hfr := (small_facts (s := s) (show r < 4841369599423283200 by omega)).2.1
    rw [← hy] at hfr
    have hj : ∃ j, j ≤ 4 ∧ (∀ i, i < j → gq (phI y i) = true) ∧ gq (phI y j) = false := by
      by_cases g0 : gq (phI y 0) = true
      · by_cases g1 : gq (phI y 1) = true
        · by_cases g2 : gq (phI y 2) = true
          · by_cases g3 : gq (phI y 3) = true
            · have hall : ∀ i, i < 4 → gq (phI y i) = true := fun i hi => by
                rcases (by omega : i = 0 ∨ i = 1 ∨ i = 2 ∨ i = 3) with rfl | rfl | rfl | rfl <;> assumption
              exact ⟨4, by omega, hall, gq_end hfr hall⟩
            · exact ⟨3, by omega, fun i hi => by rcases (by omega : i = 0 ∨ i = 1 ∨ i = 2) with rfl | rfl | rfl <;> assumption, by simpa using g3⟩
          · exact ⟨2, by omega, fun i hi => by rcases (by omega : i = 0 ∨ i = 1) with rfl | rfl <;> assumption, by simpa using g2⟩
        · exact ⟨1, by omega, fun i hi => by rcases (by omega : i = 0) with rfl; assumption, by simpa using g1⟩
      · exact ⟨0, by omega, fun i hi => absurd hi (Nat.not_lt_zero _), by simpa using g0⟩
    obtain ⟨j, hj4, hall, hgj⟩ := hj
    have hQ := phQ_of hj4 hall hgj
    obtain ⟨fF, fC⟩ := left_fr (phI_cap hfr j hj4 hall) (cap_le j) hgj
    have bS := bd_sin fF
    have bC := bd_sin fC
    have eS : sinV (phI y j) = phS y := by unfold phS phF; rw [hQ]
    have eC : sinV (fb .sub .f64 4598175219545276416 (phI y j)) = phC y := by unfold phC phF; rw [hQ]
    rw [eS] at bS
    rw [eC] at bC
    have n1 := nar_44 (bd_43 bS)
    have n2 := nar_44 (bd_43 bC)
    have n3 := nar_44 (bd_neg bS)
    have n4 := nar_44 (bd_neg bC)
    unfold phRe phIm
    constructor
    · split
      · exact n3
      · split
        · exact n4
        · split
          · exact n1
          · exact n2
    · split
      · exact n2
      · split
        · exact n3
        · split
          · exact n4
          · exact n1
/-- Lines of the signals that the laws draw. -/
theorem line_part {p x s : Nat} {k : Nat} (hp : Ph p) (hx : ∃ q, q < 33 ∧ x = qF q) (hs : fin .f32 s = true ∧ fv .f32 s ≤ (k : Rat) * 200000000000000 ∧ -fv .f32 s ≤ (k : Rat) * 200000000000000) (hk : k < 21) :
    fin .f32 (fb .add .f32 s (fb .mul .f32 p x)) = true ∧ fv .f32 (fb .add .f32 s (fb .mul .f32 p x)) ≤ ((k + 1 : Nat) : Rat) * 200000000000000 ∧ -fv .f32 (fb .add .f32 s (fb .mul .f32 p x)) ≤ ((k + 1 : Nat) : Rat) * 200000000000000 := by
  obtain ⟨⟨x1, _⟩, _, _, x2, x3⟩ := qF_gr hx
  obtain ⟨p1, p2', p3⟩ := hp
  obtain ⟨s1, s2, s3⟩ := hs
  have hb := bigC32
  have he := e20
  have q1 := Rat.mul_nonneg (show 0 ≤ 20000000000000 - fv .f32 p by grind) (show 0 ≤ 4 + fv .f32 x by grind)
  have q2 := Rat.mul_nonneg (show 0 ≤ 20000000000000 + fv .f32 p by grind) (show 0 ≤ 4 - fv .f32 x by grind)
  have q3 := Rat.mul_nonneg (show 0 ≤ 20000000000000 - fv .f32 p by grind) (show 0 ≤ 4 - fv .f32 x by grind)
  have q4 := Rat.mul_nonneg (show 0 ≤ 20000000000000 + fv .f32 p by grind) (show 0 ≤ 4 + fv .f32 x by grind)
  have m1 : fv .f32 p * fv .f32 x ≤ 80000000000000 := by grind
  have m2 : -(fv .f32 p * fv .f32 x) ≤ 80000000000000 := by grind
  clear q1 q2 q3 q4
  obtain ⟨a, b⟩ := re_mul p1 x1 (by grind) (by grind)
  have c := b 80000000000000 m1 m2
  rw [uu32, lp32] at c
  have ek : ((k + 1 : Nat) : Rat) = (k : Rat) + 1 := by rw [Rat.natCast_add]; rfl
  have e21 : (k : Rat) ≤ 21 := nat_21 (by omega)
  obtain ⟨d, e⟩ := re_add s1 a (by grind) (by grind)
  have f := e 5000000000000000 (by grind) (by grind)
  rw [uu32] at f
  exact ⟨d, by rw [ek]; grind, by rw [ek]; grind⟩
theorem line_ok {xs : List Nat} (h : Sg xs) {k : Nat} (hk : k ≤ 48) : ∀ i, i ≤ xs.length →
    (fin .f32 (slS xs.length k xs i).1 = true ∧ fv .f32 (slS xs.length k xs i).1 ≤ (i : Rat) * 200000000000000 ∧ -fv .f32 (slS xs.length k xs i).1 ≤ (i : Rat) * 200000000000000) ∧
    (fin .f32 (slS xs.length k xs i).2 = true ∧ fv .f32 (slS xs.length k xs i).2 ≤ (i : Rat) * 200000000000000 ∧ -fv .f32 (slS xs.length k xs i).2 ≤ (i : Rat) * 200000000000000)
  | 0, _ => by
    have f0 := f0'
    have e0 : ((0 : Nat) : Rat) = 0 := rfl
    simp only [slS]
    rw [f0.2, e0]
    exact ⟨⟨f0.1, by decide +kernel, by decide +kernel⟩, ⟨f0.1, by decide +kernel, by decide +kernel⟩⟩
  | i + 1, hi => by
    obtain ⟨h1, h2⟩ := line_ok h hk i (by omega)
    have l2 := h.l2
    have hx := h.at_ (getD_mem (show i < xs.length by omega))
    obtain ⟨s, r, hw, hr⟩ := sl_neg (n := xs.length) (k := k) (i := i) h.l1 (by omega) hk (by omega)
    obtain ⟨p1, p2'⟩ := ph_rough hw hr
    simp only [slS]
    exact ⟨line_part p1 hx h1 (by omega), line_part p2' hx h2 (by omega)⟩
theorem lines_sm {xs : List Nat} (h : Sg xs) : SmL (slL xs (xs.length / 2 + 1)) ∧ slO xs = true := by
  have l2 := h.l2
  have hs : SmL (slL xs (xs.length / 2 + 1)) := fun p hp => by
    unfold slL at hp
    obtain ⟨k, hk, rfl⟩ := List.mem_map.1 hp
    have hk := List.mem_range.1 hk
    obtain ⟨⟨a1, a2, a3⟩, b1, b2, b3⟩ := line_ok h (k := k) (by omega) xs.length (Nat.le_refl _)
    have e21 := nat_21 l2
    exact ⟨⟨a1, by grind, by grind⟩, ⟨b1, by grind, by grind⟩⟩
  refine ⟨hs, ?_⟩
  unfold slO
  rw [sg_sig h, Bool.true_and, List.all_eq_true]
  intro p hp
  obtain ⟨⟨a, _⟩, b, _⟩ := hs p hp
  unfold cfp
  simp [cfin, a, b]
end Go.Proofs.Yteabfkgbakoljaa
namespace Go.Proofs.Yteabfkgbakoljaa
open Go.RowKit Mem Fl
set_option linter.unusedVariables false
set_option maxRecDepth 100000

def ceilN (y : Nat) : Nat := FloatKind.f64.encode ((FloatKind.f64.decode y).integral .up)
section
variable {P : Program} {f : FuncId} {fn : Func}
theorem run_call_ceil (hf : P.funcs[f]? = some fn) (hname : (fn.name == "runtime.NumGoroutine") = false) (hb : fn.body.isNone = true) (hn : Extern.findNext fn = none) (he : Extern.find fn = some (Extern.MathFloor.toIntegral "math.archCeil" .up)) {y : Nat} {s : Bool} {m : Nat} {e : Int} (hy : FloatKind.f64.decode y = .number s m e) (w : World) :
    (callFunc f #[.float .f64 y]).run P w = .ok (.value (.float .f64 (ceilN y))) w := by
  rw [run_callFunc_extern hf hname hb hn he]
  change (Sem.run P (match FloatKind.f64.decode y with
    | .nan s t =>
      if FloatKind.f64.format.quiet t = t then pure (Value.float .f64 y) else do
      let kept ← choose (.extern "math.Floor,Ceil,Trunc,RoundToEven.signallingNaN kept" 2)
      pure (Value.float .f64 (if kept == 1 then y else FloatKind.f64.encode (.nan s (FloatKind.f64.format.quiet t))))
    | d => pure (Value.float .f64 (FloatKind.f64.encode (d.integral .up)))) w).andThen _ = _
  unfold ceilN
  rw [hy]
  rfl
end
theorem ceil_calls (w : World) {y : Nat} {s : Bool} {m : Nat} {e : Int} (hy : FloatKind.f64.decode y = .number s m e) : Calls Try.prog 86 #[.float .f64 y] w fun e w' => e = .returned (.float .f64 (ceilN y)) ∧ w = w' := by
  have hs := fun (w : World) => run_call_ceil (P := Try.prog) (f := 127) Try.func127 (by kernel_rfl) (by kernel_rfl) (by kernel_rfl) (by rfl) hy w
  clear hy
  go_enter Try.func86, Try.ntmps86
  go_wp2
  go_ret
  exact ⟨rfl, rfl⟩
/-- Lines that are told are told to the word. -/
theorem told_lines {zs L : List (Nat × Nat)} (h : zs.map cnp = L) (hs : SmL L) : zs = L := by
  subst h
  have : ∀ z ∈ zs, cnp z = z := fun z hz => by
    obtain ⟨⟨a, _⟩, b, _⟩ := hs _ (List.mem_map_of_mem hz)
    unfold cnp at a b ⊢
    simp only at a b
    have k1 : ∀ x, fin .f32 (cn .f32 x) = true → cn .f32 x = x := fun x hx => by
      have : isNan .f32 x = false := by
        cases h : isNan .f32 x
        · rfl
        · rw [cn_nan h] at hx; exact absurd hx (by decide +kernel)
      exact cn_num this
    rw [k1 _ a, k1 _ b]
  have h2 := List.map_congr_left this
  rw [h2, List.map_id']
theorem pw_take {L : List (Nat × Nat)} {k : Nat} {p : Nat × Nat} (h : L[k]? = some p) : pwS (L.take (k + 1)) = fb .add .f32 (pwS (L.take k)) (pwV p.1 p.2) := by
  rw [take_eq h, pwS_snoc]
theorem SmL.take {L : List (Nat × Nat)} (h : SmL L) (k : Nat) : SmL (L.take k) := fun p hp => h p (List.mem_of_mem_take hp)
theorem SmL.drop {L : List (Nat × Nat)} (h : SmL L) (k : Nat) : SmL (L.drop k) := fun p hp => h p (List.mem_of_mem_drop hp)
theorem fin_n32 {x : Nat} (h : fin .f32 x = true) : isNan .f32 x = false := by
  cases hx : isNan .f32 x
  · rfl
  · rw [← fin_cn, cn_nan hx] at h; exact absurd h (by decide +kernel)
/-- A mean of powers. -/
def pwM (L : List (Nat × Nat)) (n : Nat) : Nat := fb .quo .f32 (pwS L) (floatOfInt .f32 (n : Int))
theorem pwM_fin {L : List (Nat × Nat)} {n : Nat} (h : SmL L) (hl : L.length ≤ 12) (h1 : 1 ≤ n) (h2 : n ≤ 100) : fin .f32 (pwM L n) = true := by
  obtain ⟨a, b, c⟩ := pwS_ok h hl
  obtain ⟨fn, vn⟩ := n_fin h2
  have n1 := natpos h1
  have hnp : (0 : Rat) < (n : Rat) := by grind
  have hv : fv .f32 (pwS L) / (n : Rat) * (n : Rat) = fv .f32 (pwS L) := Rat.div_mul_cancel (Rat.ne_of_gt hnp)
  have v1 : fv .f32 (pwS L) / (n : Rat) ≤ 6000000000000000000000000000000000 := Rat.le_of_mul_le_mul_right (c := (n : Rat)) (by rw [hv]; grind) hnp
  have v2 : -(fv .f32 (pwS L) / (n : Rat)) ≤ 6000000000000000000000000000000000 := Rat.le_of_mul_le_mul_right (c := (n : Rat)) (by rw [Rat.neg_mul, hv]; grind) hnp
  have hb := bigC32
  exact (re_quo a fn (by rw [vn]; exact Rat.ne_of_gt hnp) (by rw [vn]; grind) (by rw [vn]; grind)).1
set_option maxHeartbeats 1000000 in
theorem i_powersOfLines {A : Option Addr} {m c n B : Nat} {L : List (Nat × Nat)} {w : World} (h : Reads w B 1 A m (cl L)) (hs : SmL L) (hm : m ≤ 12) (h1 : 1 ≤ n) (h2 : n ≤ 100) :
    Calls Try.prog 87 #[.slice A m c, .int .i64 (n : Int)] w fun e w' => e = .returned (.float .f32 (pwM L n)) ∧ ∃ q, w' = w.drewN q := by
  have hl := h.map_len
  have Hl := hide hl
  have hq := fin_n32 (pwM_fin hs (by omega) h1 h2)
  have hQ : Hid (∀ W, flR .quo .f32 (pwS L) (floatOfInt .f32 (n : Int)) W = pwM L n) := hide (fun W => flR_num hq W)
  have HF : Hid (∀ k, k ≤ m → fin .f32 (pwS (L.take k)) = true) := hide (fun k hk => (pwS_ok (hs.take k) (by rw [List.length_take]; omega)).1)
  have HS := hide hs
  clear hs hl hq
  go_enter Try.func87, Try.ntmps87
  go_wp2
  go_loopw [5, 10] (fun s i wr => ∃ k q : Nat, k ≤ m ∧ i = .int .i64 (k : Int) ∧ s = .float .f32 (pwS (L.take k)) ∧ wr = w.drewN q) (fun _ i _ => m - (intOf i).toNat)
  case atStart => exact ⟨0, 0, Nat.zero_le _, rfl, rfl, rfl⟩
  case round =>
    obtain ⟨k, q, hk, rfl, rfl, rfl⟩ := hrel
    by_cases hlt : k < m
    · obtain ⟨ad, p, rfl, _, hx, hc⟩ := h.map_at hlt
      obtain ⟨sa, sb⟩ := HS.out p (List.mem_of_getElem? hx)
      have HP := hide (And.intro sa sb)
      have hw : ∀ W, flR .add .f32 (pwS (L.take k)) (pwV p.1 p.2) W = pwS (L.take (k + 1)) := fun W => by
        rw [pw_take hx]; exact flR_num (fin_n32 (by rw [← pw_take hx]; exact HF.out (k + 1) (by omega))) W
      clear hx sa sb
      go_wp2_with (go_at_call 103; refine (i_PowerOf HP.out.1 HP.out.2).mono ?_; rintro e w' ⟨rfl, m1, rfl⟩)
      go_roundw
      case rel => exact ⟨k + 1, _, by omega, by go_num, by first | rfl | rw [hw], rfl⟩
      case measure => simp [intOf]; omega
    · obtain rfl : k = m := by omega
      have hall : Hid (L.take k = L) := hide (List.take_of_length_le (by rw [Hl.out]; exact Nat.le_refl _))
      rw [hall.out]
      have hQ2 := hQ.out
      go_wp2
      go_ret
      exact ⟨by first | rfl | rw [hQ2], _, rfl⟩
theorem s_l00Max {a b : Int} {w : World} : Calls Try.prog 90 #[.int .i64 a, .int .i64 b] w fun e w' => e = .returned (.int .i64 (if b < a then a else b)) ∧ w = w' := by
  by_cases h : b < a
  · rw [if_pos h]
    go_enter Try.func90, Try.ntmps90
    go_wp2
    go_ret
    exact ⟨rfl, rfl⟩
  · rw [if_neg h]
    go_enter Try.func90, Try.ntmps90
    go_wp2
    go_ret
    exact ⟨rfl, rfl⟩
/-- What the two rates make of a length. -/
def rtX (n : Nat) : Nat := fb .mul .f32 1056964608 (floatOfInt .f32 (n : Int))
def rtY (n : Nat) : Nat := fb .sub .f64 (wide (rtX n)) 4602678819172646912
theorem rt_tab : ∀ n : Nat, n < 22 → 1 ≤ n → fb .mul .f32 0 (floatOfInt .f32 (n : Int)) = 0 ∧ fin .f32 (rtX n) = true ∧ fin .f64 (rtY n) = true ∧ floatToIntVal .f64 (ceilN (rtY n)) .i64 = some ((n / 2 : Nat) : Int) ∧
    floatToIntVal .f32 (rtX n) .i64 = some ((n / 2 : Nat) : Int) ∧ fin .f32 (fb .sub .f32 (rtX n) (floatOfInt .f32 ((n / 2 : Nat) : Int))) = true ∧ (FloatKind.f32.format.order (fb .sub .f32 (rtX n) (floatOfInt .f32 ((n / 2 : Nat) : Int))) 1056964608 == some .gt) = false := by decide +kernel
theorem rt_zero : wide 0 = 0 ∧ fin .f64 (fb .sub .f64 0 4602678819172646912) = true ∧ floatToIntVal .f64 (ceilN (fb .sub .f64 0 4602678819172646912)) .i64 = some 0 ∧ floatToIntVal .f32 0 .i64 = some 0 ∧ fin .f32 (fb .sub .f32 0 (floatOfInt .f32 0)) = true ∧ (FloatKind.f32.format.order (fb .sub .f32 0 (floatOfInt .f32 0)) 1056964608 == some .gt) = false := by decide +kernel
theorem rt_ord : (FloatKind.f32.format.order 0 0 == some .gt || FloatKind.f32.format.order 0 0 == some .eq) = true ∧ (FloatKind.f32.format.order 0 1056964608 == some .lt || FloatKind.f32.format.order 0 1056964608 == some .eq) = true ∧
    (FloatKind.f32.format.order 1056964608 0 == some .gt || FloatKind.f32.format.order 1056964608 0 == some .eq) = true ∧ (FloatKind.f32.format.order 1056964608 1056964608 == some .lt || FloatKind.f32.format.order 1056964608 1056964608 == some .eq) = true := by decide +kernel
end Go.Proofs.Yteabfkgbakoljaa
namespace Go.Proofs.Yteabfkgbakoljaa
open Go.RowKit Mem Fl
set_option linter.unusedVariables false
set_option maxRecDepth 100000

def rpA (xs : List Nat) : Nat := pwM ((slL xs (xs.length / 2 + 1)).take 9) xs.length
def rpB (xs : List Nat) : Nat := pwM ((slL xs (xs.length / 2 + 1)).drop (xs.length / 2 - 8)) xs.length
theorem rpAB_fin {xs : List Nat} (h : Sg xs) : fin .f32 (rpA xs) = true ∧ fin .f32 (rpB xs) = true := by
  have l2 := h.l2
  have hs := (lines_sm h).1
  have hl := slL_len xs (xs.length / 2 + 1)
  exact ⟨pwM_fin (hs.take 9) (by rw [List.length_take, hl]; omega) h.l1 (by omega), pwM_fin (hs.drop _) (by rw [List.length_drop, hl]; omega) h.l1 (by omega)⟩
theorem own_cap2 {w : World} {base : Nat} {e : TypeId} {size n c : Nat} {A : Option Addr} {xs : List Value} (h : w.ownsRow base e size (.slice A n c) n xs) : n ≤ c := by
  rcases h.2 with ⟨h1, h2⟩ | ⟨g1, c1, cur, h1, _, _, h2, _⟩
  · omega
  · injection h1 with _ _ h4; omega
/-- A part of a row. -/
theorem reads_cutC {w : World} {B g m lo hi : Nat} {L : List (Nat × Nat)} (h : Reads w B 1 (some ⟨g, 0, none⟩) m (cl L)) (h1 : lo ≤ hi) (h2 : hi ≤ m) : Reads w B 1 (some ⟨g, lo, none⟩) (hi - lo) (cl ((L.take hi).drop lo)) := by
  have hl := h.map_len
  refine ⟨by unfold cl; simp; omega, fun h0 => ?_⟩
  obtain ⟨ad, e, hb, hc⟩ := h.2 (by omega)
  injection e with e
  subst e
  refine ⟨⟨g, lo, none⟩, rfl, hb, fun j u hu => ?_⟩
  unfold cl at hu hc
  rw [List.getElem?_map, List.getElem?_drop, List.getElem?_take] at hu
  split at hu
  · have := hc (lo + j) u (by rw [List.getElem?_map]; exact hu)
    rw [Addr.add_lit] at this ⊢
    rw [← this, Nat.zero_add]
  · cases hu
set_option maxHeartbeats 4000000 in
theorem i_RatePowers {A A' : Option Addr} {n c c' : Nat} {xs : List Nat} {w : World} (h : Reads w w.heap.size 1 A n (fl .f32 xs)) (hs : Sg xs) (hr : Reads w w.heap.size 1 A' 2 (fl .f32 [0, 1056964608])) :
    Calls Try.prog 37 #[.slice A n c, .slice A' 2 c', .int .i64 8] w fun e w' => ∃ v, e = .returned (.tuple #[v, .bool true]) ∧ w'.ownsRow w.heap.size 27 1 v 2 (fl .f32 [rpA xs, rpB xs]) ∧ Below w.heap.size w w' := by
  have hl := h.map_len
  have l1 := hs.l1
  have l2 := hs.l2
  rw [hl] at l1 l2
  obtain ⟨hsm, hok⟩ := lines_sm hs
  rw [hl] at hsm
  obtain ⟨H, hH⟩ : ∃ H, n / 2 = H := ⟨_, rfl⟩
  rw [hH] at hsm
  have H10 : H ≤ 10 := by omega
  have hV : slV xs = slL xs (H + 1) := by unfold slV; rw [if_pos hok, hl, hH]
  have HA : Hid (rpA xs = pwM ((slL xs (H + 1)).take 9) n) := hide (by unfold rpA; rw [hl, hH])
  have HB : Hid (rpB xs = pwM ((slL xs (H + 1)).drop (H - 8)) n) := hide (by unfold rpB; rw [hl, hH])
  have HFI := hide (rpAB_fin hs)
  have hLl := slL_len xs (H + 1)
  obtain ⟨L, hL⟩ : ∃ L, slL xs (H + 1) = L := ⟨_, rfl⟩
  rw [hL] at hsm hV HA HB hLl
  obtain ⟨RA, hRA⟩ : ∃ RA, rpA xs = RA := ⟨_, rfl⟩
  obtain ⟨RB, hRB⟩ : ∃ RB, rpB xs = RB := ⟨_, rfl⟩
  rw [hRA] at HA HFI ⊢
  rw [hRB] at HB HFI ⊢
  clear hRA hRB hL
  go_enter Try.func37, Try.ntmps37
  go_wp2_with fail
  refine (i_SignalLines h (by unfold maxLen; omega)).mono ?_
  rintro e w1 ⟨v, zs, rfl, ho, hzs, hb1⟩
  rw [hok]
  have hz : zs = L := told_lines (by rw [hzs.out, hV]) hsm
  rw [hz, hLl] at ho
  obtain ⟨g, cp, rfl⟩ := own_addr ho (by omega)
  have hcp := own_cap2 ho
  have hRD := Reads.of_own ho
  have hrr := hr.below hb1
  have hin : inB 8 0 8 = true := by decide
  have HSM := hide hsm
  have Hz := hide hLl
  clear hzs hz hV hok hs ho hl hsm hLl
  go_wp2_with fail
  refine (i_within _ _ _ _).mono ?_
  rintro e w' ⟨rfl, rfl⟩
  rw [hin]
  have hsz1 := hb1.size
  have T := rt_tab n (by omega) l1
  rw [hH] at T
  obtain ⟨T1, T2, T3, T4, T5, T6, T7⟩ := T
  obtain ⟨Z1, Z2, Z3, Z4, Z5, Z6⟩ := rt_zero
  obtain ⟨O1, O2, O3, O4⟩ := rt_ord
  have bel0 : Below w.heap.size w (w1.alloc (.cells #[] 27)) := hb1.alloc hsz1 _
  go_wp2_with fail
  go_loopw [10, 42] (fun v10 v42 wr => ∃ i : Nat, i ≤ 2 ∧ v42 = .int .i64 (i : Int) ∧ Hid (wr.ownsRow w1.heap.size 27 1 v10 i (fl .f32 ([RA, RB].take i))) ∧ Below w1.heap.size w1 wr ∧ Below w.heap.size w wr) (fun _ v42 _ => 2 - (intOf v42).toNat)
  case atStart => exact ⟨0, by omega, rfl, hide (own_emp rfl (Nat.le_refl _)), (Below.refl _ _).alloc (Nat.le_refl _) _, bel0⟩
  case round =>
    clear bel0
    obtain ⟨i, hi, rfl, Hown, belr, belw⟩ := hrel
    have hszr := belr.size
    have hRDr := hRD.below belr
    have hrq := (hrr.more hsz1).below belr
    rcases (by omega : i = 0 ∨ i = 1 ∨ i = 2) with h0 | h0 | h0
    ·
      -- [RA
      have i2 : i < 2 := by omega
      have iI : (i : Int) < 2 := by omega
      obtain ⟨ad, x, rfl, _, hx, hc⟩ := hrq.map_at (k := i) i2
      obtain rfl : 0 = x := by rw [h0] at hx; simpa using hx
      clear hx
      have H0 := hide h0
      obtain ⟨Y, hY⟩ : ∃ Y, fb .sub .f64 0 4602678819172646912 = Y := ⟨_, rfl⟩
      have y1 : ∀ W, flR .sub .f64 0 4602678819172646912 W = Y := fun W => by rw [← hY]; exact flR_num (fin_nn64 Z2) W
      have y1n : flN .sub .f64 0 4602678819172646912 = 0 := flN_num (fin_nn64 Z2)
      rw [hY] at Z2 Z3
      obtain ⟨sy, my, ey, dy⟩ := (fin_iff _ _).1 Z2
      have x1 : ∀ W, flR .mul .f32 0 (floatOfInt .f32 (n : Int)) W = 0 := fun W => by
        have := flR_num (op := .mul) (k := .f32) (x := 0) (y := floatOfInt .f32 (n : Int)) (by rw [T1]; decide +kernel) W
        rw [this, T1]
      have x1n : flN .mul .f32 0 (floatOfInt .f32 (n : Int)) = 0 := flN_num (by rw [T1]; decide +kernel)
      have f00 := f0'.1
      obtain ⟨c1, c1n⟩ := cv_fn f00
      rw [Z1] at c1
      have cv2 : ∀ W : World, (convert 33 2 (.float .f64 (ceilN Y))).run Try.prog W = .ok (.int .i64 0) W := by
        intro W
        exact run_convert_float_int (P := Try.prog) (w := W) 33 2 .f64 .i64 _ _ (by rw [Try.underlying33]; rfl) Try.underlying2 Z3
      have HT2 : Hid ([RA, RB].take i ++ [RA] = [RA, RB].take (i + 1)) := hide (by rw [H0.out]; rfl)
      obtain ⟨O, hO⟩ : ∃ O, [RA, RB].take i = O := ⟨_, rfl⟩
      rw [hO] at Hown HT2
      clear hO
      have l100 : n ≤ 100 := by omega
      clear hY Z2 Z3 Z1 Z4 Z5 Z6 T1 T2 T3 T4 T5 T6 T7 f00 h0
      by_cases h9 : 9 < H + 1
      · have hRC := hide (reads_cutC hRDr (lo := 0) (hi := 9) (Nat.zero_le _) (by omega))
        have HS2 : Hid (SmL ((L.take 9).drop 0)) := hide ((HSM.out.take 9).drop 0)
        have HP : Hid (pwM ((L.take 9).drop 0) n = RA) := hide (by rw [HA.out, List.drop_zero])
        have h9I : (9 : Int) < (H : Int) + 1 := by omega
        clear hRDr
        go_wp2_with (go_at_call 86; refine (ceil_calls _ dy).mono ?_; rintro e w' ⟨rfl, rfl⟩)
        refine (i_powersOfLines (hRC.out.drewN 0) HS2.out (by omega) l1 l100).mono ?_
        rintro e w' ⟨rfl, q, rfl⟩
        rw [HP.out]
        go_wp2_with (at_builtin; refine wpList_append1 rfl (.tmp 74) (.tmp 84) 36 rfl w1.heap.size 27 (.float .f32 0) _ 4 info_f32 Try.underlying36 rfl rfl _ _ _ rfl (own_drewN Hown.out _) rfl rfl (by omega) (by omega) (by simp; omega) ?_)
        intro v' w' hown' hb'
        have hbr := (below_drewN belr _).trans hb'
        have hbw := (below_drewN belw _).trans (hb'.mono hsz1)
        have HT := hide (own_snoc hown')
        rw [HT2.out] at HT
        clear hown' hb'
        go_wp2
        go_roundw
        case rel => exact ⟨i + 1, by omega, by go_num, HT, hbr, hbw⟩
        case measure => simp [intOf]; omega
      · have HP : Hid (pwM L n = RA) := hide (by rw [HA.out, List.take_of_length_le (by rw [Hz.out]; omega)])
        have h9I : ¬ (9 : Int) < (H : Int) + 1 := by omega
        have HR := hide hRDr
        clear hRDr
        go_wp2_with (go_at_call 86; refine (ceil_calls _ dy).mono ?_; rintro e w' ⟨rfl, rfl⟩)
        refine (i_powersOfLines (HR.out.drewN 0) HSM.out (by omega) l1 l100).mono ?_
        rintro e w' ⟨rfl, q, rfl⟩
        rw [HP.out]
        go_wp2_with (at_builtin; refine wpList_append1 rfl (.tmp 74) (.tmp 84) 36 rfl w1.heap.size 27 (.float .f32 0) _ 4 info_f32 Try.underlying36 rfl rfl _ _ _ rfl (own_drewN Hown.out _) rfl rfl (by omega) (by omega) (by simp; omega) ?_)
        intro v' w' hown' hb'
        have hbr := (below_drewN belr _).trans hb'
        have hbw := (below_drewN belw _).trans (hb'.mono hsz1)
        have HT := hide (own_snoc hown')
        rw [HT2.out] at HT
        clear hown' hb'
        go_wp2
        go_roundw
        case rel => exact ⟨i + 1, by omega, by go_num, HT, hbr, hbw⟩
        case measure => simp [intOf]; omega
      -- RA]
    ·
      -- [RB
      have i2 : i < 2 := by omega
      have iI : (i : Int) < 2 := by omega
      obtain ⟨ad, x, rfl, _, hx, hc⟩ := hrq.map_at (k := i) i2
      obtain rfl : 1056964608 = x := by rw [h0] at hx; simpa using hx
      clear hx
      have H0 := hide h0
      obtain ⟨X, hX⟩ : ∃ X, rtX n = X := ⟨_, rfl⟩
      obtain ⟨WX, hWX⟩ : ∃ WX, wide X = WX := ⟨_, rfl⟩
      obtain ⟨Y, hY⟩ : ∃ Y, rtY n = Y := ⟨_, rfl⟩
      have eY : fb .sub .f64 WX 4602678819172646912 = Y := by rw [← hY, ← hWX, ← hX]; rfl
      rw [hY] at T3 T4
      rw [hX] at T2
      have y1 : ∀ W, flR .sub .f64 WX 4602678819172646912 W = Y := fun W => by rw [← eY]; exact flR_num (fin_nn64 (by rw [eY]; exact T3)) W
      have y1n : flN .sub .f64 WX 4602678819172646912 = 0 := flN_num (fin_nn64 (by rw [eY]; exact T3))
      obtain ⟨sy, my, ey, dy⟩ := (fin_iff _ _).1 T3
      have eX : fb .mul .f32 1056964608 (floatOfInt .f32 (n : Int)) = X := hX
      have x1 : ∀ W, flR .mul .f32 1056964608 (floatOfInt .f32 (n : Int)) W = X := fun W => by rw [← eX]; exact flR_num (fin_n32 (by rw [eX]; exact T2)) W
      have x1n : flN .mul .f32 1056964608 (floatOfInt .f32 (n : Int)) = 0 := flN_num (fin_n32 (by rw [eX]; exact T2))
      obtain ⟨c1, c1n⟩ := cv_fn T2
      rw [hWX] at c1
      have cv2 : ∀ W : World, (convert 33 2 (.float .f64 (ceilN Y))).run Try.prog W = .ok (.int .i64 (H : Int)) W := by
        intro W
        exact run_convert_float_int (P := Try.prog) (w := W) 33 2 .f64 .i64 _ _ (by rw [Try.underlying33]; rfl) Try.underlying2 T4
      have HT2 : Hid ([RA, RB].take i ++ [RB] = [RA, RB].take (i + 1)) := hide (by rw [H0.out]; rfl)
      obtain ⟨O, hO⟩ : ∃ O, [RA, RB].take i = O := ⟨_, rfl⟩
      rw [hO] at Hown HT2
      have l100 : n ≤ 100 := by omega
      clear hO hY hX hWX eY eX Z2 Z3 Z1 Z4 Z5 Z6 T1 T2 T3 T4 T5 T6 T7 h0
      have tI : (H : Int) + 1 < (H : Int) + 9 := by omega
      by_cases h8 : 8 < H
      · obtain ⟨lo, hlo⟩ : ∃ lo : Nat, (H : Int) - 8 = (lo : Int) := ⟨H - 8, by omega⟩
        have elo : lo = H - 8 := by omega
        have lo1 : 0 < lo := by omega
        have lo2 : lo < H + 1 := by omega
        have hRC := hide (reads_cutC hRDr (lo := lo) (hi := H + 1) (by omega) (Nat.le_refl _))
        have HS2 : Hid (SmL ((L.take (H + 1)).drop lo)) := hide ((HSM.out.take _).drop _)
        have HP : Hid (pwM ((L.take (H + 1)).drop lo) n = RB) := hide (by rw [HB.out, elo, List.take_of_length_le (by rw [Hz.out]; exact Nat.le_refl _)])
        have loI : (lo : Int) < (H : Int) + 1 := by omega
        have lo0 : (0 : Int) < (lo : Int) := by omega
        clear hRDr elo
        go_wp2_with (go_at_call 86; refine (ceil_calls _ dy).mono ?_; rintro e w' ⟨rfl, rfl⟩)
        refine (i_powersOfLines (hRC.out.drewN 0) HS2.out (by omega) l1 l100).mono ?_
        rintro e w' ⟨rfl, q, rfl⟩
        rw [HP.out]
        go_wp2_with (at_builtin; refine wpList_append1 rfl (.tmp 74) (.tmp 84) 36 rfl w1.heap.size 27 (.float .f32 0) _ 4 info_f32 Try.underlying36 rfl rfl _ _ _ rfl (own_drewN Hown.out _) rfl rfl (by omega) (by omega) (by simp; omega) ?_)
        intro v' w' hown' hb'
        have hbr := (below_drewN belr _).trans hb'
        have hbw := (below_drewN belw _).trans (hb'.mono hsz1)
        have HT := hide (own_snoc hown')
        rw [HT2.out] at HT
        clear hown' hb'
        go_wp2
        go_roundw
        case rel => exact ⟨i + 1, by omega, by go_num, HT, hbr, hbw⟩
        case measure => simp [intOf]; omega
      · have HP : Hid (pwM L n = RB) := hide (by rw [HB.out, show H - 8 = 0 by omega, List.drop_zero])
        have h8I : ¬ (0 : Int) < (H : Int) - 8 := by omega
        have HR := hide hRDr
        clear hRDr
        go_wp2_with (go_at_call 86; refine (ceil_calls _ dy).mono ?_; rintro e w' ⟨rfl, rfl⟩)
        refine (i_powersOfLines (HR.out.drewN 0) HSM.out (by omega) l1 l100).mono ?_
        rintro e w' ⟨rfl, q, rfl⟩
        rw [HP.out]
        go_wp2_with (at_builtin; refine wpList_append1 rfl (.tmp 74) (.tmp 84) 36 rfl w1.heap.size 27 (.float .f32 0) _ 4 info_f32 Try.underlying36 rfl rfl _ _ _ rfl (own_drewN Hown.out _) rfl rfl (by omega) (by omega) (by simp; omega) ?_)
        intro v' w' hown' hb'
        have hbr := (below_drewN belr _).trans hb'
        have hbw := (below_drewN belw _).trans (hb'.mono hsz1)
        have HT := hide (own_snoc hown')
        rw [HT2.out] at HT
        clear hown' hb'
        go_wp2
        go_roundw
        case rel => exact ⟨i + 1, by omega, by go_num, HT, hbr, hbw⟩
        case measure => simp [intOf]; omega
      -- RB]
    ·
      -- [RC
      have i2 : ¬ i < 2 := by omega
      subst h0
      obtain ⟨g2, c2, rfl⟩ := own_addr Hown.out (by omega)
      have hR2 := Reads.of_own Hown.out
      have hall : ([RA, RB].take 2).all (fin .f32) = true := by simp [HFI.out.1, HFI.out.2]
      clear Z1 Z2 Z3 Z4 Z5 Z6 T1 T2 T3 T4 T5 T6 T7 O1 O2 O3 O4
      go_wp2_with (go_at_call 60; refine (i_ifAll_yes hR2 (by unfold maxLen; omega) hall).mono ?_; rintro e w' ⟨rfl, m, rfl⟩)
      go_ret2
      exact ⟨_, rfl, own_drewN (own_up Hown.out hsz1) _, below_drewN belw _⟩
      -- RC]
end Go.Proofs.Yteabfkgbakoljaa
namespace Go.Proofs.Yteabfkgbakoljaa
open Go.RowKit Mem Fl
set_option linter.unusedVariables false
set_option maxRecDepth 100000

theorem part_snoc {L : List (Nat × Nat)} {lo k : Nat} {p : Nat × Nat} (h : L[k]? = some p) (hlo : lo ≤ k) : (L.take (k + 1)).drop lo = (L.take k).drop lo ++ [p] := by
  rw [take_eq h, List.drop_append_of_le_length]
  rw [List.length_take]
  have := (List.getElem?_eq_some_iff.1 h).1
  omega
theorem snoc_rate {RA RB : Nat} {i : Nat} {R : Nat} (h : [RA, RB][i]? = some R) : [RA, RB].take i ++ [R] = [RA, RB].take (i + 1) := (take_eq h).symm
set_option maxHeartbeats 4000000 in
theorem s_RatePowers {A A' : Option Addr} {n c c' : Nat} {xs : List Nat} {w : World} (h : Reads w w.heap.size 1 A n (fl .f32 xs)) (hs : Sg xs) (hr : Reads w w.heap.size 1 A' 2 (fl .f32 [0, 1056964608])) :
    Calls Try.prog 38 #[.slice A n c, .slice A' 2 c', .int .i64 8] w fun e w' => ∃ v, e = .returned (.tuple #[v, .bool true]) ∧ w'.ownsRow w.heap.size 27 1 v 2 (fl .f32 [rpA xs, rpB xs]) ∧ Below w.heap.size w w' := by
  have hl := h.map_len
  have l1 := hs.l1
  have l2 := hs.l2
  rw [hl] at l1 l2
  obtain ⟨hsm, hok⟩ := lines_sm hs
  rw [hl] at hsm
  obtain ⟨H, hH⟩ : ∃ H, n / 2 = H := ⟨_, rfl⟩
  rw [hH] at hsm
  have H10 : H ≤ 10 := by omega
  have hV : slV xs = slL xs (H + 1) := by unfold slV; rw [if_pos hok, hl, hH]
  have HA : Hid (rpA xs = pwM ((slL xs (H + 1)).take 9) n) := hide (by unfold rpA; rw [hl, hH])
  have HB : Hid (rpB xs = pwM ((slL xs (H + 1)).drop (H - 8)) n) := hide (by unfold rpB; rw [hl, hH])
  have HFI := hide (rpAB_fin hs)
  have hLl := slL_len xs (H + 1)
  obtain ⟨L, hL⟩ : ∃ L, slL xs (H + 1) = L := ⟨_, rfl⟩
  rw [hL] at hsm hV HA HB hLl
  obtain ⟨RA, hRA⟩ : ∃ RA, rpA xs = RA := ⟨_, rfl⟩
  obtain ⟨RB, hRB⟩ : ∃ RB, rpB xs = RB := ⟨_, rfl⟩
  rw [hRA] at HA HFI ⊢
  rw [hRB] at HB HFI ⊢
  clear hRA hRB hL
  have HK : Hid (∀ i, i < 2 → ∃ rt X D a R : Nat, ([0, 1056964608] : List Nat)[i]? = some rt ∧ (FloatKind.f32.format.order rt 0 == some .gt || FloatKind.f32.format.order rt 0 == some .eq) = true ∧ (FloatKind.f32.format.order rt 1056964608 == some .lt || FloatKind.f32.format.order rt 1056964608 == some .eq) = true ∧
      ((∀ W, flR .mul .f32 rt (floatOfInt .f32 (n : Int)) W = X) ∧ flN .mul .f32 rt (floatOfInt .f32 (n : Int)) = 0) ∧ floatToIntVal .f32 X .i64 = some (a : Int) ∧ ((∀ W, flR .sub .f32 X (floatOfInt .f32 (a : Int)) W = D) ∧ flN .sub .f32 X (floatOfInt .f32 (a : Int)) = 0) ∧
      (FloatKind.f32.format.order D 1056964608 == some .gt) = false ∧ a ≤ H ∧ [RA, RB][i]? = some R ∧ R = pwM ((L.take (min (H + 1) (a + 9))).drop (a - 8)) n) := hide (fun i hi => by
    have T := rt_tab n (by omega) l1
    rw [hH] at T
    obtain ⟨T1, T2, T3, T4, T5, T6, T7⟩ := T
    obtain ⟨Z1, Z2, Z3, Z4, Z5, Z6⟩ := rt_zero
    obtain ⟨O1, O2, O3, O4⟩ := rt_ord
    rcases (by omega : i = 0 ∨ i = 1) with rfl | rfl
    · refine ⟨0, 0, fb .sub .f32 0 (floatOfInt .f32 0), 0, RA, rfl, O1, O2, ⟨fun W => ?_, flN_num (by rw [T1]; decide +kernel)⟩, Z4, ⟨fun W => flR_num (fin_n32 Z5) W, flN_num (fin_n32 Z5)⟩, Z6, by omega, rfl, ?_⟩
      · have := flR_num (op := .mul) (k := .f32) (x := 0) (y := floatOfInt .f32 (n : Int)) (by rw [T1]; decide +kernel) W
        rw [this, T1]
      · rw [HA.out, show 0 - 8 = 0 by omega, List.drop_zero]
        by_cases h9 : H + 1 ≤ 9
        · rw [Nat.min_eq_left (by omega), List.take_of_length_le (by rw [hLl]; omega), List.take_of_length_le (by rw [hLl]; exact Nat.le_refl _)]
        · rw [Nat.min_eq_right (by omega)]
    · refine ⟨1056964608, rtX n, fb .sub .f32 (rtX n) (floatOfInt .f32 (H : Int)), H, RB, rfl, O3, O4, ⟨fun W => flR_num (fin_n32 T2) W, flN_num (fin_n32 T2)⟩, T5, ⟨fun W => flR_num (fin_n32 T6) W, flN_num (fin_n32 T6)⟩, T7, by omega, rfl, ?_⟩
      rw [HB.out, Nat.min_eq_left (by omega), List.take_of_length_le (by rw [hLl]; exact Nat.le_refl _)])
  go_enter Try.func38, Try.ntmps38
  go_wp2_with fail
  refine (s_SignalLines h (by unfold maxLen; omega)).mono ?_
  rintro e w1 ⟨v, zs, rfl, ho, hzs, hb1⟩
  rw [hok]
  have hz : zs = L := told_lines (by rw [hzs.out, hV]) hsm
  rw [hz, hLl] at ho
  obtain ⟨g, cp, rfl⟩ := own_addr ho (by omega)
  have hRD := Reads.of_own ho
  have hrr := hr.below hb1
  have hin : inB 8 0 8 = true := by decide
  have HSM := hide hsm
  have Hz := hide hLl
  have hsz1 := hb1.size
  have bel0 : Below w.heap.size w (w1.alloc (.cells #[] 27)) := hb1.alloc hsz1 _
  clear hzs hz hV hok hs ho hl hsm hLl HA HB
  go_wp2_with fail
  refine (s_l00In _ _ _ _).mono ?_
  rintro e w' ⟨rfl, rfl⟩
  rw [hin]
  go_wp2_with fail
  go_loopw [11, 45] (fun v11 v45 wr => ∃ i : Nat, i ≤ 2 ∧ v45 = .int .i64 (i : Int) ∧ Hid (wr.ownsRow w1.heap.size 27 1 v11 i (fl .f32 ([RA, RB].take i))) ∧ Below w1.heap.size w1 wr ∧ Below w.heap.size w wr) (fun _ v45 _ => 2 - (intOf v45).toNat)
  case atStart => exact ⟨0, by omega, rfl, hide (own_emp rfl (Nat.le_refl _)), (Below.refl _ _).alloc (Nat.le_refl _) _, bel0⟩
  case round =>
    clear bel0
    obtain ⟨i, hi, rfl, Hown, belr, belw⟩ := hrel
    have hszr := belr.size
    have hRDr := hRD.below belr
    have hrq := (hrr.more hsz1).below belr
    by_cases i2 : i < 2
    ·
      -- [SA
      have iI : (i : Int) < 2 := by omega
      obtain ⟨rt, X, D, a, R, hrt, o1, o2, ⟨x1, x1n⟩, cvi, ⟨d1, d1n⟩, o3, aH, hR, hRe⟩ := HK.out i i2
      obtain ⟨ad, x, rfl, _, hx, hc⟩ := hrq.map_at (k := i) i2
      obtain rfl : rt = x := by rw [hrt] at hx; injection hx
      have HT2 := hide (snoc_rate hR)
      obtain ⟨O, hO⟩ : ∃ O, [RA, RB].take i = O := ⟨_, rfl⟩
      rw [hO] at Hown HT2
      have cv2 : ∀ W : World, (convert 27 2 (.float .f32 X)).run Try.prog W = .ok (.int .i64 (a : Int)) W := by
        intro W
        exact run_convert_float_int (P := Try.prog) (w := W) 27 2 .f32 .i64 _ _ (by rw [Try.underlying27]; rfl) Try.underlying2 cvi
      obtain ⟨lo, hlo⟩ : ∃ lo, a - 8 = lo := ⟨_, rfl⟩
      obtain ⟨hg, hhg⟩ : ∃ hg, min (H + 1) (a + 9) = hg := ⟨_, rfl⟩
      rw [hlo, hhg] at hRe
      have hm : (if (a : Int) - 8 < 0 then (0 : Int) else (a : Int) - 8) = (lo : Int) := by split <;> omega
      have lo1 : lo ≤ hg := by omega
      have hg1 : hg ≤ H + 1 := by omega
      have hg2 : hg ≤ a + 9 := by omega
      have HG : Hid (hg = H + 1 ∨ hg = a + 9) := hide (by omega)
      have HR := hide hRe
      have l100 : n ≤ 100 := by omega
      have HRD := hide hRDr
      clear hO hx hrt cvi hR hRe hhg hlo hRDr
      go_wp2_with fail
      refine (s_l00Max).mono ?_
      rintro e w' ⟨rfl, rfl⟩
      rw [hm]
      go_wp2_with fail
      go_loopw [15, 16] (fun v15 v16 wx => ∃ k q : Nat, lo ≤ k ∧ k ≤ hg ∧ v16 = .int .i64 (k : Int) ∧ v15 = .float .f32 (pwS ((L.take k).drop lo)) ∧ wx = wr.drewN q) (fun _ v16 _ => hg - (intOf v16).toNat)
      case atStart =>
        refine ⟨lo, _, Nat.le_refl _, lo1, rfl, ?_, rfl⟩
        have : (L.take lo).drop lo = [] := List.drop_eq_nil_of_le (by rw [List.length_take]; omega)
        rw [this]; rfl
      case round =>
        obtain ⟨k, q, hk1, hk2, rfl, rfl, rfl⟩ := hrel
        by_cases hkt : k < hg
        · have k1 : (k : Int) ≤ (a : Int) + 8 := by omega
          have k2 : (k : Int) < (H : Int) + 1 := by omega
          obtain ⟨ad2, p, hA, _, hx2, hc2⟩ := HRD.out.map_at (k := k) (by omega)
          injection hA with hA
          subst hA
          rw [Addr.add_lit, Nat.zero_add] at hc2
          obtain ⟨sa, sb⟩ := HSM.out p (List.mem_of_getElem? hx2)
          have HP := hide (And.intro sa sb)
          have hps := part_snoc hx2 hk1
          have hw : ∀ W, flR .add .f32 (pwS ((L.take k).drop lo)) (pwV p.1 p.2) W = pwS ((L.take (k + 1)).drop lo) := fun W => by
            have e : pwS ((L.take (k + 1)).drop lo) = fb .add .f32 (pwS ((L.take k).drop lo)) (pwV p.1 p.2) := by rw [hps, pwS_snoc]
            rw [e]
            refine flR_num (fin_n32 ?_) W
            rw [← e]
            exact (pwS_ok ((HSM.out.take _).drop _) (by rw [List.length_drop, List.length_take]; omega)).1
          clear hx2 sa sb hps
          go_wp2_with (go_at_call 91; refine (s_l01Power HP.out.1 HP.out.2).mono ?_; rintro e w' ⟨rfl, m1, rfl⟩)
          go_roundw
          case rel => exact ⟨k + 1, _, by omega, by omega, by go_num, by first | rfl | rw [hw], rfl⟩
          case measure => simp [intOf]; omega
        · obtain rfl : k = hg := by omega
          have hq := fin_n32 (pwM_fin ((HSM.out.take k).drop lo) (by rw [List.length_drop, List.length_take]; omega) l1 l100)
          have hQ : ∀ W, flR .quo .f32 (pwS ((L.take k).drop lo)) (floatOfInt .f32 (n : Int)) W = R := fun W => by rw [HR.out]; exact flR_num hq W
          clear hq
          by_cases k1 : (k : Int) ≤ (a : Int) + 8
          · have k2 : ¬ (k : Int) < (H : Int) + 1 := by have := HG.out; omega
            go_wp2_with (at_builtin; refine wpList_append1 rfl (.tmp 100) (.tmp 104) 36 rfl w1.heap.size 27 (.float .f32 0) _ 4 info_f32 Try.underlying36 rfl rfl _ _ _ rfl (own_drewN Hown.out _) rfl rfl (by omega) (by omega) (by simp; omega) ?_)
            intro v' w' hown' hb'
            have hbr := (below_drewN belr _).trans hb'
            have hbw := (below_drewN belw _).trans (hb'.mono hsz1)
            have HT := hide (own_snoc hown')
            rw [HT2.out] at HT
            clear hown' hb'
            go_wp2
            go_roundw
            case rel => exact ⟨i + 1, by omega, by go_num, HT, hbr, hbw⟩
            case measure => simp [intOf]; omega
          · go_wp2_with (at_builtin; refine wpList_append1 rfl (.tmp 100) (.tmp 104) 36 rfl w1.heap.size 27 (.float .f32 0) _ 4 info_f32 Try.underlying36 rfl rfl _ _ _ rfl (own_drewN Hown.out _) rfl rfl (by omega) (by omega) (by simp; omega) ?_)
            intro v' w' hown' hb'
            have hbr := (below_drewN belr _).trans hb'
            have hbw := (below_drewN belw _).trans (hb'.mono hsz1)
            have HT := hide (own_snoc hown')
            rw [HT2.out] at HT
            clear hown' hb'
            go_wp2
            go_roundw
            case rel => exact ⟨i + 1, by omega, by go_num, HT, hbr, hbw⟩
            case measure => simp [intOf]; omega
      -- SA]
    ·
      obtain rfl : i = 2 := by omega
      obtain ⟨g2, c2, rfl⟩ := own_addr Hown.out (by omega)
      have hR2 := Reads.of_own Hown.out
      have hall : ([RA, RB].take 2).all (fin .f32) = true := by simp [HFI.out.1, HFI.out.2]
      go_wp2_with (go_at_call 92; refine (s_l02Finite _ _ _ _ _ _ hR2 (by unfold maxLen; omega)).mono ?_; rintro e w' ⟨rfl, m, rfl⟩; rw [hall])
      go_ret2
      exact ⟨_, rfl, own_drewN (own_up Hown.out hsz1) _, below_drewN belw _⟩
end Go.Proofs.Yteabfkgbakoljaa
