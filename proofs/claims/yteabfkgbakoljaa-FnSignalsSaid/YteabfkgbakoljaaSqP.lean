/-
  The chances of a sequence test lie from 0 to 1, nearly, and add up to at most 1, nearly: in plain numbers.
-/
import Derived.Test.YteabfkgbakoljaaPhN
import Derived.Test.YteabfkgbakoljaaRe
namespace Go.Proofs.Yteabfkgbakoljaa
open Go.RowKit Mem Fl
set_option linter.unusedVariables false
set_option maxRecDepth 100000

theorem uu32 : uu .f32 = (1 / 16777216 : Rat) := by decide +kernel
theorem least32 : p2 (FloatKind.f32.format.leastPlace - 1) = p2 (-150) := by decide +kernel
theorem eta32 : p2 (-150) ≤ (1 / 16777216 : Rat) / 1024 := by decide +kernel
theorem big32 : (1000000 : Rat) ≤ big .f32 := by decide +kernel
/-- A finite number that is not negative. -/
def Pv (x : Nat) : Prop := fin .f32 x = true ∧ 0 ≤ fv .f32 x
theorem pv_zero : Pv 0 := by
  unfold Pv
  exact ⟨by decide +kernel, by decide +kernel⟩
theorem fv_zero : fv .f32 0 = 0 := by decide +kernel
/-- A sum of two such numbers that is at most B. -/
theorem add_up' {x y : Nat} {B : Rat} (hx : Pv x) (hy : Pv y) (hB : fv .f32 x + fv .f32 y ≤ B) (hB1 : B ≤ 1000) : Pv (fb .add .f32 x y) ∧ fv .f32 (fb .add .f32 x y) ≤ fv .f32 x + fv .f32 y + (1 / 16777216 : Rat) * B := by
  have hb := big32
  obtain ⟨fx, px⟩ := hx
  obtain ⟨fy, py⟩ := hy
  obtain ⟨a, b⟩ := re_add fx fy (by grind) (by grind)
  have h1 := b (fv .f32 x + fv .f32 y) Rat.le_refl (by grind)
  have h2 := b B hB (by grind)
  rw [uu32] at h1 h2
  refine ⟨⟨a, ?_⟩, ?_⟩
  · grind
  · grind
theorem mul_up' {x y : Nat} {B : Rat} (hx : Pv x) (hy : Pv y) (hy1 : fv .f32 y ≤ 1) (hB : fv .f32 x ≤ B) (hB1 : B ≤ 1000) : Pv (fb .mul .f32 x y) ∧ fv .f32 (fb .mul .f32 x y) ≤ fv .f32 x * fv .f32 y + (1 / 16777216 : Rat) * B + (1 / 16777216 : Rat) / 1024 := by
  have hb := big32
  have he := eta32
  obtain ⟨fx, px⟩ := hx
  obtain ⟨fy, py⟩ := hy
  have h1 := Rat.mul_nonneg px py
  have h2 := Rat.mul_le_mul_of_nonneg_left hy1 px
  obtain ⟨a, b⟩ := re_mul fx fy (by grind) (by grind)
  have h3 := b B (by grind) (by grind)
  rw [uu32, least32] at h3
  exact ⟨⟨a, re_mul_nn fx fy px py (by grind)⟩, by grind⟩
/-- The sum of the words of a list. -/
def sumV : List Nat → Rat
  | [] => 0
  | x :: r => fv .f32 x + sumV r
theorem sumV_set {y : Nat} : ∀ (l : List Nat) (i : Nat), i < l.length → sumV (l.set i y) = sumV l - fv .f32 (l.getD i 0) + fv .f32 y
  | x :: r, 0, _ => by simp [sumV]; grind
  | x :: r, i + 1, h => by
    have := sumV_set (y := y) r i (by simpa using h)
    simp only [List.set_cons_succ, sumV, this, List.getD_cons_succ]
    grind
theorem sumV_rep : ∀ n, sumV (List.replicate n 0) = 0
  | 0 => rfl
  | n + 1 => by rw [List.replicate_succ]; simp only [sumV, sumV_rep n, fv_zero]; grind
def AllP (l : List Nat) : Prop := ∀ x ∈ l, Pv x
theorem AllP.getD {l : List Nat} (h : AllP l) (i : Nat) : Pv (l.getD i 0) := by
  rw [List.getD_eq_getElem?_getD]
  cases hx : l[i]? with
  | none => exact pv_zero
  | some x => exact h x (List.mem_of_getElem? hx)
theorem AllP.set {l : List Nat} (h : AllP l) (i : Nat) {y : Nat} (hy : Pv y) : AllP (l.set i y) := by
  intro x hx
  rcases List.mem_or_eq_of_mem_set hx with h1 | h1
  · exact h x h1
  · subst h1; exact hy
theorem AllP.rep (n : Nat) : AllP (List.replicate n 0) := fun x hx => by rw [(List.mem_replicate.1 hx).2]; exact pv_zero
theorem sumV_nn : ∀ {l : List Nat}, AllP l → 0 ≤ sumV l
  | [], _ => Rat.le_refl
  | x :: r, h => by
    have h1 := (h x (List.mem_cons_self ..)).2
    have h2 := sumV_nn (l := r) fun y hy => h y (List.mem_cons_of_mem _ hy)
    simp only [sumV]; grind
theorem le_sumV : ∀ {l : List Nat}, AllP l → ∀ i, fv .f32 (l.getD i 0) ≤ sumV l
  | [], _, i => by simp [sumV, fv_zero]
  | x :: r, h, 0 => by
    have h2 := sumV_nn (l := r) fun y hy => h y (List.mem_cons_of_mem _ hy)
    simp only [sumV, List.getD_cons_zero]; grind
  | x :: r, h, i + 1 => by
    have h1 := (h x (List.mem_cons_self ..)).2
    have h2 := le_sumV (l := r) (fun y hy => h y (List.mem_cons_of_mem _ hy)) i
    simp only [sumV, List.getD_cons_succ]; grind
theorem sumV_take_succ {l : List Nat} {j : Nat} (h : j < l.length) : sumV (l.take (j + 1)) = sumV (l.take j) + fv .f32 (l.getD j 0) := by
  induction l generalizing j with
  | nil => simp at h
  | cons x r ih =>
    cases j with
    | zero => simp [sumV]; grind
    | succ j => 
      have := ih (j := j) (by simpa using h)
      simp only [List.take_succ_cons, sumV, this, List.getD_cons_succ]
      grind
theorem AllP.take {l : List Nat} (h : AllP l) (j : Nat) : AllP (l.take j) := fun x hx => h x (List.mem_of_mem_take hx)
theorem sumV_take_le {l : List Nat} (h : AllP l) (j : Nat) : sumV (l.take j) ≤ sumV l := by
  induction l generalizing j with
  | nil => simp [sumV]
  | cons x r ih =>
    have h1 := (h x (List.mem_cons_self ..)).2
    have h3 : AllP r := fun y hy => h y (List.mem_cons_of_mem _ hy)
    cases j with
    | zero => have := sumV_nn h; simpa [sumV] using this
    | succ j => have := ih h3 j; simp only [List.take_succ_cons, sumV]; grind
/-- A share of sixteenths. -/
def shW (j : Nat) : Nat := fb .quo .f32 (floatOfInt .f32 (j : Int)) 1098907648
theorem sh_tab : ∀ j : Nat, j < 17 → fin .f32 (shW j) = true ∧ fv .f32 (shW j) = (j : Rat) / 16 ∧ fb .sub .f32 1065353216 (shW j) = shW (16 - j) := by decide +kernel
theorem sh_pv {j : Nat} (h : j < 17) : Pv (shW j) ∧ fv .f32 (shW j) ≤ 1 := by
  obtain ⟨a, b, _⟩ := sh_tab j h
  have h1 : (j : Rat) ≤ ((16 : Nat) : Rat) := nat_le.2 (by omega)
  have h2 : (0 : Rat) ≤ (j : Rat) := Rat.natCast_nonneg
  have e : ((16 : Nat) : Rat) = 16 := rfl
  rw [e] at h1
  refine ⟨⟨a, ?_⟩, ?_⟩ <;> rw [b] <;> grind
theorem sh_one {j : Nat} (h : j < 17) : fv .f32 (shW (16 - j)) + fv .f32 (shW j) = 1 := by
  rw [(sh_tab j h).2.1, (sh_tab (16 - j) (by omega)).2.1]
  have : ((16 - j : Nat) : Rat) = 16 - (j : Rat) := by
    have h1 : ((16 - j : Nat) : Rat) + (j : Rat) = ((16 : Nat) : Rat) := by rw [← Rat.natCast_add]; congr 1; omega
    have e : ((16 : Nat) : Rat) = 16 := rfl
    grind
  rw [this]; grind
theorem next_arith {T0 Tj X XQ XS mul add1 mul2 add2 TA TB tk tk1 j : Rat} (m2 : mul ≤ XQ + 1 / 16777216 * 2 + 1 / 16777216 / 1024) (a2 : add1 ≤ Tj + mul + 1 / 16777216 * 2) (n2 : mul2 ≤ XS + 1 / 16777216 * 2 + 1 / 16777216 / 1024)
    (b2 : add2 ≤ 0 + mul2 + 1 / 16777216 * 2) (sA : TA = T0 - Tj + add1) (sB : TB = TA - 0 + add2) (hsum : XQ + XS = X) (htj : tk1 = tk + X) (h3 : T0 ≤ tk + 9 * (1 / 16777216) * j) : TB ≤ tk1 + 9 * (1 / 16777216) * (j + 1) := by grind
theorem room_arith {T0 Tj X XQ mul tk tk1 c j : Rat} (m2 : mul ≤ XQ + 1 / 16777216 * 2 + 1 / 16777216 / 1024) (hq : XQ ≤ X * 1) (htj : tk1 = tk + X) (h3 : T0 ≤ tk + 9 * (1 / 16777216) * j) (hj : j ≤ 65) (tj : Tj ≤ T0) (hk : tk1 ≤ c) (hc : c ≤ 3 / 2) : Tj + mul ≤ 2 := by grind
/-- A step of the chances: what is spread adds up to what was there, nearly. -/
theorem next_ok {sj : Nat} (hs : sj < 17) {c : List Nat} (hc : AllP c) (hm : sumV c ≤ 3 / 2) (hl : c.length ≤ 65) : ∀ j, j ≤ c.length →
    AllP (chNext (shW sj) c j) ∧ (∀ i, j < i → (chNext (shW sj) c j).getD i 0 = 0) ∧ sumV (chNext (shW sj) c j) ≤ sumV (c.take j) + 9 * (1 / 16777216 : Rat) * j := by
  intro j
  induction j with
  | zero =>
    intro _
    refine ⟨AllP.rep _, fun i _ => ?_, ?_⟩
    · simp only [chNext]
      rw [List.getD_eq_getElem?_getD]
      cases hx : (List.replicate (c.length + 1) 0)[i]? with
      | none => rfl
      | some x => have := List.mem_of_getElem? hx; rw [(List.mem_replicate.1 this).2]; rfl
    · simp only [chNext, sumV_rep, List.take_zero, sumV]
      have : ((0 : Nat) : Rat) = 0 := rfl
      rw [this]; grind
  | succ j ih =>
    intro hj
    obtain ⟨h1, h2, h3⟩ := ih (by omega)
    have hlen := chNext_len (shW sj) c j
    have hju : (j : Rat) ≤ ((65 : Nat) : Rat) := nat_le.2 (by omega)
    have e65 : ((65 : Nat) : Rat) = 65 := rfl
    rw [e65] at hju
    have htk := sumV_take_le hc j
    obtain ⟨T, hT⟩ : ∃ T, chNext (shW sj) c j = T := ⟨_, rfl⟩
    have hstep : chNext (shW sj) c (j + 1) = chB (shW sj) c j (chA (shW sj) c j T) := by rw [← hT]; rfl
    rw [hT] at h1 h2 h3 hlen
    rw [hstep]
    have hT2 : sumV T ≤ 8 / 5 := by grind
    have px := hc.getD j
    have xle := Rat.le_trans (le_sumV hc j) hm
    obtain ⟨pa, _⟩ := sh_pv (j := 16 - sj) (by omega)
    obtain ⟨_, pa1⟩ := sh_pv (j := 16 - sj) (by omega)
    obtain ⟨pb, pb1⟩ := sh_pv hs
    have hone := sh_one hs
    -- what stays
    obtain ⟨m1, m2⟩ := mul_up' (B := 2) px pa pa1 (by grind) (by grind)
    have hx0 := px.2
    have hxa := Rat.mul_le_mul_of_nonneg_left pa1 hx0
    have tj := le_sumV h1 j
    have ptj := h1.getD j
    have hxb := Rat.mul_nonneg hx0 pb.2
    have hsum : fv .f32 (c.getD j 0) * fv .f32 (shW (16 - sj)) + fv .f32 (c.getD j 0) * fv .f32 (shW sj) = fv .f32 (c.getD j 0) := by rw [← Rat.mul_add, hone, Rat.mul_one]
    have htj := sumV_take_succ (l := c) (j := j) (by omega)
    have htk2 := sumV_take_le hc (j + 1)
    obtain ⟨a1, a2⟩ := add_up' (B := 2) ptj m1 (room_arith m2 hxa htj h3 hju tj htk2 hm) (by grind)
    have hA : chA (shW sj) c j T = T.set j (fb .add .f32 (T.getD j 0) (fb .mul .f32 (c.getD j 0) (shW (16 - sj)))) := by unfold chA; rw [(sh_tab sj hs).2.2]
    have pA := h1.set j a1
    have sA := sumV_set (y := fb .add .f32 (T.getD j 0) (fb .mul .f32 (c.getD j 0) (shW (16 - sj)))) T j (by omega)
    rw [← hA] at pA sA
    -- what moves on
    have hAj : (chA (shW sj) c j T).getD (j + 1) 0 = 0 := by rw [hA, getD_set_ne (by omega)]; exact h2 (j + 1) (by omega)
    obtain ⟨n1, n2⟩ := mul_up' (B := 2) px pb pb1 (by grind) (by grind)
    have hxb1 := Rat.mul_le_mul_of_nonneg_left pb1 hx0
    obtain ⟨b1, b2⟩ := add_up' (B := 2) pv_zero n1 (by rw [fv_zero]; grind) (by grind)
    have hB : chB (shW sj) c j (chA (shW sj) c j T) = (chA (shW sj) c j T).set (j + 1) (fb .add .f32 0 (fb .mul .f32 (c.getD j 0) (shW sj))) := by unfold chB; rw [hAj]
    have hlA : (chA (shW sj) c j T).length = c.length + 1 := by rw [hA, List.length_set]; exact hlen
    have pB := pA.set (j + 1) b1
    have sB := sumV_set (y := fb .add .f32 0 (fb .mul .f32 (c.getD j 0) (shW sj))) (chA (shW sj) c j T) (j + 1) (by omega)
    rw [← hB] at pB sB
    rw [hAj, fv_zero] at sB
    rw [fv_zero] at b2
    refine ⟨pB, fun i hi => ?_, ?_⟩
    · rw [hB, getD_set_ne (by omega), hA, getD_set_ne (by omega)]
      exact h2 i (by omega)
    · have ej : ((j + 1 : Nat) : Rat) = (j : Rat) + 1 := by rw [Rat.natCast_add]; rfl
      rw [ej]
      exact next_arith m2 a2 n2 b2 sA sB hsum htj h3
theorem end_arith {T Tx o0 o1 z S k : Rat} (h4 : T + o0 + o1 ≤ S + 2 * (1 / 16777216) * k) (a2 : z ≤ o0 + Tx + 1 / 16777216 * 2) : T - Tx + 0 + z + o1 ≤ S + 2 * (1 / 16777216) * (k + 1) := by grind
theorem end_arith' {T Tx o0 o1 z S k : Rat} (h4 : T + o0 + o1 ≤ S + 2 * (1 / 16777216) * k) (a2 : z ≤ o1 + Tx + 1 / 16777216 * 2) : T - Tx + 0 + o0 + z ≤ S + 2 * (1 / 16777216) * (k + 1) := by grind
theorem end_room {T Tx o0 o1 S k : Rat} (h4 : T + o0 + o1 ≤ S + 2 * (1 / 16777216) * k) (hk : k ≤ 65) (hS : S ≤ 3 / 2) (xle : Tx ≤ T) (p1 : 0 ≤ o1) : o0 + Tx ≤ 2 := by grind
theorem end_room' {T Tx o0 o1 S k : Rat} (h4 : T + o0 + o1 ≤ S + 2 * (1 / 16777216) * k) (hk : k ≤ 65) (hS : S ≤ 3 / 2) (xle : Tx ≤ T) (p0 : 0 ≤ o0) : o1 + Tx ≤ 2 := by grind
/-- What has come to an end is moved: nothing is lost, nearly. -/
theorem end_ok {A B up dn : Nat} {N : Int} {nx o : List Nat} (hn : AllP nx) (ho : AllP o) (hl : o.length = 3) (hm : sumV nx + fv .f32 (o.getD 0 0) + fv .f32 (o.getD 1 0) ≤ 3 / 2) : ∀ k, k ≤ nx.length → k ≤ 65 →
    AllP (chEnd A B up dn N nx o k).1 ∧ AllP (chEnd A B up dn N nx o k).2 ∧ (chEnd A B up dn N nx o k).2.getD 2 0 = o.getD 2 0 ∧
    sumV (chEnd A B up dn N nx o k).1 + fv .f32 ((chEnd A B up dn N nx o k).2.getD 0 0) + fv .f32 ((chEnd A B up dn N nx o k).2.getD 1 0) ≤ sumV nx + fv .f32 (o.getD 0 0) + fv .f32 (o.getD 1 0) + 2 * (1 / 16777216 : Rat) * k := by
  intro k
  induction k with
  | zero =>
    intro _ _
    have e0 : ((0 : Nat) : Rat) = 0 := rfl
    refine ⟨hn, ho, rfl, ?_⟩
    simp only [chEnd]
    rw [e0]; grind
  | succ k ih =>
    intro hk hk2
    obtain ⟨h1, h2, h3, h4⟩ := ih (by omega) (by omega)
    obtain ⟨l1, l2⟩ := chEnd_len A B up dn N nx o k
    have hku : (k : Rat) ≤ ((65 : Nat) : Rat) := nat_le.2 (by omega)
    have hk0 : (0 : Rat) ≤ (k : Rat) := Rat.natCast_nonneg
    have e65 : ((65 : Nat) : Rat) = 65 := rfl
    have ek : ((k + 1 : Nat) : Rat) = (k : Rat) + 1 := by rw [Rat.natCast_add]; rfl
    rw [e65] at hku
    rw [ek]
    obtain ⟨E, hE⟩ : ∃ E, seqEnd A B (chSum up dn N k) = E := ⟨_, rfl⟩
    rw [chEnd_at hE]
    generalize (chEnd A B up dn N nx o k).1 = T at *
    generalize (chEnd A B up dn N nx o k).2 = O at *
    by_cases h0 : E = 0
    · rw [chPut_no h0]
      exact ⟨h1, h2, h3, by grind⟩
    · rw [chPut_yes h0]
      dsimp only
      have hx := h1.getD k
      have xle := le_sumV h1 k
      have ho0 := h2.getD 0
      have ho1 := h2.getD 1
      have hT := sumV_nn h1
      have sT := sumV_set (y := 0) T k (by omega)
      rw [fv_zero] at sT
      have he : eIx E = 0 ∨ eIx E = 1 := by unfold eIx; split <;> simp
      rcases he with he | he <;> rw [he]
      · obtain ⟨a1, a2⟩ := add_up' (B := 2) ho0 hx (end_room h4 hku hm xle ho1.2) (by grind)
        refine ⟨h1.set k pv_zero, h2.set 0 a1, ?_, ?_⟩
        · rw [getD_set_ne (by omega)]; exact h3
        · rw [sT, getD_set_ne (show 0 ≠ 1 by omega)]
          have e : (O.set 0 (fb .add .f32 (O.getD 0 0) (T.getD k 0))).getD 0 0 = fb .add .f32 (O.getD 0 0) (T.getD k 0) := by
            rw [List.getD_eq_getElem?_getD, List.getElem?_set_self (by omega)]; rfl
          rw [e]; exact end_arith h4 a2
      · obtain ⟨a1, a2⟩ := add_up' (B := 2) ho1 hx (end_room' h4 hku hm xle ho0.2) (by grind)
        refine ⟨h1.set k pv_zero, h2.set 1 a1, ?_, ?_⟩
        · rw [getD_set_ne (by omega)]; exact h3
        · rw [sT, getD_set_ne (show 1 ≠ 0 by omega)]
          have e : (O.set 1 (fb .add .f32 (O.getD 1 0) (T.getD k 0))).getD 1 0 = fb .add .f32 (O.getD 1 0) (T.getD k 0) := by
            rw [List.getD_eq_getElem?_getD, List.getElem?_set_self (by omega)]; rfl
          rw [e]; exact end_arith' h4 a2
/-- The sum of a list from the left. -/
theorem fsum_ok : ∀ (l : List Nat) (z : Nat) (S : Rat), AllP l → Pv z → fv .f32 z + sumV l ≤ S → S + 2 * (1 / 16777216 : Rat) * l.length ≤ 2 →
    Pv (l.foldl (fun a b => fb .add .f32 a b) z) ∧ fv .f32 (l.foldl (fun a b => fb .add .f32 a b) z) ≤ S + 2 * (1 / 16777216 : Rat) * l.length
  | [], z, S, _, hz, h, _ => by
    have e0 : ((0 : Nat) : Rat) = 0 := rfl
    simp only [List.foldl_nil, List.length_nil, sumV] at *
    rw [e0]
    exact ⟨hz, by grind⟩
  | x :: r, z, S, hl, hz, h, h2 => by
    have hx := hl x (List.mem_cons_self ..)
    have hr : AllP r := fun y hy => hl y (List.mem_cons_of_mem _ hy)
    have hr0 := sumV_nn hr
    have ek : (((x :: r).length : Nat) : Rat) = (r.length : Rat) + 1 := by rw [List.length_cons, Rat.natCast_add]; rfl
    have hrl : (0 : Rat) ≤ (r.length : Rat) := Rat.natCast_nonneg
    rw [ek] at h2 ⊢
    simp only [sumV] at h
    obtain ⟨a1, a2⟩ := add_up' (B := 2) hz hx (by grind) (by grind)
    have := fsum_ok r (fb .add .f32 z x) (S + 2 * (1 / 16777216 : Rat)) hr a1 (by grind) (by grind)
    simp only [List.foldl_cons]
    exact ⟨this.1, by grind⟩
theorem st_arith1 {C o0 o1 N' o0' o1' E n nn : Rat} (h3 : C + o0 + o1 ≤ 1 + 1 / 16777216 * (6 * nn + 8 * n)) (n3 : N' ≤ C + 9 * (1 / 16777216) * (n + 1)) (e4 : E + o0' + o1' ≤ N' + o0 + o1 + 2 * (1 / 16777216) * (n + 1 + 1)) (h0 : 0 ≤ n) (e : nn = n * n) :
    E + o0' + o1' ≤ 1 + 1 / 16777216 * (6 * ((n + 1) * (n + 1)) + 8 * (n + 1)) := by subst e; grind
theorem st_arith2 {C o0 o1 F o2 z n nn n3 : Rat} (h3 : C + o0 + o1 ≤ 1 + 1 / 16777216 * (6 * nn + 8 * n)) (p0 : 0 ≤ o0) (p1 : 0 ≤ o1) (f2 : F ≤ C + 2 * (1 / 16777216) * (n + 1)) (h4 : o2 ≤ n + 1 / 16777216 * (2 * n3 + 2 * nn + 70 * n)) (t2 : z ≤ o2 + F + 1 / 16777216 * 64) (e : nn = n * n) (e3 : n3 = n * n * n) (h0 : 0 ≤ n) :
    z ≤ n + 1 + 1 / 16777216 * (2 * ((n + 1) * (n + 1) * (n + 1)) + 2 * ((n + 1) * (n + 1)) + 70 * (n + 1)) := by subst e e3; grind
theorem st_room {C o0 o1 n nn : Rat} (h3 : C + o0 + o1 ≤ 1 + 1 / 16777216 * (6 * nn + 8 * n)) (p0 : 0 ≤ o0) (p1 : 0 ≤ o1) (hn : n ≤ 29) (hnn : nn ≤ 29 * 29) : C ≤ 11 / 10 := by grind
theorem st_room2 {C N' o0 o1 n nn : Rat} (h3 : C + o0 + o1 ≤ 1 + 1 / 16777216 * (6 * nn + 8 * n)) (n3 : N' ≤ C + 9 * (1 / 16777216) * (n + 1)) (hn : n ≤ 29) (hnn : nn ≤ 29 * 29) : N' + o0 + o1 ≤ 3 / 2 := by grind
theorem st_room3 {o2 F C n nn n3 : Rat} (h4 : o2 ≤ n + 1 / 16777216 * (2 * n3 + 2 * nn + 70 * n)) (f2 : F ≤ C + 2 * (1 / 16777216) * (n + 1)) (hC : C ≤ 11 / 10) (hn : n ≤ 29) (hnn : nn ≤ 29 * 29) (hn3 : n3 ≤ 29 * 29 * 29) : o2 + F ≤ 64 := by grind
/-- All steps. -/
theorem st_ok (A B up dn : Nat) {sj : Nat} (hs : sj < 17) : ∀ n : Nat, n ≤ 30 →
    AllP (chSt A B up dn (shW sj) n).1 ∧ AllP (chSt A B up dn (shW sj) n).2 ∧
    sumV (chSt A B up dn (shW sj) n).1 + fv .f32 ((chSt A B up dn (shW sj) n).2.getD 0 0) + fv .f32 ((chSt A B up dn (shW sj) n).2.getD 1 0) ≤ 1 + (1 / 16777216 : Rat) * (6 * (n * n) + 8 * n) ∧
    fv .f32 ((chSt A B up dn (shW sj) n).2.getD 2 0) ≤ n + (1 / 16777216 : Rat) * (2 * (n * n * n) + 2 * (n * n) + 70 * n) := by
  intro n
  induction n with
  | zero =>
    intro _
    have e0 : ((0 : Nat) : Rat) = 0 := rfl
    rw [e0]
    refine ⟨fun x hx => ?_, fun x hx => ?_, ?_, ?_⟩
    · simp only [chSt, List.mem_singleton] at hx; subst hx
      exact ⟨by decide +kernel, by decide +kernel⟩
    · have : x = 0 := by simpa [chSt] using hx
      subst this; exact pv_zero
    · have : fv .f32 1065353216 = 1 := by decide +kernel
      simp only [chSt, sumV, List.getD_cons_zero, List.getD_cons_succ, fv_zero, this]
      grind
    · simp only [chSt, List.getD_cons_zero, List.getD_cons_succ, fv_zero]
      grind
  | succ n ih =>
    intro hn
    obtain ⟨h1, h2, h3, h4⟩ := ih (by omega)
    obtain ⟨l1, l2⟩ := chSt_len A B up dn (shW sj) n
    rw [chSt_succ]
    have hn30 : (n : Rat) ≤ ((29 : Nat) : Rat) := nat_le.2 (by omega)
    have e29 : ((29 : Nat) : Rat) = 29 := rfl
    rw [e29] at hn30
    have hn0 : (0 : Rat) ≤ (n : Rat) := Rat.natCast_nonneg
    have hnn : (n : Rat) * n ≤ 29 * 29 := sq_le hn0 hn30
    have hnn0 : 0 ≤ (n : Rat) * n := Rat.mul_nonneg hn0 hn0
    have hn3 : (n : Rat) * n * n ≤ 29 * 29 * 29 := by
      have := Rat.mul_le_mul_of_nonneg_left hn30 hnn0
      grind
    have en : ((n + 1 : Nat) : Rat) = (n : Rat) + 1 := by rw [Rat.natCast_add]; rfl
    have en2 : ((n + 1 + 1 : Nat) : Rat) = (n : Rat) + 1 + 1 := by rw [Rat.natCast_add, en]; rfl
    have hn31 : n ≤ 30 := by omega
    generalize (chSt A B up dn (shW sj) n).1 = C at *
    generalize (chSt A B up dn (shW sj) n).2 = O at *
    have hC0 := sumV_nn h1
    have o0 := (h2.getD 0)
    have o1 := (h2.getD 1)
    have o2 := (h2.getD 2)
    have o0' := o0.2
    have o1' := o1.2
    have hC := st_room h3 o0' o1' hn30 hnn
    obtain ⟨n1, _, n3⟩ := next_ok hs h1 (by clear h3 h4 hn3 hnn; grind) (by omega) C.length (Nat.le_refl _)
    have hCl : (C.length : Rat) = (n : Rat) + 1 := by rw [l1, en]
    rw [List.take_of_length_le (Nat.le_refl _), hCl] at n3
    have hf := fsum_ok C 0 (sumV C) h1 pv_zero (by rw [fv_zero]; clear h3 h4 hn3 hnn n3; grind) (by rw [l1, en]; clear h3 h4 hn3 hnn n3; grind)
    rw [l1, en] at hf
    obtain ⟨f1, f2⟩ := hf
    have hfs : fsum C = C.foldl (fun a b => fb .add .f32 a b) 0 := rfl
    rw [← hfs] at f1 f2
    obtain ⟨t1, t2⟩ := add_up' (B := 64) o2 f1 (st_room3 h4 f2 hC hn30 hnn hn3) (by clear h3 h4 hn3 hnn n3; grind)
    have hT : AllP (chTot C O) := by unfold chTot; exact h2.set 2 t1
    have hT0 : (chTot C O).getD 0 0 = O.getD 0 0 := by unfold chTot; exact getD_set_ne (by omega)
    have hT1 : (chTot C O).getD 1 0 = O.getD 1 0 := by unfold chTot; exact getD_set_ne (by omega)
    have hT2 : (chTot C O).getD 2 0 = fb .add .f32 (O.getD 2 0) (fsum C) := by
      unfold chTot
      rw [List.getD_eq_getElem?_getD, List.getElem?_set_self (by omega)]; rfl
    have hTl : (chTot C O).length = 3 := by unfold chTot; rw [List.length_set]; exact l2
    obtain ⟨e1, e2, e3, e4⟩ := end_ok (A := A) (B := B) (up := up) (dn := dn) (N := ((n + 1 : Nat) : Int)) n1 hT hTl (by rw [hT0, hT1]; exact st_room2 h3 n3 hn30 hnn) (n + 1 + 1) (by rw [chNext_len, l1]; omega) (by omega)
    refine ⟨e1, e2, ?_, ?_⟩
    · rw [hT0, hT1, en2] at e4
      rw [en]
      exact st_arith1 h3 n3 e4 hn0 rfl
    · rw [e3, hT2, en]
      exact st_arith2 h3 o0' o1' f2 h4 t2 rfl rfl hn0
end Go.Proofs.Yteabfkgbakoljaa
