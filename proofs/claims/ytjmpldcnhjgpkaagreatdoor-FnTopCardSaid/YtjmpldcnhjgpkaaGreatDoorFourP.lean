/-
  The chances of a sequence test lie from 0 to 1, nearly, and add up to at most 1, nearly: in plain numbers.
-/
import Derived.Test.YtjmpldcnhjgpkaaGreatDoorChP
import Derived.Test.YtjmpldcnhjgpkaaGreatDoorRe
import Derived.Test.YtjmpldcnhjgpkaaGreatDoorLogP
import Derived.Test.YtjmpldcnhjgpkaaGreatDoorBd
import Derived.Test.YtjmpldcnhjgpkaaGreatDoorHelp
import Derived.Deep.QuietTactic
import Derived.BigQuiet
import Derived.BigGuardPart
import Derived.RegionTactic
import Derived.BigRegion
namespace Go.Proofs.YtjmpldcnhjgpkaaGreatDoor
open Go.RowKit Mem Fl
set_option linter.unusedVariables false
set_option maxRecDepth 100000

theorem uu32 : uu .f32 = (1 / 16777216 : Rat) := by decide +kernel
theorem least32 : p2 (FloatKind.f32.format.leastPlace - 1) = p2 (-150) := by decide +kernel
theorem eta32 : p2 (-150) ≤ (1 / 16777216 : Rat) / 1024 := by decide +kernel
theorem big32 : (1000000 : Rat) ≤ big .f32 := by decide +kernel
/-- A finite number that is not negative. -/
def Pv (x : Nat) : Prop := fin .f32 x = true ∧ 0 ≤ fv .f32 x
theorem pv_zero : Pv 0 := by
  unfold Pv
  exact ⟨by decide +kernel, by decide +kernel⟩
theorem fv_zero : fv .f32 0 = 0 := by decide +kernel
/-- A sum of two such numbers that is at most B. -/
theorem add_up' {x y : Nat} {B : Rat} (hx : Pv x) (hy : Pv y) (hB : fv .f32 x + fv .f32 y ≤ B) (hB1 : B ≤ 1000) : Pv (fb .add .f32 x y) ∧ fv .f32 (fb .add .f32 x y) ≤ fv .f32 x + fv .f32 y + (1 / 16777216 : Rat) * B := by
  have hb := big32
  obtain ⟨fx, px⟩ := hx
  obtain ⟨fy, py⟩ := hy
  obtain ⟨a, b⟩ := re_add fx fy (by grind) (by grind)
  have h1 := b (fv .f32 x + fv .f32 y) Rat.le_refl (by grind)
  have h2 := b B hB (by grind)
  rw [uu32] at h1 h2
  refine ⟨⟨a, ?_⟩, ?_⟩
  · grind
  · grind
theorem mul_up' {x y : Nat} {B : Rat} (hx : Pv x) (hy : Pv y) (hy1 : fv .f32 y ≤ 1) (hB : fv .f32 x ≤ B) (hB1 : B ≤ 1000) : Pv (fb .mul .f32 x y) ∧ fv .f32 (fb .mul .f32 x y) ≤ fv .f32 x * fv .f32 y + (1 / 16777216 : Rat) * B + (1 / 16777216 : Rat) / 1024 := by
  have hb := big32
  have he := eta32
  obtain ⟨fx, px⟩ := hx
  obtain ⟨fy, py⟩ := hy
  have h1 := Rat.mul_nonneg px py
  have h2 := Rat.mul_le_mul_of_nonneg_left hy1 px
  obtain ⟨a, b⟩ := re_mul fx fy (by grind) (by grind)
  have h3 := b B (by grind) (by grind)
  rw [uu32, least32] at h3
  exact ⟨⟨a, re_mul_nn fx fy px py (by grind)⟩, by grind⟩
/-- The sum of the words of a list. -/
def sumV : List Nat → Rat
  | [] => 0
  | x :: r => fv .f32 x + sumV r
theorem sumV_set {y : Nat} : ∀ (l : List Nat) (i : Nat), i < l.length → sumV (l.set i y) = sumV l - fv .f32 (l.getD i 0) + fv .f32 y
  | x :: r, 0, _ => by simp [sumV]; grind
  | x :: r, i + 1, h => by
    have := sumV_set (y := y) r i (by simpa using h)
    simp only [List.set_cons_succ, sumV, this, List.getD_cons_succ]
    grind
theorem sumV_rep : ∀ n, sumV (List.replicate n 0) = 0
  | 0 => rfl
  | n + 1 => by rw [List.replicate_succ]; simp only [sumV, sumV_rep n, fv_zero]; grind
def AllP (l : List Nat) : Prop := ∀ x ∈ l, Pv x
theorem AllP.getD {l : List Nat} (h : AllP l) (i : Nat) : Pv (l.getD i 0) := by
  rw [List.getD_eq_getElem?_getD]
  cases hx : l[i]? with
  | none => exact pv_zero
  | some x => exact h x (List.mem_of_getElem? hx)
theorem AllP.set {l : List Nat} (h : AllP l) (i : Nat) {y : Nat} (hy : Pv y) : AllP (l.set i y) := by
  intro x hx
  rcases List.mem_or_eq_of_mem_set hx with h1 | h1
  · exact h x h1
  · subst h1; exact hy
theorem AllP.rep (n : Nat) : AllP (List.replicate n 0) := fun x hx => by rw [(List.mem_replicate.1 hx).2]; exact pv_zero
theorem sumV_nn : ∀ {l : List Nat}, AllP l → 0 ≤ sumV l
  | [], _ => Rat.le_refl
  | x :: r, h => by
    have h1 := (h x (List.mem_cons_self ..)).2
    have h2 := sumV_nn (l := r) fun y hy => h y (List.mem_cons_of_mem _ hy)
    simp only [sumV]; grind
theorem le_sumV : ∀ {l : List Nat}, AllP l → ∀ i, fv .f32 (l.getD i 0) ≤ sumV l
  | [], _, i => by simp [sumV, fv_zero]
  | x :: r, h, 0 => by
    have h2 := sumV_nn (l := r) fun y hy => h y (List.mem_cons_of_mem _ hy)
    simp only [sumV, List.getD_cons_zero]; grind
  | x :: r, h, i + 1 => by
    have h1 := (h x (List.mem_cons_self ..)).2
    have h2 := le_sumV (l := r) (fun y hy => h y (List.mem_cons_of_mem _ hy)) i
    simp only [sumV, List.getD_cons_succ]; grind
theorem sumV_take_succ {l : List Nat} {j : Nat} (h : j < l.length) : sumV (l.take (j + 1)) = sumV (l.take j) + fv .f32 (l.getD j 0) := by
  induction l generalizing j with
  | nil => simp at h
  | cons x r ih =>
    cases j with
    | zero => simp [sumV]; grind
    | succ j => 
      have := ih (j := j) (by simpa using h)
      simp only [List.take_succ_cons, sumV, this, List.getD_cons_succ]
      grind
theorem AllP.take {l : List Nat} (h : AllP l) (j : Nat) : AllP (l.take j) := fun x hx => h x (List.mem_of_mem_take hx)
theorem sumV_take_le {l : List Nat} (h : AllP l) (j : Nat) : sumV (l.take j) ≤ sumV l := by
  induction l generalizing j with
  | nil => simp [sumV]
  | cons x r ih =>
    have h1 := (h x (List.mem_cons_self ..)).2
    have h3 : AllP r := fun y hy => h y (List.mem_cons_of_mem _ hy)
    cases j with
    | zero => have := sumV_nn h; simpa [sumV] using this
    | succ j => have := ih h3 j; simp only [List.take_succ_cons, sumV]; grind
/-- A share of sixteenths. -/
def shW (j : Nat) : Nat := fb .quo .f32 (floatOfInt .f32 (j : Int)) 1098907648
theorem sh_tab : ∀ j : Nat, j < 17 → fin .f32 (shW j) = true ∧ fv .f32 (shW j) = (j : Rat) / 16 ∧ fb .sub .f32 1065353216 (shW j) = shW (16 - j) := by decide +kernel
theorem sh_pv {j : Nat} (h : j < 17) : Pv (shW j) ∧ fv .f32 (shW j) ≤ 1 := by
  obtain ⟨a, b, _⟩ := sh_tab j h
  have h1 : (j : Rat) ≤ ((16 : Nat) : Rat) := nat_le.2 (by omega)
  have h2 : (0 : Rat) ≤ (j : Rat) := Rat.natCast_nonneg
  have e : ((16 : Nat) : Rat) = 16 := rfl
  rw [e] at h1
  refine ⟨⟨a, ?_⟩, ?_⟩ <;> rw [b] <;> grind
theorem sh_one {j : Nat} (h : j < 17) : fv .f32 (shW (16 - j)) + fv .f32 (shW j) = 1 := by
  rw [(sh_tab j h).2.1, (sh_tab (16 - j) (by omega)).2.1]
  have : ((16 - j : Nat) : Rat) = 16 - (j : Rat) := by
    have h1 : ((16 - j : Nat) : Rat) + (j : Rat) = ((16 : Nat) : Rat) := by rw [← Rat.natCast_add]; congr 1; omega
    have e : ((16 : Nat) : Rat) = 16 := rfl
    grind
  rw [this]; grind
theorem next_arith {T0 Tj X XQ XS mul add1 mul2 add2 TA TB tk tk1 j : Rat} (m2 : mul ≤ XQ + 1 / 16777216 * 2 + 1 / 16777216 / 1024) (a2 : add1 ≤ Tj + mul + 1 / 16777216 * 2) (n2 : mul2 ≤ XS + 1 / 16777216 * 2 + 1 / 16777216 / 1024)
    (b2 : add2 ≤ 0 + mul2 + 1 / 16777216 * 2) (sA : TA = T0 - Tj + add1) (sB : TB = TA - 0 + add2) (hsum : XQ + XS = X) (htj : tk1 = tk + X) (h3 : T0 ≤ tk + 9 * (1 / 16777216) * j) : TB ≤ tk1 + 9 * (1 / 16777216) * (j + 1) := by grind
theorem room_arith {T0 Tj X XQ mul tk tk1 c j : Rat} (m2 : mul ≤ XQ + 1 / 16777216 * 2 + 1 / 16777216 / 1024) (hq : XQ ≤ X * 1) (htj : tk1 = tk + X) (h3 : T0 ≤ tk + 9 * (1 / 16777216) * j) (hj : j ≤ 65) (tj : Tj ≤ T0) (hk : tk1 ≤ c) (hc : c ≤ 3 / 2) : Tj + mul ≤ 2 := by grind
/-- A step of the chances: what is spread adds up to what was there, nearly. -/
theorem next_ok {sj : Nat} (hs : sj < 17) {c : List Nat} (hc : AllP c) (hm : sumV c ≤ 3 / 2) (hl : c.length ≤ 65) : ∀ j, j ≤ c.length →
    AllP (chNext (shW sj) c j) ∧ (∀ i, j < i → (chNext (shW sj) c j).getD i 0 = 0) ∧ sumV (chNext (shW sj) c j) ≤ sumV (c.take j) + 9 * (1 / 16777216 : Rat) * j := by
  intro j
  induction j with
  | zero =>
    intro _
    refine ⟨AllP.rep _, fun i _ => ?_, ?_⟩
    · simp only [chNext]
      rw [List.getD_eq_getElem?_getD]
      cases hx : (List.replicate (c.length + 1) 0)[i]? with
      | none => rfl
      | some x => have := List.mem_of_getElem? hx; rw [(List.mem_replicate.1 this).2]; rfl
    · simp only [chNext, sumV_rep, List.take_zero, sumV]
      have : ((0 : Nat) : Rat) = 0 := rfl
      rw [this]; grind
  | succ j ih =>
    intro hj
    obtain ⟨h1, h2, h3⟩ := ih (by omega)
    have hlen := chNext_len (shW sj) c j
    have hju : (j : Rat) ≤ ((65 : Nat) : Rat) := nat_le.2 (by omega)
    have e65 : ((65 : Nat) : Rat) = 65 := rfl
    rw [e65] at hju
    have htk := sumV_take_le hc j
    obtain ⟨T, hT⟩ : ∃ T, chNext (shW sj) c j = T := ⟨_, rfl⟩
    have hstep : chNext (shW sj) c (j + 1) = chB (shW sj) c j (chA (shW sj) c j T) := by rw [← hT]; rfl
    rw [hT] at h1 h2 h3 hlen
    rw [hstep]
    have hT2 : sumV T ≤ 8 / 5 := by grind
    have px := hc.getD j
    have xle := Rat.le_trans (le_sumV hc j) hm
    obtain ⟨pa, _⟩ := sh_pv (j := 16 - sj) (by omega)
    obtain ⟨_, pa1⟩ := sh_pv (j := 16 - sj) (by omega)
    obtain ⟨pb, pb1⟩ := sh_pv hs
    have hone := sh_one hs
    -- what stays
    obtain ⟨m1, m2⟩ := mul_up' (B := 2) px pa pa1 (by grind) (by grind)
    have hx0 := px.2
    have hxa := Rat.mul_le_mul_of_nonneg_left pa1 hx0
    have tj := le_sumV h1 j
    have ptj := h1.getD j
    have hxb := Rat.mul_nonneg hx0 pb.2
    have hsum : fv .f32 (c.getD j 0) * fv .f32 (shW (16 - sj)) + fv .f32 (c.getD j 0) * fv .f32 (shW sj) = fv .f32 (c.getD j 0) := by rw [← Rat.mul_add, hone, Rat.mul_one]
    have htj := sumV_take_succ (l := c) (j := j) (by omega)
    have htk2 := sumV_take_le hc (j + 1)
    obtain ⟨a1, a2⟩ := add_up' (B := 2) ptj m1 (room_arith m2 hxa htj h3 hju tj htk2 hm) (by grind)
    have hA : chA (shW sj) c j T = T.set j (fb .add .f32 (T.getD j 0) (fb .mul .f32 (c.getD j 0) (shW (16 - sj)))) := by unfold chA; rw [(sh_tab sj hs).2.2]
    have pA := h1.set j a1
    have sA := sumV_set (y := fb .add .f32 (T.getD j 0) (fb .mul .f32 (c.getD j 0) (shW (16 - sj)))) T j (by omega)
    rw [← hA] at pA sA
    -- what moves on
    have hAj : (chA (shW sj) c j T).getD (j + 1) 0 = 0 := by rw [hA, getD_set_ne (by omega)]; exact h2 (j + 1) (by omega)
    obtain ⟨n1, n2⟩ := mul_up' (B := 2) px pb pb1 (by grind) (by grind)
    have hxb1 := Rat.mul_le_mul_of_nonneg_left pb1 hx0
    obtain ⟨b1, b2⟩ := add_up' (B := 2) pv_zero n1 (by rw [fv_zero]; grind) (by grind)
    have hB : chB (shW sj) c j (chA (shW sj) c j T) = (chA (shW sj) c j T).set (j + 1) (fb .add .f32 0 (fb .mul .f32 (c.getD j 0) (shW sj))) := by unfold chB; rw [hAj]
    have hlA : (chA (shW sj) c j T).length = c.length + 1 := by rw [hA, List.length_set]; exact hlen
    have pB := pA.set (j + 1) b1
    have sB := sumV_set (y := fb .add .f32 0 (fb .mul .f32 (c.getD j 0) (shW sj))) (chA (shW sj) c j T) (j + 1) (by omega)
    rw [← hB] at pB sB
    rw [hAj, fv_zero] at sB
    rw [fv_zero] at b2
    refine ⟨pB, fun i hi => ?_, ?_⟩
    · rw [hB, getD_set_ne (by omega), hA, getD_set_ne (by omega)]
      exact h2 i (by omega)
    · have ej : ((j + 1 : Nat) : Rat) = (j : Rat) + 1 := by rw [Rat.natCast_add]; rfl
      rw [ej]
      exact next_arith m2 a2 n2 b2 sA sB hsum htj h3
theorem end_arith {T Tx o0 o1 z S k : Rat} (h4 : T + o0 + o1 ≤ S + 2 * (1 / 16777216) * k) (a2 : z ≤ o0 + Tx + 1 / 16777216 * 2) : T - Tx + 0 + z + o1 ≤ S + 2 * (1 / 16777216) * (k + 1) := by grind
theorem end_arith' {T Tx o0 o1 z S k : Rat} (h4 : T + o0 + o1 ≤ S + 2 * (1 / 16777216) * k) (a2 : z ≤ o1 + Tx + 1 / 16777216 * 2) : T - Tx + 0 + o0 + z ≤ S + 2 * (1 / 16777216) * (k + 1) := by grind
theorem end_room {T Tx o0 o1 S k : Rat} (h4 : T + o0 + o1 ≤ S + 2 * (1 / 16777216) * k) (hk : k ≤ 65) (hS : S ≤ 3 / 2) (xle : Tx ≤ T) (p1 : 0 ≤ o1) : o0 + Tx ≤ 2 := by grind
theorem end_room' {T Tx o0 o1 S k : Rat} (h4 : T + o0 + o1 ≤ S + 2 * (1 / 16777216) * k) (hk : k ≤ 65) (hS : S ≤ 3 / 2) (xle : Tx ≤ T) (p0 : 0 ≤ o0) : o1 + Tx ≤ 2 := by grind
/-- What has come to an end is moved: nothing is lost, nearly. -/
theorem end_ok {A B up dn : Nat} {N : Int} {nx o : List Nat} (hn : AllP nx) (ho : AllP o) (hl : o.length = 3) (hm : sumV nx + fv .f32 (o.getD 0 0) + fv .f32 (o.getD 1 0) ≤ 3 / 2) : ∀ k, k ≤ nx.length → k ≤ 65 →
    AllP (chEnd A B up dn N nx o k).1 ∧ AllP (chEnd A B up dn N nx o k).2 ∧ (chEnd A B up dn N nx o k).2.getD 2 0 = o.getD 2 0 ∧
    sumV (chEnd A B up dn N nx o k).1 + fv .f32 ((chEnd A B up dn N nx o k).2.getD 0 0) + fv .f32 ((chEnd A B up dn N nx o k).2.getD 1 0) ≤ sumV nx + fv .f32 (o.getD 0 0) + fv .f32 (o.getD 1 0) + 2 * (1 / 16777216 : Rat) * k := by
  intro k
  induction k with
  | zero =>
    intro _ _
    have e0 : ((0 : Nat) : Rat) = 0 := rfl
    refine ⟨hn, ho, rfl, ?_⟩
    simp only [chEnd]
    rw [e0]; grind
  | succ k ih =>
    intro hk hk2
    obtain ⟨h1, h2, h3, h4⟩ := ih (by omega) (by omega)
    obtain ⟨l1, l2⟩ := chEnd_len A B up dn N nx o k
    have hku : (k : Rat) ≤ ((65 : Nat) : Rat) := nat_le.2 (by omega)
    have hk0 : (0 : Rat) ≤ (k : Rat) := Rat.natCast_nonneg
    have e65 : ((65 : Nat) : Rat) = 65 := rfl
    have ek : ((k + 1 : Nat) : Rat) = (k : Rat) + 1 := by rw [Rat.natCast_add]; rfl
    rw [e65] at hku
    rw [ek]
    obtain ⟨E, hE⟩ : ∃ E, seqEnd A B (chSum up dn N k) = E := ⟨_, rfl⟩
    rw [chEnd_at hE]
    generalize (chEnd A B up dn N nx o k).1 = T at *
    generalize (chEnd A B up dn N nx o k).2 = O at *
    by_cases h0 : E = 0
    · rw [chPut_no h0]
      exact ⟨h1, h2, h3, by grind⟩
    · rw [chPut_yes h0]
      dsimp only
      have hx := h1.getD k
      have xle := le_sumV h1 k
      have ho0 := h2.getD 0
      have ho1 := h2.getD 1
      have hT := sumV_nn h1
      have sT := sumV_set (y := 0) T k (by omega)
      rw [fv_zero] at sT
      have he : eIx E = 0 ∨ eIx E = 1 := by unfold eIx; split <;> simp
      rcases he with he | he <;> rw [he]
      · obtain ⟨a1, a2⟩ := add_up' (B := 2) ho0 hx (end_room h4 hku hm xle ho1.2) (by grind)
        refine ⟨h1.set k pv_zero, h2.set 0 a1, ?_, ?_⟩
        · rw [getD_set_ne (by omega)]; exact h3
        · rw [sT, getD_set_ne (show 0 ≠ 1 by omega)]
          have e : (O.set 0 (fb .add .f32 (O.getD 0 0) (T.getD k 0))).getD 0 0 = fb .add .f32 (O.getD 0 0) (T.getD k 0) := by
            rw [List.getD_eq_getElem?_getD, List.getElem?_set_self (by omega)]; rfl
          rw [e]; exact end_arith h4 a2
      · obtain ⟨a1, a2⟩ := add_up' (B := 2) ho1 hx (end_room' h4 hku hm xle ho0.2) (by grind)
        refine ⟨h1.set k pv_zero, h2.set 1 a1, ?_, ?_⟩
        · rw [getD_set_ne (by omega)]; exact h3
        · rw [sT, getD_set_ne (show 1 ≠ 0 by omega)]
          have e : (O.set 1 (fb .add .f32 (O.getD 1 0) (T.getD k 0))).getD 1 0 = fb .add .f32 (O.getD 1 0) (T.getD k 0) := by
            rw [List.getD_eq_getElem?_getD, List.getElem?_set_self (by omega)]; rfl
          rw [e]; exact end_arith' h4 a2
/-- The sum of a list from the left. -/
theorem fsum_ok : ∀ (l : List Nat) (z : Nat) (S : Rat), AllP l → Pv z → fv .f32 z + sumV l ≤ S → S + 2 * (1 / 16777216 : Rat) * l.length ≤ 2 →
    Pv (l.foldl (fun a b => fb .add .f32 a b) z) ∧ fv .f32 (l.foldl (fun a b => fb .add .f32 a b) z) ≤ S + 2 * (1 / 16777216 : Rat) * l.length
  | [], z, S, _, hz, h, _ => by
    have e0 : ((0 : Nat) : Rat) = 0 := rfl
    simp only [List.foldl_nil, List.length_nil, sumV] at *
    rw [e0]
    exact ⟨hz, by grind⟩
  | x :: r, z, S, hl, hz, h, h2 => by
    have hx := hl x (List.mem_cons_self ..)
    have hr : AllP r := fun y hy => hl y (List.mem_cons_of_mem _ hy)
    have hr0 := sumV_nn hr
    have ek : (((x :: r).length : Nat) : Rat) = (r.length : Rat) + 1 := by rw [List.length_cons, Rat.natCast_add]; rfl
    have hrl : (0 : Rat) ≤ (r.length : Rat) := Rat.natCast_nonneg
    rw [ek] at h2 ⊢
    simp only [sumV] at h
    obtain ⟨a1, a2⟩ := add_up' (B := 2) hz hx (by grind) (by grind)
    have := fsum_ok r (fb .add .f32 z x) (S + 2 * (1 / 16777216 : Rat)) hr a1 (by grind) (by grind)
    simp only [List.foldl_cons]
    exact ⟨this.1, by grind⟩
theorem st_arith1 {C o0 o1 N' o0' o1' E n nn : Rat} (h3 : C + o0 + o1 ≤ 1 + 1 / 16777216 * (6 * nn + 8 * n)) (n3 : N' ≤ C + 9 * (1 / 16777216) * (n + 1)) (e4 : E + o0' + o1' ≤ N' + o0 + o1 + 2 * (1 / 16777216) * (n + 1 + 1)) (h0 : 0 ≤ n) (e : nn = n * n) :
    E + o0' + o1' ≤ 1 + 1 / 16777216 * (6 * ((n + 1) * (n + 1)) + 8 * (n + 1)) := by subst e; grind
theorem st_arith2 {C o0 o1 F o2 z n nn n3 : Rat} (h3 : C + o0 + o1 ≤ 1 + 1 / 16777216 * (6 * nn + 8 * n)) (p0 : 0 ≤ o0) (p1 : 0 ≤ o1) (f2 : F ≤ C + 2 * (1 / 16777216) * (n + 1)) (h4 : o2 ≤ n + 1 / 16777216 * (2 * n3 + 2 * nn + 70 * n)) (t2 : z ≤ o2 + F + 1 / 16777216 * 64) (e : nn = n * n) (e3 : n3 = n * n * n) (h0 : 0 ≤ n) :
    z ≤ n + 1 + 1 / 16777216 * (2 * ((n + 1) * (n + 1) * (n + 1)) + 2 * ((n + 1) * (n + 1)) + 70 * (n + 1)) := by subst e e3; grind
theorem st_room {C o0 o1 n nn : Rat} (h3 : C + o0 + o1 ≤ 1 + 1 / 16777216 * (6 * nn + 8 * n)) (p0 : 0 ≤ o0) (p1 : 0 ≤ o1) (hn : n ≤ 29) (hnn : nn ≤ 29 * 29) : C ≤ 11 / 10 := by grind
theorem st_room2 {C N' o0 o1 n nn : Rat} (h3 : C + o0 + o1 ≤ 1 + 1 / 16777216 * (6 * nn + 8 * n)) (n3 : N' ≤ C + 9 * (1 / 16777216) * (n + 1)) (hn : n ≤ 29) (hnn : nn ≤ 29 * 29) : N' + o0 + o1 ≤ 3 / 2 := by grind
theorem st_room3 {o2 F C n nn n3 : Rat} (h4 : o2 ≤ n + 1 / 16777216 * (2 * n3 + 2 * nn + 70 * n)) (f2 : F ≤ C + 2 * (1 / 16777216) * (n + 1)) (hC : C ≤ 11 / 10) (hn : n ≤ 29) (hnn : nn ≤ 29 * 29) (hn3 : n3 ≤ 29 * 29 * 29) : o2 + F ≤ 64 := by grind
/-- All steps. -/
theorem st_ok (A B up dn : Nat) {sj : Nat} (hs : sj < 17) : ∀ n : Nat, n ≤ 30 →
    AllP (chSt A B up dn (shW sj) n).1 ∧ AllP (chSt A B up dn (shW sj) n).2 ∧
    sumV (chSt A B up dn (shW sj) n).1 + fv .f32 ((chSt A B up dn (shW sj) n).2.getD 0 0) + fv .f32 ((chSt A B up dn (shW sj) n).2.getD 1 0) ≤ 1 + (1 / 16777216 : Rat) * (6 * (n * n) + 8 * n) ∧
    fv .f32 ((chSt A B up dn (shW sj) n).2.getD 2 0) ≤ n + (1 / 16777216 : Rat) * (2 * (n * n * n) + 2 * (n * n) + 70 * n) := by
  intro n
  induction n with
  | zero =>
    intro _
    have e0 : ((0 : Nat) : Rat) = 0 := rfl
    rw [e0]
    refine ⟨fun x hx => ?_, fun x hx => ?_, ?_, ?_⟩
    · simp only [chSt, List.mem_singleton] at hx; subst hx
      exact ⟨by decide +kernel, by decide +kernel⟩
    · have : x = 0 := by simpa [chSt] using hx
      subst this; exact pv_zero
    · have : fv .f32 1065353216 = 1 := by decide +kernel
      simp only [chSt, sumV, List.getD_cons_zero, List.getD_cons_succ, fv_zero, this]
      grind
    · simp only [chSt, List.getD_cons_zero, List.getD_cons_succ, fv_zero]
      grind
  | succ n ih =>
    intro hn
    obtain ⟨h1, h2, h3, h4⟩ := ih (by omega)
    obtain ⟨l1, l2⟩ := chSt_len A B up dn (shW sj) n
    rw [chSt_succ]
    have hn30 : (n : Rat) ≤ ((29 : Nat) : Rat) := nat_le.2 (by omega)
    have e29 : ((29 : Nat) : Rat) = 29 := rfl
    rw [e29] at hn30
    have hn0 : (0 : Rat) ≤ (n : Rat) := Rat.natCast_nonneg
    have hnn : (n : Rat) * n ≤ 29 * 29 := sq_le hn0 hn30
    have hnn0 : 0 ≤ (n : Rat) * n := Rat.mul_nonneg hn0 hn0
    have hn3 : (n : Rat) * n * n ≤ 29 * 29 * 29 := by
      have := Rat.mul_le_mul_of_nonneg_left hn30 hnn0
      grind
    have en : ((n + 1 : Nat) : Rat) = (n : Rat) + 1 := by rw [Rat.natCast_add]; rfl
    have en2 : ((n + 1 + 1 : Nat) : Rat) = (n : Rat) + 1 + 1 := by rw [Rat.natCast_add, en]; rfl
    have hn31 : n ≤ 30 := by omega
    generalize (chSt A B up dn (shW sj) n).1 = C at *
    generalize (chSt A B up dn (shW sj) n).2 = O at *
    have hC0 := sumV_nn h1
    have o0 := (h2.getD 0)
    have o1 := (h2.getD 1)
    have o2 := (h2.getD 2)
    have o0' := o0.2
    have o1' := o1.2
    have hC := st_room h3 o0' o1' hn30 hnn
    obtain ⟨n1, _, n3⟩ := next_ok hs h1 (by clear h3 h4 hn3 hnn; grind) (by omega) C.length (Nat.le_refl _)
    have hCl : (C.length : Rat) = (n : Rat) + 1 := by rw [l1, en]
    rw [List.take_of_length_le (Nat.le_refl _), hCl] at n3
    have hf := fsum_ok C 0 (sumV C) h1 pv_zero (by rw [fv_zero]; clear h3 h4 hn3 hnn n3; grind) (by rw [l1, en]; clear h3 h4 hn3 hnn n3; grind)
    rw [l1, en] at hf
    obtain ⟨f1, f2⟩ := hf
    have hfs : fsum C = C.foldl (fun a b => fb .add .f32 a b) 0 := rfl
    rw [← hfs] at f1 f2
    obtain ⟨t1, t2⟩ := add_up' (B := 64) o2 f1 (st_room3 h4 f2 hC hn30 hnn hn3) (by clear h3 h4 hn3 hnn n3; grind)
    have hT : AllP (chTot C O) := by unfold chTot; exact h2.set 2 t1
    have hT0 : (chTot C O).getD 0 0 = O.getD 0 0 := by unfold chTot; exact getD_set_ne (by omega)
    have hT1 : (chTot C O).getD 1 0 = O.getD 1 0 := by unfold chTot; exact getD_set_ne (by omega)
    have hT2 : (chTot C O).getD 2 0 = fb .add .f32 (O.getD 2 0) (fsum C) := by
      unfold chTot
      rw [List.getD_eq_getElem?_getD, List.getElem?_set_self (by omega)]; rfl
    have hTl : (chTot C O).length = 3 := by unfold chTot; rw [List.length_set]; exact l2
    obtain ⟨e1, e2, e3, e4⟩ := end_ok (A := A) (B := B) (up := up) (dn := dn) (N := ((n + 1 : Nat) : Int)) n1 hT hTl (by rw [hT0, hT1]; exact st_room2 h3 n3 hn30 hnn) (n + 1 + 1) (by rw [chNext_len, l1]; omega) (by omega)
    refine ⟨e1, e2, ?_, ?_⟩
    · rw [hT0, hT1, en2] at e4
      rw [en]
      exact st_arith1 h3 n3 e4 hn0 rfl
    · rw [e3, hT2, en]
      exact st_arith2 h3 o0' o1' f2 h4 t2 rfl rfl hn0
end Go.Proofs.YtjmpldcnhjgpkaaGreatDoor

/-
  Contracts of RootPower: the program's and the reference's.
-/
namespace Go.Proofs.YtjmpldcnhjgpkaaGreatDoor
open Go.RowKit Fl Mem
set_option linter.unusedVariables false
set_option maxRecDepth 100000

/-- The squares of numbers. -/
def sqs (xs : List Nat) : List Nat := xs.map fun x => fb .mul .f32 x x
theorem sqs_len (xs : List Nat) : (sqs xs).length = xs.length := by simp [sqs]
theorem sqs_take {xs : List Nat} {k x : Nat} (h : xs[k]? = some x) : sqs (xs.take (k + 1)) = sqs (xs.take k) ++ [fb .mul .f32 x x] := by unfold sqs; rw [take_eq h, List.map_append]; rfl
theorem sqs_cn {xs ys : List Nat} (h : xs.map (cn .f32) = ys.map (cn .f32)) : sqs xs = sqs ys := by
  unfold sqs
  have e : ∀ l : List Nat, l.map (fun x => fb .mul .f32 x x) = (l.map (cn .f32)).map (fun x => fb .mul .f32 x x) := by
    intro l
    rw [List.map_map]
    congr 1
    funext x
    exact (fb_cn _ _ _ _).symm
  rw [e, h, ← e]
theorem own_snoc {w : World} {b : Nat} {t : TypeId} {v : Value} {k z : Nat} {zs : List Nat} (h : w.ownsRow b t 1 v k (fl .f32 zs ++ [.float .f32 z])) : w.ownsRow b t 1 v k (fl .f32 (zs ++ [z])) := by
  rw [fl, List.map_append]; exact h

theorem i_ifFin {x : Nat} {w : World} {R : Nat} (hR : cn .f32 x = R) :
    Calls Tryz.prog 43 #[.float .f32 x] w fun e w' => ∃ z, e = .returned (.tuple #[.float .f32 z, .bool (fin .f32 R)]) ∧ Hid (cn .f32 z = if fin .f32 R = true then R else 0) ∧ ∃ m, w' = w.drewN m := by
  refine i_ifFinite.mono ?_
  rintro e w' ⟨rfl, h⟩
  subst hR
  rw [fin_cn]
  refine ⟨_, rfl, hide ?_, h⟩
  cases fin .f32 x
  · exact cn_zero
  · rfl
theorem map_cn_cn (zs : List Nat) : (zs.map (cn .f32)).map (cn .f32) = zs.map (cn .f32) := by
  rw [List.map_map]; congr 1; funext x; exact cn_cn _ _
theorem fmean_map_cn (zs : List Nat) : fmean (zs.map (cn .f32)) = fmean zs := fmean_cn (map_cn_cn zs)
theorem root_eq {zs ys : List Nat} {z3 z4 : Nat} (h : zs.map (cn .f32) = ys) (h3 : cn .f32 z3 = fmean zs) (h4 : cn .f32 z4 = rootOf z3) : cn .f32 z4 = rootOf (fmean ys) := by
  rw [h4, ← rootOf_cn, h3, ← h, fmean_map_cn]

/-- What RootPower returns. -/
def rpOk (xs : List Nat) : Bool := isSig xs && fin .f32 (rootOf (fmean (sqs xs)))
def rpR (xs : List Nat) : Nat := if rpOk xs = true then rootOf (fmean (sqs xs)) else 0
theorem rpOk_cn {xs ys : List Nat} (h : xs.map (cn .f32) = ys.map (cn .f32)) (hl : isSig xs = isSig ys) : rpOk xs = rpOk ys := by unfold rpOk; rw [sqs_cn h, hl]

end Go.Proofs.YtjmpldcnhjgpkaaGreatDoor

/-
  Contracts of PeakRatio: the program's and the reference's.
-/
namespace Go.Proofs.YtjmpldcnhjgpkaaGreatDoor
open Go.RowKit Fl Mem
set_option linter.unusedVariables false
set_option maxRecDepth 100000

theorem i_absolute (x : Nat) (w : World) : Calls Tryz.prog 50 #[.float .f32 x] w fun e w' => ∃ z, e = .returned (.float .f32 z) ∧ Hid (cn .f32 z = mm true .f32 x (Op.negFloat .f32 x)) ∧ ∃ m, w' = w.drewN m := by
  go_enter Tryz.func50, Tryz.ntmps50
  go_wp2
  go_ret
  exact ⟨_, rfl, hide (cn_mmR _ _ _ _ _), _, rfl⟩

/-- What PeakRatio returns. -/
def prTop (xs : List Nat) : Bool := rpOk xs && (FloatKind.f32.format.order (rpR xs) 0 == some .gt)
def prVal (xs : List Nat) : Nat := fb .quo .f32 (peakTo xs) (rpR xs)
def prOk (xs : List Nat) : Bool := prTop xs && fin .f32 (prVal xs)
def prR (xs : List Nat) : Nat := if prOk xs = true then prVal xs else 0
theorem rp_fin {xs : List Nat} (h : rpOk xs = true) : isSig xs = true := by unfold rpOk at h; simp at h; exact h.1
theorem sig_fin {xs : List Nat} (h : isSig xs = true) : xs.all (fin .f32) = true := by unfold isSig at h; simp only [Bool.and_eq_true] at h; exact h.2

theorem all_take {xs : List Nat} (h : xs.all (fin .f32) = true) {k x : Nat} (hx : xs[k]? = some x) : (xs.take k).all (fin .f32) = true ∧ fin .f32 x = true := by
  rw [List.all_eq_true] at h
  exact ⟨List.all_eq_true.2 fun y hy => h y (List.mem_of_mem_take hy), h x (List.mem_of_getElem? hx)⟩

end Go.Proofs.YtjmpldcnhjgpkaaGreatDoor

/-
  The ratio of fourth powers: where it is finite, the square of the mean of squares is finite too.
-/
namespace Go.Proofs.YtjmpldcnhjgpkaaGreatDoor
open Go.RowKit Fl Mem
set_option linter.unusedVariables false

/-- The rungs of few times 2 ^ 62, of 9 times 2 ^ 124, of 2 ^ 64 and of the greatest numbers. -/
def few (c : Nat) : Nat := rungOf F32 c 62
theorem few_iv : ∀ c < 301, iv (few c) = c * 2 ^ 211 := by decide +kernel
theorem few_nn : ∀ c < 301, few c < 2139095040 := by decide +kernel
def bigV : Nat := rungOf F32 9 124
theorem bigV_iv : iv bigV = 9 * 2 ^ 273 := by decide +kernel
theorem bigV_le : bigV ≤ 2139095040 := by decide +kernel
theorem inf_iv : iv 2139095040 = 2 ^ 277 := by decide +kernel

theorem nn_zero : Nn 0 := by unfold Nn; omega
theorem iv_zero : iv 0 = 0 := by decide +kernel

/-- What is known of the sums of k squares and of their squares, these being finite. -/
def FrInv (k p2 p4 : Nat) : Prop := Nn p2 ∧ Nn p4 ∧ (iv p2 ≤ 3 * k * 2 ^ 211 ∨ (1 ≤ k ∧ iv p2 ≤ (3 * k + 1) * 2 ^ 211 ∧ 9 * 2 ^ 273 ≤ iv p4))

theorem nn_of_le {x C : Nat} (h : x ≤ C) (hC : C < 2139095040) : Nn x := by unfold Nn; omega

theorem fr_step {k p2 p4 s : Nat} (hk : k < 96) (h : FrInv k p2 p4) (hs : Nn s) (ht : Nn (fb .mul .f32 s s)) (hf : Nn (fb .add .f32 p4 (fb .mul .f32 s s))) :
    FrInv (k + 1) (fb .add .f32 p2 s) (fb .add .f32 p4 (fb .mul .f32 s s)) := by
  obtain ⟨h2, h4, h⟩ := h
  generalize ht' : fb .mul .f32 s s = t at *
  -- the square is known from the number
  have sq_dn : ∀ C, C ≤ 2139095040 → iv C * 2 ^ 149 ≤ iv s * iv s → C ≤ t := by
    intro C hC hh
    rw [← ht']
    exact mul_dn hs hs hC hh
  have hs4 : iv s ≤ 4 * 2 ^ 211 := by
    rcases Nat.lt_or_ge (4 * 2 ^ 211) (iv s) with h1 | h1
    · exfalso
      have := sq_dn 2139095040 (by omega) (by
        rw [inf_iv]
        have := Nat.mul_le_mul (Nat.le_of_lt h1) (Nat.le_of_lt h1)
        refine Nat.le_trans ?_ this
        decide +kernel)
      unfold Nn at ht
      omega
    · exact h1
  have sum_up : ∀ c, c < 301 → iv p2 + iv s ≤ c * 2 ^ 211 → Nn (fb .add .f32 p2 s) ∧ iv (fb .add .f32 p2 s) ≤ c * 2 ^ 211 := by
    intro c hc hh
    have h1 := add_up h2 hs (C := few c) (by rw [few_iv c hc]; exact hh)
    have h3 := iv_le.1 h1
    rw [few_iv c hc] at h3
    exact ⟨nn_of_le h1 (few_nn c hc), h3⟩
  have four_dn : ∀ C, C ≤ 2139095040 → iv C ≤ iv p4 + iv t → iv C ≤ iv (fb .add .f32 p4 t) := fun C hC hh => iv_le.1 (add_dn h4 ht hC hh)
  have key : 3 * 2 ^ 211 < iv s → 9 * 2 ^ 273 ≤ iv t := by
    intro h1
    have := sq_dn bigV bigV_le (by
      rw [bigV_iv]
      refine Nat.le_trans ?_ (Nat.mul_le_mul (Nat.le_of_lt h1) (Nat.le_of_lt h1))
      decide +kernel)
    have := iv_le.1 this
    rwa [bigV_iv] at this
  have hinf := iv_lt.1 (show fb .add .f32 p4 t < 2139095040 from hf)
  rw [inf_iv] at hinf
  have hV := four_dn bigV bigV_le
  rw [bigV_iv] at hV
  have hI := four_dn 2139095040 (by omega)
  rw [inf_iv] at hI
  rcases Nat.lt_or_ge (3 * 2 ^ 211) (iv s) with h1 | h1
  · have ht9 := key h1
    rcases h with h | ⟨h5, h6, h7⟩
    · obtain ⟨a1, a2⟩ := sum_up (3 * (k + 1) + 1) (by omega) (by omega)
      exact ⟨a1, hf, .inr ⟨by omega, a2, hV (by omega)⟩⟩
    · exfalso
      have := hI (by omega)
      omega
  · rcases h with h | ⟨h5, h6, h7⟩
    · obtain ⟨a1, a2⟩ := sum_up (3 * (k + 1)) (by omega) (by omega)
      exact ⟨a1, hf, .inl a2⟩
    · obtain ⟨a1, a2⟩ := sum_up (3 * (k + 1) + 1) (by omega) (by omega)
      exact ⟨a1, hf, .inr ⟨by omega, a2, hV (by omega)⟩⟩

theorem fsum_take {xs : List Nat} {k x : Nat} (h : xs[k]? = some x) : fsum (xs.take (k + 1)) = fb .add .f32 (fsum (xs.take k)) x := by rw [take_eq h, fsum_snoc]

/-- A sum that is finite is one of finite numbers, as far as it is taken. -/
theorem fsum_fin {xs : List Nat} (h : fin .f32 (fsum xs) = true) : ∀ k, k ≤ xs.length → fin .f32 (fsum (xs.take k)) = true := by
  have : ∀ d k, k + d = xs.length → fin .f32 (fsum (xs.take k)) = true := by
    intro d
    induction d with
    | zero => intro k hk; rw [List.take_of_length_le (by omega)]; exact h
    | succ d ih =>
      intro k hk
      have h1 := ih (k + 1) (by omega)
      rw [fsum_take (List.getElem?_eq_getElem (by omega : k < xs.length))] at h1
      exact (fin_add h1).1
  intro k hk
  exact this (xs.length - k) k (by omega)

theorem sqs_at {xs : List Nat} {k x : Nat} (h : xs[k]? = some x) : (sqs xs)[k]? = some (fb .mul .f32 x x) := by unfold sqs; rw [List.getElem?_map, h]; rfl

theorem fr_inv {D : List Nat} (hn : D.length ≤ 96) (h : fin .f32 (fsum (sqs (sqs D))) = true) : ∀ k, k ≤ D.length → FrInv k (fsum ((sqs D).take k)) (fsum ((sqs (sqs D)).take k)) := by
  have hall := fsum_fin h
  intro k
  induction k with
  | zero => intro _; exact ⟨nn_zero, nn_zero, .inl (by show iv 0 ≤ _; rw [iv_zero]; exact Nat.zero_le _)⟩
  | succ k ih =>
    intro hk
    have hd : D[k]? = some D[k] := List.getElem?_eq_getElem (by omega)
    have h1 := sqs_at hd
    have h2 := sqs_at h1
    have hf := hall (k + 1) (by simp [sqs_len]; omega)
    rw [fsum_take h1, fsum_take h2]
    rw [fsum_take h2] at hf
    have hft := (fin_add hf).2
    have hi := ih (by omega)
    have hp4 := hi.2.1
    obtain ⟨hfs, hnt⟩ := fin_sq hft
    obtain ⟨_, hns⟩ := fin_sq hfs
    refine fr_step (by omega) hi hns hnt ?_
    -- the sum is finite and not negative
    have hw := wf_fb .add .f32 (fsum ((sqs (sqs D)).take k)) (fb .mul .f32 (fb .mul .f32 D[k] D[k]) (fb .mul .f32 D[k] D[k]))
    rw [fb_add_nn hp4 hnt] at hf hw ⊢
    obtain ⟨s, m, i, hr⟩ := (fin_iff _ _).1 hf
    rw [← word_false F32 (min _ _)] at hr
    rcases Nat.lt_or_ge (rungOf F32 (iv (fsum ((sqs (sqs D)).take k)) + iv (fb .mul .f32 (fb .mul .f32 D[k] D[k]) (fb .mul .f32 D[k] D[k]))) (-149)) F32.infRung with h5 | h5
    · rw [Nat.min_eq_left (by omega)]
      unfold Nn
      rw [f32_inf] at h5
      exact h5
    · exfalso
      rw [Nat.min_eq_right h5] at hr
      have hr2 : FloatKind.f32.format.read (F32.word false F32.infRung) = .infinity false := by decide +kernel
      rw [hr2] at hr; cases hr

theorem int_iv : ∀ n : Nat, n < 97 → Nn (floatOfInt .f32 (n : Int)) ∧ iv (floatOfInt .f32 (n : Int)) = n * 2 ^ 149 := by
  unfold Nn
  decide +kernel

/-- The greatest number below 2 ^ 64, the greatest number, and 49 times 2 ^ 122. -/
theorem top_iv : iv 1602224127 = 16777215 * 2 ^ 189 ∧ iv 1602224128 = 4 * 2 ^ 211 ∧ iv 2139095039 = 16777215 * 2 ^ 253 := by decide +kernel
theorem half_iv : iv (rungOf F32 7 61) = 7 * 2 ^ 210 ∧ rungOf F32 7 61 < 2139095040 ∧ iv (rungOf F32 49 122) = 49 * 2 ^ 271 ∧ rungOf F32 49 122 < 2139095040 := by decide +kernel

theorem fin_of_le {x C : Nat} (h : x ≤ C) (hC : C < 2139095040) : fin .f32 x = true := nn_fin (nn_of_le h hC)

/-- Where the quotient is finite, what is divided by is finite. -/
theorem fr_finF {D : List Nat} (h1 : 1 ≤ D.length) (hn : D.length ≤ 96)
    (h : fin .f32 (fb .quo .f32 (fmean (sqs (sqs D))) (fb .mul .f32 (fmean (sqs D)) (fmean (sqs D)))) = true) :
    fin .f32 (fb .mul .f32 (fmean (sqs D)) (fmean (sqs D))) = true := by
  have h4 := fin_quo h
  unfold fmean at h4
  have h5 := fin_quo h4
  clear h h4
  have hi := fr_inv hn h5 D.length (Nat.le_refl _)
  have e1 : (sqs D).take D.length = sqs D := List.take_of_length_le (by rw [sqs_len]; omega)
  rw [e1] at hi
  obtain ⟨hp2, _, hc⟩ := hi
  unfold fmean
  rw [sqs_len]
  obtain ⟨i1, i2⟩ := int_iv D.length (by omega)
  rcases Nat.lt_or_ge D.length 2 with hl | hl
  · -- one number
    have hl1 : D.length = 1 := by omega
    have hd : D[0]? = some D[0] := List.getElem?_eq_getElem (by omega)
    have g1 := sqs_at hd
    have g2 := sqs_at g1
    have hs1 : sqs D = [fb .mul .f32 D[0] D[0]] := by
      apply List.ext_getElem?
      intro i
      rcases Nat.eq_zero_or_pos i with rfl | hp
      · rw [g1]; rfl
      · rw [List.getElem?_eq_none (by rw [sqs_len]; omega), List.getElem?_eq_none (by simp; omega)]
    rw [hs1] at h5 ⊢
    generalize hss : fb .mul .f32 D[0] D[0] = s at *
    have e2 : sqs [s] = [fb .mul .f32 s s] := rfl
    rw [e2] at h5
    have e3 : ∀ y, fsum [y] = fb .add .f32 0 y := fun y => rfl
    rw [e3] at h5 ⊢
    have ht := (fin_add h5).2
    obtain ⟨hfs, hnt⟩ := fin_sq ht
    have hns : Nn s := by rw [← hss] at hfs ⊢; exact (fin_sq hfs).2
    obtain ⟨t1, t2, t3⟩ := top_iv
    have hsM : s ≤ 1602224127 := by
      rcases Nat.lt_or_ge 1602224127 s with h6 | h6
      · exfalso
        have h7 := iv_le.1 (show 1602224128 ≤ s by omega)
        rw [t2] at h7
        have := mul_dn hns hns (C := 2139095040) (by omega) (by
          rw [inf_iv]
          refine Nat.le_trans ?_ (Nat.mul_le_mul h7 h7)
          decide +kernel)
        unfold Nn at hnt
        omega
      · exact h6
    have hsi := iv_le.1 hsM
    have a1 := add_up nn_zero hns (C := 1602224127) (by rw [iv_zero]; omega)
    have na := nn_of_le a1 (by omega)
    have a2 := iv_le.1 a1
    rw [hl1] at i1 i2 ⊢
    have a3 := quo_up na i1 (C := 1602224127) (by rw [i2]; decide) (by
      rw [i2, Nat.mul_comm]
      exact Nat.mul_le_mul (by decide) a2)
    have nb := nn_of_le a3 (by omega)
    have a4 := iv_le.1 a3
    refine fin_of_le (mul_up nb nb (C := 2139095039) ?_) (by omega)
    refine Nat.le_trans (Nat.mul_le_mul a4 a4) ?_
    rw [t1, t3]
    decide +kernel
  · -- more numbers
    obtain ⟨t1, t2, t3, t4⟩ := half_iv
    have hb : iv (fsum (sqs D)) ≤ (3 * D.length + 1) * 2 ^ 211 := by omega
    have a3 := quo_up hp2 i1 (C := rungOf F32 7 61) (by
      rw [i2]
      have := Nat.mul_pos (show 0 < D.length by omega) (Nat.two_pow_pos 149)
      omega) (by
      rw [i2, t1]
      refine Nat.le_trans (Nat.mul_le_mul_right _ hb) ?_
      rw [show (3 * D.length + 1) * 2 ^ 211 * 2 ^ 149 = (2 * (3 * D.length + 1)) * (2 ^ 210 * 2 ^ 149) by rw [show (2 : Nat) ^ 211 = 2 * 2 ^ 210 by decide +kernel]; ac_rfl]
      rw [show D.length * 2 ^ 149 * (7 * 2 ^ 210) = (7 * D.length) * (2 ^ 210 * 2 ^ 149) by ac_rfl]
      exact Nat.mul_le_mul_right _ (by omega))
    have nb := nn_of_le a3 t2
    have a4 := iv_le.1 a3
    refine fin_of_le (mul_up nb nb (C := rungOf F32 49 122) ?_) t4
    refine Nat.le_trans (Nat.mul_le_mul a4 a4) ?_
    rw [t1, t3]
    decide +kernel

/-- What FourthRatio answers, and whether it answers. -/
def frD (xs : List Nat) : List Nat := xs.map fun x => fb .sub .f32 x (fmean xs)
def frBy (xs : List Nat) : Nat := fb .mul .f32 (fmean (sqs (frD xs))) (fmean (sqs (frD xs)))
def frVal (xs : List Nat) : Nat := fb .quo .f32 (fmean (sqs (sqs (frD xs)))) (frBy xs)
def frTop (xs : List Nat) : Bool := isSig xs && (FloatKind.f32.format.order (frBy xs) 0 == some .gt)
def frOk (xs : List Nat) : Bool := frTop xs && fin .f32 (frVal xs)
def frR (xs : List Nat) : Nat := if frOk xs = true then frVal xs else 0
theorem frOk_by {xs : List Nat} (h : frOk xs = true) : fin .f32 (frBy xs) = true := by
  unfold frOk frTop at h
  simp only [Bool.and_eq_true] at h
  have hl := isSig_len h.1.1
  have hD : (frD xs).length = xs.length := by simp [frD]
  unfold frVal frBy at h
  unfold frBy
  exact fr_finF (by omega) (by omega) h.2
end Go.Proofs.YtjmpldcnhjgpkaaGreatDoor
