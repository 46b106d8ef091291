/-
  Rows of floats that are solved by the greatest pivots: all that is needed is finite, and no pivot is 0. Plain law.
-/
import Derived.Test.YtjmpldcnhjgpkaaGreatDoorBaL
import Derived.Test.YtjmpldcnhjgpkaaGreatDoorGaF
import Derived.Test.YtjmpldcnhjgpkaaGreatDoorBelW
namespace Go.Proofs.YtjmpldcnhjgpkaaGreatDoor
open Go.RowKit Mem Fl
set_option linter.unusedVariables false
set_option maxRecDepth 100000

def el (M : List (List Nat)) (i j : Nat) : Nat := (M.getD i []).getD j 0
def absW (x : Nat) : Nat := mm true .f32 x (Op.negFloat .f32 x)
/-- The place of the greatest of the first m numbers of a column, from k on. -/
def bst (M : List (List Nat)) (k : Nat) : Nat → Nat
  | 0 => k
  | m + 1 => if (FloatKind.f32.format.order (absW (el M (k + m) k)) (absW (el M (bst M k m) k)) == some .gt) = true then k + m else bst M k m
def swp (M : List (List Nat)) (k b : Nat) : List (List Nat) := (M.set k (M.getD b [])).set b (M.getD k [])
def elQ (k : Nat) (pr row : List Nat) : Nat := fb .quo .f32 (row.getD k 0) (pr.getD k 0)
def elimRow (k n : Nat) (pr row : List Nat) : List Nat := (List.range (n + 1)).map fun j => if k < j then fb .sub .f32 (row.getD j 0) (fb .mul .f32 (elQ k pr row) (pr.getD j 0)) else row.getD j 0
def elim (M : List (List Nat)) (k n : Nat) : List (List Nat) := (List.range n).map fun i => if k < i then elimRow k n (M.getD k []) (M.getD i []) else M.getD i []
def stp (M : List (List Nat)) (k n : Nat) : List (List Nat) := elim (swp M k (bst M k (n - k))) k n
def gau (M : List (List Nat)) (n : Nat) : Nat → List (List Nat)
  | 0 => M
  | k + 1 => stp (gau M n k) k n
theorem neg_fv {x : Nat} (h : fin .f32 x = true) : fin .f32 (Op.negFloat .f32 x) = true ∧ fv .f32 (Op.negFloat .f32 x) = -fv .f32 x := by
  obtain ⟨s, m, i, rx, _, _⟩ := fin_read h
  have rn : FloatKind.f32.format.read (Op.negFloat .f32 x) = .number (!s) m i := by rw [read_neg, rx]; rfl
  refine ⟨(fin_iff _ _).2 ⟨_, _, _, rn⟩, ?_⟩
  rw [fv_num rn, fv_num rx, sg_not]
  grind
theorem abs_fv {x : Nat} (h : fin .f32 x = true) : fin .f32 (absW x) = true ∧ fv .f32 x ≤ fv .f32 (absW x) ∧ -fv .f32 x ≤ fv .f32 (absW x) ∧ (fv .f32 (absW x) = fv .f32 x ∨ fv .f32 (absW x) = -fv .f32 x) := by
  obtain ⟨a, b⟩ := neg_fv h
  obtain ⟨c, d, e, f⟩ := mm_val h a
  rw [b] at e f
  exact ⟨c, d, e, f⟩
def Bf : Nat → Rat
  | 0 => 6
  | k + 1 => 201 / 100 * Bf k
def Ef : Nat → Rat
  | 0 => 0
  | k + 1 => Ef k + 1 / 5000000 * Bf k
theorem bf_ge : ∀ k, 6 ≤ Bf k
  | 0 => by simp only [Bf]; grind
  | k + 1 => by have := bf_ge k; simp only [Bf]; grind
theorem bf_le : ∀ k, k < 5 → Bf k ≤ 100 := by decide +kernel
theorem ef_nn : ∀ k, 0 ≤ Ef k
  | 0 => by simp only [Ef]; grind
  | k + 1 => by have := ef_nn k; have := bf_ge k; simp only [Ef]; grind
theorem ef_le : ∀ k, k < 4 → Ef k ≤ 1 / 100000 := by decide +kernel
/-- A number that is far from nothing. -/
def Far (x : Rat) : Prop := 1 / 4176 ≤ x ∨ 1 / 4176 ≤ -x
structure Inv (n k : Nat) (R : Nat → Nat → Rat) (G : Nat → Nat → Rat) (M : List (List Nat)) : Prop where
  l : M.length = n
  r : ∀ i, i < n → (M.getD i []).length = n + 1
  f : ∀ i j, i < n → j < n + 1 → fin .f32 (el M i j) = true ∧ fv .f32 (el M i j) ≤ Bf k ∧ -fv .f32 (el M i j) ≤ Bf k
  g : ∀ r, r < n → ∃ i, i < n ∧ ∀ j, j < n → G i j = aRow n R r j
  c : Cert n k G (fun i j => fv .f32 (el M i j)) (Ef k)
  p : ∀ t, t < k → Far (fv .f32 (el M t t))
/-- One number of a row that is cleared by the pivot's row. -/
theorem el_step {a u q B : Rat} {aw uw qw : Nat} (ha : fin .f32 aw = true) (hu : fin .f32 uw = true) (hq : fin .f32 qw = true) (ea : fv .f32 aw = a) (eu : fv .f32 uw = u) (eq : fv .f32 qw = q)
    (hB : 6 ≤ B) (hB2 : B ≤ 100) (a1 : a ≤ B) (a2 : -a ≤ B) (u1 : u ≤ B) (u2 : -u ≤ B) (q1 : q ≤ 1001 / 1000) (q2 : -q ≤ 1001 / 1000) :
    fin .f32 (fb .sub .f32 aw (fb .mul .f32 qw uw)) = true ∧ fv .f32 (fb .sub .f32 aw (fb .mul .f32 qw uw)) ≤ 201 / 100 * B ∧ -fv .f32 (fb .sub .f32 aw (fb .mul .f32 qw uw)) ≤ 201 / 100 * B ∧
    a - (q * u + fv .f32 (fb .sub .f32 aw (fb .mul .f32 qw uw))) ≤ 1 / 5000000 * B ∧ q * u + fv .f32 (fb .sub .f32 aw (fb .mul .f32 qw uw)) - a ≤ 1 / 5000000 * B := by
  obtain ⟨m1, m2⟩ := abs_mul q1 q2 u1 u2
  have hb := big12
  have he := e20
  obtain ⟨c1, c2⟩ := re_mul hq hu (by rw [eq, eu]; grind) (by rw [eq, eu]; grind)
  have c3 := c2 (1001 / 1000 * B) (by rw [eq, eu]; exact m1) (by rw [eq, eu]; exact m2)
  rw [uu32, lp32, eq, eu] at c3
  generalize fb .mul .f32 qw uw = P at *
  obtain ⟨d1, d2⟩ := re_sub ha c1 (by rw [ea]; grind) (by rw [ea]; grind)
  have d3 := d2 (2002 / 1000 * B) (by rw [ea]; grind) (by rw [ea]; grind)
  rw [uu32, ea] at d3
  exact ⟨d1, by grind, by grind, by grind, by grind⟩
/-- The quotient. -/
theorem q_stepB {a p B : Rat} {aw pw : Nat} (ha : fin .f32 aw = true) (hp : fin .f32 pw = true) (ea : fv .f32 aw = a) (ep : fv .f32 pw = p) (hB : 6 ≤ B) (hB2 : B ≤ 100) (p1 : p ≤ B) (p2' : -p ≤ B) (hf : Far p)
    (h1 : a ≤ p ∨ a ≤ -p) (h2 : -a ≤ p ∨ -a ≤ -p) : fin .f32 (fb .quo .f32 aw pw) = true ∧ fv .f32 (fb .quo .f32 aw pw) ≤ 1001 / 1000 ∧ -fv .f32 (fb .quo .f32 aw pw) ≤ 1001 / 1000 ∧ a - fv .f32 (fb .quo .f32 aw pw) * p ≤ 1 / 5000000 * B ∧ fv .f32 (fb .quo .f32 aw pw) * p - a ≤ 1 / 5000000 * B := by
  have hp0 : p ≠ 0 := by rintro rfl; rcases hf with h | h <;> grind
  obtain ⟨v, hv⟩ : ∃ v, a / p = v := ⟨_, rfl⟩
  have hvp : v * p = a := by rw [← hv]; exact Rat.div_mul_cancel hp0
  have v12 : v ≤ 1 ∧ -v ≤ 1 := by
    rcases hf with h | h
    · have h3 : a ≤ p := by rcases h1 with h | h <;> grind
      have h4 : -a ≤ p := by rcases h2 with h | h <;> grind
      exact ⟨Rat.le_of_mul_le_mul_right (c := p) (by grind) (by grind), Rat.le_of_mul_le_mul_right (c := p) (by grind) (by grind)⟩
    · have h3 : a ≤ -p := by rcases h1 with h | h <;> grind
      have h4 : -a ≤ -p := by rcases h2 with h | h <;> grind
      exact ⟨Rat.le_of_mul_le_mul_right (c := -p) (by grind) (by grind), Rat.le_of_mul_le_mul_right (c := -p) (by grind) (by grind)⟩
  obtain ⟨v1, v2⟩ := v12
  have hb := big12
  have he := e20
  obtain ⟨c1, c2⟩ := re_quo ha hp (by rw [ep]; exact hp0) (by rw [ea, ep, hv]; grind) (by rw [ea, ep, hv]; grind)
  have c3 := c2 1 (by rw [ea, ep, hv]; exact v1) (by rw [ea, ep, hv]; exact v2)
  rw [uu32, lp32, ea, ep, hv] at c3
  generalize fb .quo .f32 aw pw = q at *
  obtain ⟨m1, m2⟩ := abs_mul (e := fv .f32 q - v) (x := p) (E := 2 / 16777216 + 1 / 100000000000000000000) (M := B) (by grind) (by grind) p1 p2'
  exact ⟨c1, by grind, by grind, by grind, by grind⟩
theorem el_elim {M : List (List Nat)} {k n i j : Nat} (hi : i < n) (hj : j < n + 1) : el (elim M k n) i j = if k < i ∧ k < j then fb .sub .f32 (el M i j) (fb .mul .f32 (fb .quo .f32 (el M i k) (el M k k)) (el M k j)) else el M i j := by
  have e1 : (elim M k n).getD i [] = if k < i then elimRow k n (M.getD k []) (M.getD i []) else M.getD i [] := by
    unfold elim
    rw [List.getD_eq_getElem?_getD, List.getElem?_map, List.getElem?_range hi]; rfl
  unfold el
  rw [e1]
  by_cases h1 : k < i
  · rw [if_pos h1]
    have e2 : (elimRow k n (M.getD k []) (M.getD i [])).getD j 0 = if k < j then fb .sub .f32 ((M.getD i []).getD j 0) (fb .mul .f32 (elQ k (M.getD k []) (M.getD i [])) ((M.getD k []).getD j 0)) else (M.getD i []).getD j 0 := by
      unfold elimRow
      rw [List.getD_eq_getElem?_getD, List.getElem?_map, List.getElem?_range hj]; rfl
    rw [e2]
    by_cases h2 : k < j
    · rw [if_pos h2, if_pos ⟨h1, h2⟩]; rfl
    · rw [if_neg h2, if_neg (fun h => h2 h.2)]
  · rw [if_neg h1, if_neg (fun h => h1 h.1)]
theorem el_same {M : List (List Nat)} {k n i j : Nat} (hi : i < n) (hj : j < n + 1) (h : i ≤ k) : el (elim M k n) i j = el M i j := by
  rw [el_elim hi hj, if_neg (by omega)]
theorem elim_len (M : List (List Nat)) (k n : Nat) : (elim M k n).length = n := by simp [elim]
theorem elim_row {M : List (List Nat)} {k n i : Nat} (hi : i < n) (h : (M.getD i []).length = n + 1) : ((elim M k n).getD i []).length = n + 1 := by
  have e1 : (elim M k n).getD i [] = if k < i then elimRow k n (M.getD k []) (M.getD i []) else M.getD i [] := by
    unfold elim
    rw [List.getD_eq_getElem?_getD, List.getElem?_map, List.getElem?_range hi]; rfl
  rw [e1]
  split
  · simp [elimRow]
  · exact h
def swI (k b i : Nat) : Nat := if i = b then k else if i = k then b else i
theorem swp_getD {M : List (List Nat)} {k b i : Nat} (hk : k < M.length) (hb : b < M.length) : (swp M k b).getD i [] = M.getD (swI k b i) [] := by
  unfold swp swI
  rw [List.getD_eq_getElem?_getD, List.getElem?_set]
  by_cases h1 : b = i
  · rw [if_pos h1, if_pos (by rw [List.length_set]; exact hb), if_pos h1.symm]; rfl
  · rw [if_neg h1, if_neg (fun h => h1 h.symm), List.getElem?_set]
    by_cases h2 : k = i
    · rw [if_pos h2, if_pos hk, if_pos h2.symm]; rfl
    · rw [if_neg h2, if_neg (fun h => h2 h.symm), List.getD_eq_getElem?_getD]
theorem swp_len (M : List (List Nat)) (k b : Nat) : (swp M k b).length = M.length := by simp [swp]
theorem swI_lt {n k b i : Nat} (hk : k < n) (hb : b < n) (hi : i < n) : swI k b i < n := by unfold swI; split <;> (try split) <;> omega
theorem swI_swI (k b i : Nat) : swI k b (swI k b i) = i := by
  unfold swI
  by_cases h1 : i = b
  · rw [if_pos h1]
    by_cases h2 : k = b
    · rw [if_pos h2]; omega
    · rw [if_neg h2, if_pos rfl]; omega
  · rw [if_neg h1]
    by_cases h2 : i = k
    · rw [if_pos h2, if_pos rfl]; omega
    · rw [if_neg h2, if_neg h1, if_neg h2]
/-- Rows changed for one another. -/
theorem inv_swp {n k b : Nat} {R G : Nat → Nat → Rat} {M : List (List Nat)} (h : Inv n k R G M) (hkb : k ≤ b) (hb : b < n) : Inv n k R (fun i => G (swI k b i)) (swp M k b) := by
  have hk : k < n := by omega
  have hl := h.l
  have ge : ∀ i, (swp M k b).getD i [] = M.getD (swI k b i) [] := fun i => swp_getD (by omega) (by omega)
  have ee : ∀ i j, el (swp M k b) i j = el M (swI k b i) j := fun i j => by unfold el; rw [ge]
  have hs : ∀ t, t < k → swI k b t = t := fun t ht => by unfold swI; rw [if_neg (by omega), if_neg (by omega)]
  refine ⟨by rw [swp_len]; exact hl, fun i hi => by rw [ge]; exact h.r _ (swI_lt hk hb hi), fun i j hi hj => by rw [ee]; exact h.f _ _ (swI_lt hk hb hi) hj, fun r hr => ?_, fun i hi => ?_, fun t ht => by rw [ee, hs t ht]; exact h.p t ht⟩
  · obtain ⟨i, hi, hg⟩ := h.g r hr
    exact ⟨swI k b i, swI_lt hk hb hi, fun j hj => by rw [swI_swI]; exact hg j hj⟩
  · obtain ⟨l, hc⟩ := h.c (swI k b i) (swI_lt hk hb hi)
    have hm : min (swI k b i) k = min i k := by
      unfold swI
      by_cases h1 : i = b
      · rw [if_pos h1]; omega
      · rw [if_neg h1]
        by_cases h2 : i = k
        · rw [if_pos h2]; omega
        · rw [if_neg h2]
    refine ⟨l, fun j hj => ?_⟩
    have e1 : sumT (fun t => l t * wv k (fun i j => fv .f32 (el (swp M k b) i j)) t j) (min i k) = sumT (fun t => l t * wv k (fun i j => fv .f32 (el M i j)) t j) (min (swI k b i) k) := by
      rw [hm]
      refine sumT_congr _ (fun t ht => ?_)
      simp only [wv]
      rw [ee, hs t (by omega)]
    have e2 : wv k (fun i j => fv .f32 (el (swp M k b) i j)) i j = wv k (fun i j => fv .f32 (el M i j)) (swI k b i) j := by
      simp only [wv]
      rw [ee, hm]
    rw [e1, e2]
    exact hc j hj
/-- The rows below the pivot's are cleared. -/
theorem inv_elim {n k : Nat} {R G : Nat → Nat → Rat} {M : List (List Nat)} (h : Inv n k R G M) (hk : k < n) (n4 : n ≤ 4) (hf : Far (fv .f32 (el M k k))) (hm : ∀ i, k < i → i < n → (fv .f32 (el M i k) ≤ fv .f32 (el M k k) ∨ fv .f32 (el M i k) ≤ -fv .f32 (el M k k)) ∧ (-fv .f32 (el M i k) ≤ fv .f32 (el M k k) ∨ -fv .f32 (el M i k) ≤ -fv .f32 (el M k k))) :
    Inv n (k + 1) R G (elim M k n) := by
  have hB := bf_ge k
  have hB2 := bf_le k (by omega)
  have hq : ∀ i, k < i → i < n → _ := fun i h1 h2 => q_stepB (h.f i k h2 (by omega)).1 (h.f k k hk (by omega)).1 rfl rfl hB hB2 (h.f k k hk (by omega)).2.1 (h.f k k hk (by omega)).2.2 hf (hm i h1 h2).1 (hm i h1 h2).2
  have hs : ∀ i j, k < i → i < n → j < n + 1 → _ := fun i j h1 h2 h3 => el_step (h.f i j h2 h3).1 (h.f k j hk h3).1 (hq i h1 h2).1 rfl rfl rfl hB hB2 (h.f i j h2 h3).2.1 (h.f i j h2 h3).2.2 (h.f k j hk h3).2.1 (h.f k j hk h3).2.2 (hq i h1 h2).2.1 (hq i h1 h2).2.2.1
  refine ⟨elim_len _ _ _, fun i hi => elim_row hi (h.r i hi), fun i j hi hj => ?_, h.g, fun i hi => ?_, fun t ht => ?_⟩
  · rw [el_elim hi hj]
    simp only [Bf]
    split
    · rename_i hh
      obtain ⟨a, b, c, _⟩ := hs i j hh.1 hi hj
      exact ⟨a, b, c⟩
    · obtain ⟨a, b, c⟩ := h.f i j hi hj
      exact ⟨a, by grind, by grind⟩
  · obtain ⟨l, hc⟩ := h.c i hi
    by_cases hik : k < i
    · obtain ⟨_, _, _, q1, q2⟩ := hq i hik hi
      refine ⟨upd l k (fv .f32 (fb .quo .f32 (el M i k) (el M k k))), fun j hj => ?_⟩
      obtain ⟨c1, c2⟩ := hc j hj
      have m1 : min i k = k := by omega
      have m2 : min i (k + 1) = k + 1 := by omega
      rw [m1] at c1 c2
      rw [m2]
      have e1 : sumT (fun t => upd l k (fv .f32 (fb .quo .f32 (el M i k) (el M k k))) t * wv (k + 1) (fun i j => fv .f32 (el (elim M k n) i j)) t j) k = sumT (fun t => l t * wv k (fun i j => fv .f32 (el M i j)) t j) k := sumT_congr _ (fun t ht => by
        have : upd l k (fv .f32 (fb .quo .f32 (el M i k) (el M k k))) t = l t := by unfold upd; rw [if_neg (by omega)]
        rw [this]
        simp only [wv]
        rw [show min t (k + 1) = t by omega, show min t k = t by omega, el_same (by omega) (by omega) (by omega)])
      have e2 : upd l k (fv .f32 (fb .quo .f32 (el M i k) (el M k k))) k = fv .f32 (fb .quo .f32 (el M i k) (el M k k)) := by unfold upd; rw [if_pos rfl]
      have e3 : wv (k + 1) (fun i j => fv .f32 (el (elim M k n) i j)) k j = if j < k then 0 else fv .f32 (el M k j) := by
        simp only [wv]
        rw [show min k (k + 1) = k by omega, el_same hk (by omega) (Nat.le_refl _)]
      have e4 : wv k (fun i j => fv .f32 (el M i j)) i j = if j < k then 0 else fv .f32 (el M i j) := by simp only [wv]; rw [m1]
      have e5 : wv (k + 1) (fun i j => fv .f32 (el (elim M k n) i j)) i j = if j < k + 1 then 0 else fv .f32 (el (elim M k n) i j) := by simp only [wv]; rw [m2]
      simp only [sumT]
      rw [e1, e2, e3, e5]
      rw [e4] at c1 c2
      simp only [Ef]
      generalize sumT (fun t => l t * wv k (fun i j => fv .f32 (el M i j)) t j) k = S at *
      rcases (by omega : j < k ∨ j = k ∨ k < j) with hj1 | hj1 | hj1
      · rw [if_pos hj1, if_pos (by omega)]
        rw [if_pos hj1] at c1 c2
        constructor <;> grind
      · subst hj1
        rw [if_neg (by omega), if_pos (by omega)]
        rw [if_neg (by omega)] at c1 c2
        constructor <;> grind
      · rw [if_neg (by omega), if_neg (by omega), el_elim hi (by omega), if_pos ⟨hik, hj1⟩]
        rw [if_neg (by omega)] at c1 c2
        obtain ⟨_, _, _, s1, s2⟩ := hs i j hik hi (by omega)
        constructor <;> grind
    · refine ⟨l, fun j hj => ?_⟩
      obtain ⟨c1, c2⟩ := hc j hj
      have m1 : min i k = i := by omega
      have m2 : min i (k + 1) = i := by omega
      have e1 : sumT (fun t => l t * wv (k + 1) (fun i j => fv .f32 (el (elim M k n) i j)) t j) (min i (k + 1)) = sumT (fun t => l t * wv k (fun i j => fv .f32 (el M i j)) t j) (min i k) := by
        rw [m1, m2]
        refine sumT_congr _ (fun t ht => ?_)
        simp only [wv]
        rw [show min t (k + 1) = t by omega, show min t k = t by omega, el_same (by omega) (by omega) (by omega)]
      have e2 : wv (k + 1) (fun i j => fv .f32 (el (elim M k n) i j)) i j = wv k (fun i j => fv .f32 (el M i j)) i j := by
        simp only [wv]
        rw [m1, m2, el_same hi (by omega) (by omega)]
      rw [e1, e2]
      simp only [Ef]
      constructor <;> grind
  · rw [el_elim (by omega) (by omega), if_neg (by omega)]
    rcases Nat.lt_or_ge t k with h1 | h1
    · exact h.p t h1
    · obtain rfl : t = k := by omega
      exact hf
theorem bst_ok {n k : Nat} {M : List (List Nat)} (hf : ∀ i, i < n → fin .f32 (el M i k) = true) : ∀ m, k + m ≤ n → k < n → k ≤ bst M k m ∧ bst M k m < n ∧ ∀ i, k ≤ i → i < k + m → fv .f32 (absW (el M i k)) ≤ fv .f32 (absW (el M (bst M k m) k))
  | 0, _, hk => ⟨Nat.le_refl _, hk, fun i h1 h2 => by omega⟩
  | m + 1, hm, hk => by
    obtain ⟨a, b, c⟩ := bst_ok hf m (by omega) hk
    have f1 := (abs_fv (hf (k + m) (by omega))).1
    have f2 := (abs_fv (hf _ b)).1
    unfold bst
    rw [ord_gt f1 f2]
    by_cases h : fv .f32 (absW (el M (bst M k m) k)) < fv .f32 (absW (el M (k + m) k))
    · rw [if_pos (decide_eq_true h)]
      refine ⟨by omega, by omega, fun i h1 h2 => ?_⟩
      rcases Nat.lt_or_ge i (k + m) with h3 | h3
      · have := c i h1 h3; grind
      · obtain rfl : i = k + m := by omega
        exact Rat.le_refl
    · rw [if_neg (fun hd => h (of_decide_eq_true hd))]
      refine ⟨a, b, fun i h1 h2 => ?_⟩
      rcases Nat.lt_or_ge i (k + m) with h3 | h3
      · exact c i h1 h3
      · obtain rfl : i = k + m := by omega
        grind
/-- One column. -/
theorem inv_step {n k : Nat} {R G : Nat → Nat → Rat} {M : List (List Nat)} (h : Inv n k R G M) (hk : k < n) (n1 : 1 ≤ n) (n4 : n ≤ 4) (hR : Chn n R) : Inv n (k + 1) R (fun i => G (swI k (bst M k (n - k)) i)) (stp M k n) ∧ Far (fv .f32 (el (swp M k (bst M k (n - k))) k k)) := by
  obtain ⟨b1, b2, b3⟩ := bst_ok (n := n) (k := k) (M := M) (fun i hi => (h.f i k hi (by omega)).1) (n - k) (by omega) hk
  obtain ⟨b, hb⟩ : ∃ b, bst M k (n - k) = b := ⟨_, rfl⟩
  unfold stp
  rw [hb] at b1 b2 b3 ⊢
  have hl := h.l
  have hsw := inv_swp h b1 b2
  have hkk : el (swp M k b) k k = el M b k := by
    unfold el
    rw [swp_getD (by omega) (by omega)]
    unfold swI
    by_cases hkb : k = b
    · rw [if_pos hkb, hkb]
    · rw [if_neg hkb, if_pos rfl]
  have hik : ∀ i, k < i → i < n → ∃ i', k ≤ i' ∧ i' < n ∧ el (swp M k b) i k = el M i' k := fun i h1 h2 => by
    refine ⟨swI k b i, ?_, swI_lt hk b2 h2, by unfold el; rw [swp_getD (by omega) (by omega)]⟩
    unfold swI; split <;> (try split) <;> omega
  obtain ⟨fb1, fb2, fb3⟩ := h.f b k b2 (by omega)
  obtain ⟨ab1, ab2, ab3, ab4⟩ := abs_fv fb1
  have hall : ∀ i, k ≤ i → i < n → fv .f32 (el M i k) ≤ fv .f32 (absW (el M b k)) ∧ -fv .f32 (el M i k) ≤ fv .f32 (absW (el M b k)) := fun i h1 h2 => by
    obtain ⟨_, c2, c3, _⟩ := abs_fv (h.f i k h2 (by omega)).1
    have := b3 i h1 (by omega)
    constructor <;> grind
  have hE := ef_le k (by omega)
  have hE0 := ef_nn k
  have n4' : (n : Rat) ≤ 4 := by have := nat_le.2 n4; exact this
  have n0 : (0 : Rat) ≤ (n : Rat) := Rat.natCast_nonneg
  have hnE := Rat.mul_le_mul_of_nonneg_right n4' hE0
  have hlow := pivot_low (a := fun i j => fv .f32 (el M i j)) (p := fv .f32 (absW (el M b k))) n1 n4 hR h.g h.c hk (fun t ht => by
    have hp := h.p t ht
    have : wv k (fun i j => fv .f32 (el M i j)) t t = fv .f32 (el M t t) := by simp only [wv]; rw [if_neg (by omega)]
    rw [this]
    intro hz
    rw [hz] at hp
    rcases hp with h | h <;> grind) hE0 (by grind) hall (by grind)
  have hfar : Far (fv .f32 (el M b k)) := by
    unfold Far
    rcases ab4 with h | h <;> rw [h] at hlow
    · left; grind
    · right; grind
  refine ⟨inv_elim hsw hk n4 (by rw [hkk]; exact hfar) (fun i h1 h2 => ?_), by rw [hkk]; exact hfar⟩
  obtain ⟨i', h3, h4, h5⟩ := hik i h1 h2
  rw [hkk, h5]
  obtain ⟨c1, c2⟩ := hall i' h3 h4
  rcases ab4 with h | h <;> rw [h] at c1 c2
  · exact ⟨.inl c1, .inl c2⟩
  · exact ⟨.inr c1, .inr c2⟩
end Go.Proofs.YtjmpldcnhjgpkaaGreatDoor

/-
  What BalanceOf makes of a chain that the laws draw is finite. Plain law.
-/
namespace Go.Proofs.YtjmpldcnhjgpkaaGreatDoor
open Go.RowKit Mem Fl
set_option linter.unusedVariables false
set_option maxRecDepth 100000

/-- A rate: quarters up to 2. -/
def Qr (x : Nat) : Prop := Gr (-2) 8 x ∧ 0 ≤ fv .f32 x ∧ fv .f32 x ≤ 2
def rwL (ws : List Nat) (n k : Nat) : List Nat := (ws.drop (k * n)).take n
def lvW (ws : List Nat) (n k : Nat) : Nat := fb .sub .f32 0 (fsum (rwL ws n k))
def bRow (ws : List Nat) (n k : Nat) : List Nat := ((List.range n).map fun i => if i = k then lvW ws n k else ws.getD (i * n + k) 0) ++ [0]
def bM (ws : List Nat) (n : Nat) : List (List Nat) := (List.range n).map fun k => if k + 1 = n then List.replicate (n + 1) 1065353216 else bRow ws n k
/-- The chains of the laws. -/
structure Cw (n : Nat) (ws : List Nat) : Prop where
  n1 : 1 ≤ n
  n4 : n ≤ 4
  l : ws.length = n * n
  q : ∀ x ∈ ws, Qr x
  d : ∀ i, i < n → ws.getD (i * n + i) 0 = 0
  c : ∀ i, i < n → 2 ≤ n → 1 / 4 ≤ fv .f32 (ws.getD (i * n + (i + 1) % n) 0)
def rR (ws : List Nat) (n i j : Nat) : Rat := if i < n ∧ j < n then fv .f32 (ws.getD (i * n + j) 0) else 0
theorem ij_lt {n i j : Nat} (hi : i < n) (hj : j < n) : i * n + j < n * n := by
  have := Nat.mul_le_mul_right n (show i + 1 ≤ n by omega)
  rw [Nat.add_mul, Nat.one_mul] at this
  omega
theorem cw_at {n : Nat} {ws : List Nat} (h : Cw n ws) {i j : Nat} (hi : i < n) (hj : j < n) : Qr (ws.getD (i * n + j) 0) := by
  have hl := ij_lt hi hj
  refine h.q _ ?_
  rw [List.getD_eq_getElem?_getD, List.getElem?_eq_getElem (by rw [h.l]; exact hl)]
  exact List.getElem_mem _
theorem cw_chn {n : Nat} {ws : List Nat} (h : Cw n ws) : Chn n (rR ws n) := by
  refine ⟨fun i j => ?_, fun i j => ?_, fun i => ?_, fun i hi h2 => ?_⟩
  · unfold rR; split
    · rename_i hh; exact (cw_at h hh.1 hh.2).2.1
    · exact Rat.le_refl
  · unfold rR; split
    · rename_i hh; exact (cw_at h hh.1 hh.2).2.2
    · decide
  · unfold rR; split
    · rename_i hh; rw [h.d i hh.1]; exact f0'.2
    · rfl
  · unfold rR; rw [if_pos ⟨hi, Nat.mod_lt _ (by omega)⟩]; exact h.c i hi h2
theorem sumV_eq : ∀ (l : List Nat) (f : Nat → Rat), (∀ j, j < l.length → fv .f32 (l.getD j 0) = f j) → sumV l = sumT f l.length := by
  have key : ∀ (l : List Nat) (f : Nat → Rat) (n : Nat), n ≤ l.length → (∀ j, j < n → fv .f32 (l.getD j 0) = f j) → sumV (l.take n) = sumT f n := by
    intro l f n
    induction n with
    | zero => intro _ _; rfl
    | succ n ih =>
      intro h1 h2
      rw [sumV_take_succ (by omega), ih (by omega) (fun j hj => h2 j (by omega)), h2 n (by omega)]; rfl
  intro l f h
  have := key l f l.length (Nat.le_refl _) h
  rwa [List.take_length] at this
theorem rw_at {ws : List Nat} {n k j : Nat} (hj : j < n) : (rwL ws n k).getD j 0 = ws.getD (k * n + j) 0 := by
  unfold rwL
  rw [List.getD_eq_getElem?_getD, List.getElem?_take, if_pos hj, List.getElem?_drop, List.getD_eq_getElem?_getD]
theorem rw_len {ws : List Nat} {n k : Nat} (hl : ws.length = n * n) (hk : k < n) : (rwL ws n k).length = n := by
  unfold rwL
  have := ij_lt hk (show n - 1 < n by omega)
  have h2 := Nat.mul_le_mul_right n (show k + 1 ≤ n by omega)
  rw [Nat.add_mul, Nat.one_mul] at h2
  rw [List.length_take, List.length_drop]; omega
theorem lv_told {n : Nat} {ws : List Nat} (h : Cw n ws) {k : Nat} (hk : k < n) : fin .f32 (lvW ws n k) = true ∧ fv .f32 (lvW ws n k) = -sumT (rR ws n k) n ∧ Gr (-2) 100 (fsum (rwL ws n k)) := by
  have hlen := rw_len h.l hk
  have hn4 := h.n4
  have hall : ∀ x ∈ rwL ws n k, Gr (-2) 8 x := fun x hx => (h.q x (by
    unfold rwL at hx
    exact List.mem_of_mem_drop (List.mem_of_mem_take hx))).1
  obtain ⟨g1, g2⟩ := gr_fsum (e := -2) (by decide) lp2 hall (by rw [hlen]; omega)
  have hs : sumV (rwL ws n k) = sumT (rR ws n k) n := by
    have := sumV_eq (rwL ws n k) (rR ws n k) (fun j hj => by
      rw [hlen] at hj
      rw [rw_at hj]
      unfold rR
      rw [if_pos ⟨hk, hj⟩])
    rwa [hlen] at this
  obtain ⟨f1, z, hz, hv⟩ := g1
  rw [hlen] at hz
  have f0 := f0'
  have hb := big24
  obtain ⟨b1, b2⟩ := gr_big (e := -2) (by decide) (B := n * 8) (by omega) hz
  have e : fv .f32 0 - fv .f32 (fsum (rwL ws n k)) = ((-z : Int) : Rat) * p2 (-2) := by rw [f0.2, hv, Rat.intCast_neg]; grind
  have s1 := (re_sub f0.1 f1 (by rw [f0.2, hv]; grind) (by rw [f0.2, hv]; grind)).1
  have s2 := re_sub_exact f0.1 f1 (by rw [f0.2, hv]; grind) (by rw [f0.2, hv]; grind) e (by rw [fb32]; omega) lp2
  refine ⟨s1, ?_, ⟨f1, z, by omega, hv⟩⟩
  unfold lvW
  rw [s2, f0.2, g2, hs]; grind
theorem bM_row {ws : List Nat} {n k : Nat} (hk : k < n) : (bM ws n).getD k [] = if k + 1 = n then List.replicate (n + 1) 1065353216 else bRow ws n k := by
  unfold bM
  rw [List.getD_eq_getElem?_getD, List.getElem?_map, List.getElem?_range hk]; rfl
theorem one32b : fin .f32 1065353216 = true ∧ fv .f32 1065353216 = 1 := by decide +kernel
theorem bM_el {ws : List Nat} {n k j : Nat} (hk : k < n) (hj : j < n + 1) : el (bM ws n) k j = if k + 1 = n then 1065353216 else if j = n then 0 else if j = k then lvW ws n k else ws.getD (j * n + k) 0 := by
  unfold el
  rw [bM_row hk]
  by_cases h1 : k + 1 = n
  · rw [if_pos h1, if_pos h1, List.getD_eq_getElem?_getD, List.getElem?_replicate, if_pos hj]; rfl
  · rw [if_neg h1, if_neg h1]
    unfold bRow
    by_cases h2 : j = n
    · subst h2
      rw [if_pos rfl, List.getD_eq_getElem?_getD, List.getElem?_append_right (by simp)]
      simp
    · rw [if_neg h2, List.getD_eq_getElem?_getD, List.getElem?_append_left (by simp; omega), List.getElem?_map, List.getElem?_range (by omega)]
      rfl
theorem sum_leB {f : Nat → Rat} (h0 : ∀ j, 0 ≤ f j) (h2 : ∀ j, f j ≤ 2) : ∀ n, 0 ≤ sumT f n ∧ sumT f n ≤ (n : Rat) * 2
  | 0 => by
    have e0 : ((0 : Nat) : Rat) = 0 := rfl
    simp only [sumT]; rw [e0]; constructor <;> grind
  | n + 1 => by
    obtain ⟨a, b⟩ := sum_leB h0 h2 n
    have ek : ((n + 1 : Nat) : Rat) = (n : Rat) + 1 := by rw [Rat.natCast_add]; rfl
    have := h0 n
    have := h2 n
    simp only [sumT]; rw [ek]; constructor <;> grind
/-- Leaving a state: at most 3 rates count, but 6 is wanted: the state's own is 0. -/
theorem lv_le {n : Nat} {ws : List Nat} (h : Cw n ws) {k : Nat} (hk : k < n) : 0 ≤ sumT (rR ws n k) n ∧ sumT (rR ws n k) n ≤ 6 := by
  have hc := cw_chn h
  have d := hc.d k
  have n4 := h.n4
  have r0 := hc.r0 k
  have r2 := hc.r2 k
  have n1 := h.n1
  rcases (by omega : n = 1 ∨ n = 2 ∨ n = 3 ∨ n = 4) with rfl | rfl | rfl | rfl
  · obtain ⟨a, b⟩ := sum_leB (f := rR ws 1 k) r0 r2 1
    have e : ((1 : Nat) : Rat) = 1 := rfl
    rw [e] at b; constructor <;> grind
  · obtain ⟨a, b⟩ := sum_leB (f := rR ws 2 k) r0 r2 2
    have e : ((2 : Nat) : Rat) = 2 := rfl
    rw [e] at b; constructor <;> grind
  · obtain ⟨a, b⟩ := sum_leB (f := rR ws 3 k) r0 r2 3
    have e : ((3 : Nat) : Rat) = 3 := rfl
    rw [e] at b; constructor <;> grind
  · have a := (sum_leB (f := rR ws 4 k) r0 r2 4).1
    refine ⟨a, ?_⟩
    have z0 := r2 0
    have z1 := r2 1
    have z2 := r2 2
    have z3 := r2 3
    simp only [sumT]
    rcases (by omega : k = 0 ∨ k = 1 ∨ k = 2 ∨ k = 3) with rfl | rfl | rfl | rfl <;> rw [d] <;> grind
theorem inv_0 {n : Nat} {ws : List Nat} (h : Cw n ws) : Inv n 0 (rR ws n) (fun i j => aRow n (rR ws n) i j) (bM ws n) := by
  have f0 := f0'
  have o1 := one32b
  refine ⟨by simp [bM], fun i hi => ?_, fun i j hi hj => ?_, fun r hr => ⟨r, hr, fun j _ => rfl⟩, fun i hi => ⟨fun _ => 0, fun j hj => ?_⟩, fun t ht => absurd ht (Nat.not_lt_zero _)⟩
  · rw [bM_row hi]
    split
    · simp
    · simp [bRow]
  · rw [bM_el hi hj]
    simp only [Bf]
    split
    · rw [o1.2]; exact ⟨o1.1, by grind, by grind⟩
    · split
      · rw [f0.2]; exact ⟨f0.1, by grind, by grind⟩
      · split
        · obtain ⟨a, b, _⟩ := lv_told h hi
          obtain ⟨c, d⟩ := lv_le h hi
          rw [b]; exact ⟨a, by grind, by grind⟩
        · obtain ⟨⟨a, _⟩, b, c⟩ := cw_at h (show j < n by omega) hi
          exact ⟨a, by grind, by grind⟩
  · have e1 : sumT (fun t => (0 : Rat) * wv 0 (fun i j => fv .f32 (el (bM ws n) i j)) t j) (min i 0) = 0 := by rw [show min i 0 = 0 by omega]; rfl
    have e2 : wv 0 (fun i j => fv .f32 (el (bM ws n) i j)) i j = aRow n (rR ws n) i j := by
      simp only [wv]
      rw [if_neg (by omega), bM_el hi (by omega)]
      unfold aRow
      by_cases h1 : i + 1 = n
      · rw [if_pos h1, if_pos h1]; exact o1.2
      · rw [if_neg h1, if_neg h1, if_neg (by omega)]
        by_cases h2 : j = i
        · rw [if_pos h2, if_pos h2]; exact (lv_told h hi).2.1
        · rw [if_neg h2, if_neg h2]
          unfold rR
          rw [if_pos ⟨hj, hi⟩]
    rw [e1, e2]
    simp only [Ef]
    constructor <;> grind
theorem inv_gau {n : Nat} {ws : List Nat} (h : Cw n ws) : ∀ k, k ≤ n → ∃ G, Inv n k (rR ws n) G (gau (bM ws n) n k)
  | 0, _ => ⟨_, inv_0 h⟩
  | k + 1, hk => by
    obtain ⟨G, hi⟩ := inv_gau h k (by omega)
    exact ⟨_, (inv_step hi (by omega) h.n1 h.n4 (cw_chn h)).1⟩
theorem gau_far {n : Nat} {ws : List Nat} (h : Cw n ws) {k : Nat} (hk : k < n) : Far (fv .f32 (el (swp (gau (bM ws n) n k) k (bst (gau (bM ws n) n k) k (n - k))) k k)) := by
  obtain ⟨G, hi⟩ := inv_gau h k (by omega)
  exact (inv_step hi hk h.n1 h.n4 (cw_chn h)).2
/-- The answers, from the last one on. -/
def bkX (M : List (List Nat)) (n k : Nat) (o : List Nat) : Nat → Nat
  | 0 => el M k n
  | t + 1 => fb .sub .f32 (bkX M n k o t) (fb .mul .f32 (el M k (k + 1 + t)) (o.getD (k + 1 + t) 0))
def bkO (M : List (List Nat)) (n : Nat) : Nat → List Nat
  | 0 => List.replicate n 0
  | m + 1 => (bkO M n m).set (n - 1 - m) (fb .quo .f32 (bkX M n (n - 1 - m) (bkO M n m) m) (el M (n - 1 - m) (n - 1 - m)))
def Ob : Nat → Rat
  | 0 => 0
  | m + 1 => 10000000 * (Ob m + 1)
theorem ob_nn : ∀ m, 0 ≤ Ob m
  | 0 => by simp only [Ob]; grind
  | m + 1 => by have := ob_nn m; simp only [Ob]; grind
theorem ob_le : ∀ m, m < 5 → Ob m ≤ 100000000000000000000000000000 := by decide +kernel
theorem bkO_len (M : List (List Nat)) (n : Nat) : ∀ m, (bkO M n m).length = n
  | 0 => by simp [bkO]
  | m + 1 => by simp [bkO, bkO_len M n m]
theorem bkX_ok {M : List (List Nat)} {n k m : Nat} {o : List Nat} (hM : ∀ i j, i < n → j < n + 1 → fin .f32 (el M i j) = true ∧ fv .f32 (el M i j) ≤ 100 ∧ -fv .f32 (el M i j) ≤ 100) (hk : k + m + 1 = n) (hm : m < 4) {B : Rat} (B0 : 0 ≤ B) (hB : B ≤ 100000000000000000000000000000)
    (ho : ∀ j, fin .f32 (o.getD j 0) = true ∧ fv .f32 (o.getD j 0) ≤ B ∧ -fv .f32 (o.getD j 0) ≤ B) : ∀ t, t ≤ m → fin .f32 (bkX M n k o t) = true ∧ fv .f32 (bkX M n k o t) ≤ 100 + (t : Rat) * (200 * B + 200) ∧ -fv .f32 (bkX M n k o t) ≤ 100 + (t : Rat) * (200 * B + 200)
  | 0, _ => by
    obtain ⟨a, b, c⟩ := hM k n (by omega) (by omega)
    have e0 : ((0 : Nat) : Rat) = 0 := rfl
    simp only [bkX]
    rw [e0]; exact ⟨a, by grind, by grind⟩
  | t + 1, ht => by
    obtain ⟨a, b, c⟩ := bkX_ok hM hk hm B0 hB ho t (by omega)
    obtain ⟨d, e, f⟩ := hM k (k + 1 + t) (by omega) (by omega)
    obtain ⟨g, h, i⟩ := ho (k + 1 + t)
    obtain ⟨m1, m2⟩ := abs_mul e f h i
    have ek : ((t + 1 : Nat) : Rat) = (t : Rat) + 1 := by rw [Rat.natCast_add]; rfl
    have t4 : (t : Rat) ≤ 3 := by have := nat_le.2 (show t ≤ 3 by omega); exact this
    have t0 : (0 : Rat) ≤ (t : Rat) := Rat.natCast_nonneg
    have tB := Rat.mul_le_mul_of_nonneg_right t4 (show 0 ≤ 200 * B + 200 by grind)
    have hbg := bigC32
    have he := e20
    obtain ⟨p1, p2'⟩ := re_mul d g (by grind) (by grind)
    have p3 := p2' (100 * B) m1 m2
    rw [uu32, lp32] at p3
    simp only [bkX]
    rw [ek]
    generalize fb .mul .f32 (el M k (k + 1 + t)) (o.getD (k + 1 + t) 0) = P at *
    generalize bkX M n k o t = X at *
    obtain ⟨q1, q2⟩ := re_sub a p1 (by grind) (by grind)
    have q3 := q2 (1000 * B + 1000) (by grind) (by grind)
    rw [uu32] at q3
    exact ⟨q1, by grind, by grind⟩
theorem far_div {p x V : Rat} (hf : Far p) (h1 : x ≤ V) (h2 : -x ≤ V) : p ≠ 0 ∧ x / p ≤ 4176 * V ∧ -(x / p) ≤ 4176 * V := by
  have hp0 : p ≠ 0 := by rintro rfl; rcases hf with h | h <;> grind
  have V0 : 0 ≤ V := by grind
  have hv : x / p * p = x := Rat.div_mul_cancel hp0
  refine ⟨hp0, ?_⟩
  rcases hf with h | h
  · have q := Rat.mul_nonneg (show 0 ≤ 4176 * p - 1 by grind) V0
    exact ⟨Rat.le_of_mul_le_mul_right (c := p) (by grind) (by grind), Rat.le_of_mul_le_mul_right (c := p) (by grind) (by grind)⟩
  · have q := Rat.mul_nonneg (show 0 ≤ -(4176 * p) - 1 by grind) V0
    exact ⟨Rat.le_of_mul_le_mul_right (c := -p) (by grind) (by grind), Rat.le_of_mul_le_mul_right (c := -p) (by grind) (by grind)⟩
theorem bkO_ok {M : List (List Nat)} {n : Nat} (n4 : n ≤ 4) (hM : ∀ i j, i < n → j < n + 1 → fin .f32 (el M i j) = true ∧ fv .f32 (el M i j) ≤ 100 ∧ -fv .f32 (el M i j) ≤ 100) (hp : ∀ t, t < n → Far (fv .f32 (el M t t))) : ∀ m, m ≤ n → ∀ j, fin .f32 ((bkO M n m).getD j 0) = true ∧ fv .f32 ((bkO M n m).getD j 0) ≤ Ob m ∧ -fv .f32 ((bkO M n m).getD j 0) ≤ Ob m
  | 0, _, j => by
    have e : (bkO M n 0).getD j 0 = 0 := by
      unfold bkO
      rw [List.getD_eq_getElem?_getD, List.getElem?_replicate]; split <;> rfl
    have f0 := f0'
    rw [e, f0.2]
    simp only [Ob]
    exact ⟨f0.1, by grind, by grind⟩
  | m + 1, hm, j => by
    have ih := bkO_ok n4 hM hp m (by omega)
    have hOb := ob_le m (by omega)
    have hO0 := ob_nn m
    obtain ⟨k, hk⟩ : ∃ k, k = n - 1 - m := ⟨_, rfl⟩
    obtain ⟨a, b, c⟩ := bkX_ok (k := k) (m := m) (o := bkO M n m) hM (by omega) (by omega) hO0 hOb ih m (Nat.le_refl _)
    have m3 : (m : Rat) ≤ 3 := by have := nat_le.2 (show m ≤ 3 by omega); exact this
    have mB := Rat.mul_le_mul_of_nonneg_right m3 (show 0 ≤ 200 * Ob m + 200 by grind)
    obtain ⟨d0, d1, d2⟩ := far_div (hp k (by omega)) (V := 1000 * Ob m + 1000) (x := fv .f32 (bkX M n k (bkO M n m) m)) (by grind) (by grind)
    have hbg := bigC32
    have he := e20
    obtain ⟨q1, q2⟩ := re_quo a (hM k k (by omega) (by omega)).1 d0 (by grind) (by grind)
    have q3 := q2 (4176 * (1000 * Ob m + 1000)) d1 d2
    rw [uu32, lp32] at q3
    unfold bkO
    rw [← hk]
    generalize fb .quo .f32 (bkX M n k (bkO M n m) m) (el M k k) = Q at *
    by_cases hj : k = j
    · have e : ((bkO M n m).set k Q).getD j 0 = Q := by
        rw [List.getD_eq_getElem?_getD, List.getElem?_set, if_pos hj, if_pos (by rw [bkO_len]; omega)]; rfl
      rw [e]
      simp only [Ob]
      exact ⟨q1, by grind, by grind⟩
    · have e : ((bkO M n m).set k Q).getD j 0 = (bkO M n m).getD j 0 := by
        rw [List.getD_eq_getElem?_getD, List.getElem?_set, if_neg hj, List.getD_eq_getElem?_getD]
      rw [e]
      obtain ⟨x, y, z⟩ := ih j
      simp only [Ob]
      exact ⟨x, by grind, by grind⟩
/-- What BalanceOf answers. -/
def balL (ws : List Nat) (n : Nat) : List Nat := bkO (gau (bM ws n) n n) n n
theorem gau_le {n : Nat} {ws : List Nat} (h : Cw n ws) {k : Nat} (hk : k ≤ n) : ∀ i j, i < n → j < n + 1 → fin .f32 (el (gau (bM ws n) n k) i j) = true ∧ fv .f32 (el (gau (bM ws n) n k) i j) ≤ 100 ∧ -fv .f32 (el (gau (bM ws n) n k) i j) ≤ 100 := by
  obtain ⟨G, hi⟩ := inv_gau h k hk
  have hB := bf_le k (by have := h.n4; omega)
  intro i j h1 h2
  obtain ⟨a, b, c⟩ := hi.f i j h1 h2
  exact ⟨a, by grind, by grind⟩
theorem bal_fin {n : Nat} {ws : List Nat} (h : Cw n ws) : ∀ j, fin .f32 ((balL ws n).getD j 0) = true := by
  obtain ⟨G, hi⟩ := inv_gau h n (Nat.le_refl _)
  intro j
  exact (bkO_ok h.n4 (gau_le h (Nat.le_refl _)) hi.p n (Nat.le_refl _) j).1
theorem bal_len (ws : List Nat) (n : Nat) : (balL ws n).length = n := bkO_len _ _ _
theorem bal_all {n : Nat} {ws : List Nat} (h : Cw n ws) : (balL ws n).all (fin .f32) = true := by
  rw [List.all_eq_true]
  intro x hx
  obtain ⟨j, hj, rfl⟩ := List.getElem_of_mem hx
  have := bal_fin h j
  rwa [List.getD_eq_getElem?_getD, List.getElem?_eq_getElem hj] at this
end Go.Proofs.YtjmpldcnhjgpkaaGreatDoor
