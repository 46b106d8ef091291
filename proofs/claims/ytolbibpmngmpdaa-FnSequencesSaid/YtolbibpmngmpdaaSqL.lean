/-
  What the law of sequence tests asks for, in plain numbers.
-/
import Derived.Test.YtolbibpmngmpdaaSqT
import Derived.Test.YtolbibpmngmpdaaSeqI
import Derived.Test.YtolbibpmngmpdaaChtL
namespace Go.Proofs.Ytolbibpmngmpdaa
open Go.RowKit Mem Fl
set_option linter.unusedVariables false
set_option maxRecDepth 100000

theorem set_last {α : Type} (x y : α) : ∀ l : List α, (l ++ [x]).set l.length y = l ++ [y]
  | [] => rfl
  | z :: l => by simp
theorem set_rep (n x y : Nat) : (List.replicate n 0 ++ [x]).set n y = List.replicate n 0 ++ [y] := by
  have := set_last x y (List.replicate n 0)
  rwa [List.length_replicate] at this
theorem pos_fin {s : Nat} (h : s < 2139095040) : fin .f32 s = true ∧ 0 ≤ fv .f32 s := by
  have hr := read_pos (k := .f32) (r := s) (by rw [show FloatKind.f32.format.infRung = 2139095040 from f32_inf]; exact h)
  refine ⟨(fin_iff .f32 s).2 ⟨_, _, _, hr⟩, ?_⟩
  rw [fv_num hr]
  have hs : sg false = 1 := by simp [sg]
  rw [hs, Rat.one_mul]
  exact Rat.mul_nonneg Rat.natCast_nonneg (p2_nn _)
theorem barn_tab : ∀ a : Nat, a < 7 → ∀ b : Nat, b < 7 → fin .f32 (barA a b) = true ∧ fv .f32 (barA a b) < 0 := by decide +kernel
theorem seqEnd_up {A B s : Nat} (hA : fin .f32 A = true) (hA2 : fv .f32 A < 0) (hB : B < 2139095040) (hs : s < 2139095040) : seqEnd A B s = if B ≤ s then 1 else 0 := by
  have hi : FloatKind.f32.format.infRung = 2139095040 := f32_inf
  obtain ⟨f1, f2⟩ := pos_fin hs
  have h1 : FloatKind.f32.format.order s A = some .gt := by
    rw [re_order f1 hA, if_neg (by grind), if_neg (by grind)]
  have h2 := order_pos (k := .f32) (r := s) (q := B) (by rw [hi]; exact hs) (by rw [hi]; exact hB)
  unfold seqEnd
  rw [h1, h2, compare_int]
  rcases Nat.lt_trichotomy s B with h | h | h
  · rw [if_pos (show (s : Int) < (B : Int) by omega), if_neg (show ¬ B ≤ s by omega)]; decide
  · subst h; rw [if_neg (show ¬ (s : Int) < (s : Int) by omega), if_pos rfl, if_pos (Nat.le_refl _)]; decide
  · rw [if_neg (show ¬ (s : Int) < (B : Int) by omega), if_neg (show ¬ (s : Int) = (B : Int) by omega), if_pos (show B ≤ s by omega)]; decide
/-- How a test ends. -/
theorem seqRes_spec {A B up dn : Nat} : ∀ (xs : List Bool) (s : Nat) (k : Nat), ∃ (e : Int) (m : Nat), seqRes A B up dn xs s (k : Int) = (e, ((k + m : Nat) : Int)) ∧ m ≤ xs.length ∧ (e = 0 ∨ e = 1 ∨ e = -1) ∧ (e = 0 → m = xs.length) ∧ seqRes A B up dn (xs.take m) s (k : Int) = (e, ((k + m : Nat) : Int))
  | [], s, k => ⟨0, 0, rfl, Nat.le_refl _, .inl rfl, fun _ => rfl, rfl⟩
  | g :: l, s, k => by
    rcases seqEnd_cases A B (fb .add .f32 s (sPk g dn up)) with h | h
    · obtain ⟨e, m, h1, h2, h3, h4, h5⟩ := seqRes_spec (A := A) (B := B) (up := up) (dn := dn) l (fb .add .f32 s (sPk g dn up)) (k + 1)
      have ek : ((k + 1 : Nat) : Int) = (k : Int) + 1 := by omega
      rw [ek] at h1 h5
      refine ⟨e, m + 1, ?_, by rw [List.length_cons]; omega, h3, fun h => by rw [List.length_cons, h4 h], ?_⟩
      · rw [seqRes, if_pos h, h1]; congr 2; omega
      · rw [List.take_succ_cons, seqRes, if_pos h, h5]; congr 2; omega
    · have hn : ¬ seqEnd A B (fb .add .f32 s (sPk g dn up)) = 0 := by rcases h with h | h <;> rw [h] <;> decide
      refine ⟨seqEnd A B (fb .add .f32 s (sPk g dn up)), 1, ?_, by rw [List.length_cons]; omega, ?_, fun h0 => absurd h0 hn, ?_⟩
      · rw [seqRes, if_neg hn]; rfl
      · rcases h with h | h <;> simp [h]
      · rw [List.take_succ_cons, seqRes, if_neg hn]; rfl
section
variable {l h a b : Nat} (hl : l < 6) (hh : h < 8) (ha : a < 7) (hb : b < 7)
include hl hh ha hb
theorem end_sum {k : Nat} (hk : k < 20) : seqEnd (barA a b) (barB a b) (sumW l h (k + 1)) = if barB a b ≤ sumW l h (k + 1) then 1 else 0 := by
  obtain ⟨b1, b2⟩ := barn_tab a ha b hb
  exact seqEnd_up b1 b2 (barw_tab a ha b hb).2.2.2 (word_tab l hl h hh k hk).2.1
theorem end_mul {k : Nat} (hk : k < 20) : seqEnd (barA a b) (barB a b) (mulW l h (k + 1)) = if barB a b ≤ mulW l h (k + 1) then 1 else 0 := by
  obtain ⟨b1, b2⟩ := barn_tab a ha b hb
  exact seqEnd_up b1 b2 (barw_tab a ha b hb).2.2.2 (word_tab l hl h hh k hk).2.2.2
theorem stepS_spec : 1 ≤ stepS l h a b ∧ stepS l h a b ≤ 20 ∧ barB a b ≤ sumW l h (stepS l h a b) ∧ ∀ j, 0 < j → j < stepS l h a b → sumW l h j < barB a b := by
  obtain ⟨t1, _⟩ := step_tab l hl h hh a ha b hb
  have := reach_spec (barB a b) (sumW l h) 20 0 (by rw [Nat.zero_add]; exact t1) (by omega)
  simpa [stepS] using this
theorem stepP_spec : 1 ≤ stepP l h a b ∧ stepP l h a b ≤ 20 ∧ barB a b ≤ mulW l h (stepP l h a b) ∧ ∀ j, 0 < j → j < stepP l h a b → mulW l h j < barB a b := by
  obtain ⟨_, t1, _⟩ := step_tab l hl h hh a ha b hb
  have := reach_spec (barB a b) (mulW l h) 20 0 (by rw [Nat.zero_add]; exact t1) (by omega)
  simpa [stepP] using this
/-- Bad parts alone. -/
theorem worst_at : ∀ d k : Nat, k < stepS l h a b → stepS l h a b ≤ k + d → seqRes (barA a b) (barB a b) (upU l h) (upD l h) (List.replicate d false) (sumW l h k) (k : Int) = (1, (stepS l h a b : Int))
  | 0, k, h1, h2 => by omega
  | d + 1, k, h1, h2 => by
    obtain ⟨s1, s2, s3, s4⟩ := stepS_spec hl hh ha hb
    have e := end_sum hl hh ha hb (k := k) (by omega)
    have hs := sum_tab l hl h hh k (by omega)
    rw [List.replicate_succ, seqRes, sPk_f, hs]
    rcases Nat.eq_or_lt_of_le (show k + 1 ≤ stepS l h a b by omega) with h3 | h3
    · rw [h3] at e
      rw [if_pos s3] at e
      rw [h3, e]
      rw [if_neg (by decide)]
      congr 1; omega
    · have h4 := s4 (k + 1) (by omega) h3
      rw [if_neg (by omega)] at e
      rw [e, if_pos rfl]
      have := worst_at d (k + 1) h3 (by omega)
      rw [show ((k : Int) + 1) = ((k + 1 : Nat) : Int) by omega]
      exact this
theorem worst_told : seqRes (barA a b) (barB a b) (upU l h) (upD l h) (List.replicate 256 false) 0 0 = (1, (stepS l h a b : Int)) := by
  obtain ⟨s1, s2, s3, s4⟩ := stepS_spec hl hh ha hb
  have := worst_at hl hh ha hb 256 0 (by omega) (by omega)
  simpa [sumW] using this
end
/-- Chances where each part is bad. -/
def one32 : Nat := 1065353216
def Z0 (n : Nat) : List Nat := List.replicate n 0
def D1 (n : Nat) : List Nat := List.replicate n 0 ++ [one32]
def Fn (n : Nat) : Nat := floatOfInt .f32 (n : Int)
theorem k_sub : fb .sub .f32 1065353216 one32 = 0 := by decide +kernel
theorem k_mul00 : fb .mul .f32 0 0 = 0 := by decide +kernel
theorem k_mul01 : fb .mul .f32 0 one32 = 0 := by decide +kernel
theorem k_mul10 : fb .mul .f32 one32 0 = 0 := by decide +kernel
theorem k_mul11 : fb .mul .f32 one32 one32 = one32 := by decide +kernel
theorem k_add00 : fb .add .f32 0 0 = 0 := by decide +kernel
theorem k_add01 : fb .add .f32 0 one32 = one32 := by decide +kernel
theorem k_add10 : fb .add .f32 one32 0 = one32 := by decide +kernel
theorem k_F : ∀ n : Nat, n < 65 → fb .add .f32 (Fn n) one32 = Fn (n + 1) ∧ fb .add .f32 (Fn n) 0 = Fn n ∧ fin .f32 (Fn n) = true := by decide +kernel
theorem getD_rep (n i : Nat) : (List.replicate n 0).getD i 0 = 0 := by
  rw [List.getD_eq_getElem?_getD, List.getElem?_replicate]; split <;> rfl
theorem step_zero {c : List Nat} {j m : Nat} (h : c.getD j 0 = 0) : chB one32 c j (chA one32 c j (Z0 m)) = Z0 m := by
  have e1 : chA one32 c j (Z0 m) = Z0 m := by
    unfold chA Z0; rw [h, k_sub, k_mul00, getD_rep, k_add00, List.set_replicate_self]
  rw [e1]
  unfold chB Z0; rw [h, k_mul01, getD_rep, k_add00, List.set_replicate_self]
theorem next_zero {c : List Nat} : ∀ j : Nat, (∀ i, i < j → c.getD i 0 = 0) → chNext one32 c j = Z0 (c.length + 1)
  | 0, _ => rfl
  | j + 1, h => by rw [chNext, next_zero j (fun i hi => h i (by omega))]; exact step_zero (h j (by omega))
theorem D1_at (n i : Nat) (h : i < n) : (D1 n).getD i 0 = 0 := by
  unfold D1
  rw [List.getD_eq_getElem?_getD, List.getElem?_append_left (by simpa using h), List.getElem?_replicate, if_pos h]; rfl
theorem D1_last (n : Nat) : (D1 n).getD n 0 = one32 := by
  unfold D1
  rw [List.getD_eq_getElem?_getD, List.getElem?_append_right (by simp)]; simp
theorem D1_len (n : Nat) : (D1 n).length = n + 1 := by simp [D1]
theorem next_D1 (n : Nat) : chNext one32 (D1 n) (n + 1) = D1 (n + 1) := by
  rw [chNext, next_zero n (D1_at n), D1_len]
  have e1 : chA one32 (D1 n) n (Z0 (n + 1 + 1)) = Z0 (n + 1 + 1) := by
    unfold chA Z0; rw [D1_last, k_sub, k_mul10, getD_rep, k_add00, List.set_replicate_self]
  rw [e1]
  unfold chB Z0
  rw [D1_last, k_mul11, getD_rep, k_add01]
  unfold D1
  rw [show n + 1 + 1 = (n + 1) + 1 from rfl, List.replicate_succ' (n := n + 1)]
  exact set_rep _ _ _
theorem put_zero {E : Int} {k : Nat} {nx o : List Nat} (hn : nx.getD k 0 = 0) (hl : k < nx.length) (h0 : fb .add .f32 (o.getD (eIx E) 0) 0 = o.getD (eIx E) 0) (hi : eIx E < o.length) : chPut E k (nx, o) = (nx, o) := by
  unfold chPut
  split
  · rfl
  · rw [hn, h0]
    have s1 : nx.set k 0 = nx := by
      rw [← hn]
      rw [List.getD_eq_getElem?_getD, List.getElem?_eq_getElem hl]; exact List.set_getElem_self hl
    have s2 : o.set (eIx E) (o.getD (eIx E) 0) = o := by
      rw [List.getD_eq_getElem?_getD, List.getElem?_eq_getElem hi]; exact List.set_getElem_self hi
    rw [s1, s2]
theorem end_zero {A B up dn : Nat} {N : Int} {nx o : List Nat} (ho : o.length = 3) (h0 : fb .add .f32 (o.getD 0 0) 0 = o.getD 0 0) (h1 : fb .add .f32 (o.getD 1 0) 0 = o.getD 1 0) : ∀ k : Nat, k ≤ nx.length → (∀ i, i < k → nx.getD i 0 = 0) → chEnd A B up dn N nx o k = (nx, o)
  | 0, _, _ => rfl
  | k + 1, hk, h => by
    rw [chEnd, end_zero ho h0 h1 k (by omega) (fun i hi => h i (by omega))]
    refine put_zero (h k (by omega)) (by omega) ?_ ?_
    · unfold eIx; split
      · exact h0
      · exact h1
    · unfold eIx; split <;> omega
theorem fsum_Z (n : Nat) : fsum (Z0 n) = 0 := by
  induction n with
  | zero => rfl
  | succ n ih => unfold Z0 at *; rw [List.replicate_succ', fsum_snoc, ih, k_add00]
theorem fsum_D (n : Nat) : fsum (D1 n) = one32 := by
  have := fsum_Z n
  unfold D1 Z0 at *
  rw [fsum_snoc, this, k_add01]
section
variable {l h a b : Nat} (hl : l < 6) (hh : h < 8) (ha : a < 7) (hb : b < 7)
include hl hh ha hb
theorem sure_at : ∀ n : Nat, n ≤ 64 → chSt (barA a b) (barB a b) (upU l h) (upD l h) one32 n = if n < stepP l h a b then (D1 n, [0, 0, Fn n]) else (Z0 (n + 1), [0, one32, Fn (stepP l h a b)])
  | 0, _ => by
    obtain ⟨s1, s2, s3, s4⟩ := stepP_spec hl hh ha hb
    rw [if_pos (by omega)]
    have : Fn 0 = 0 := by decide +kernel
    rw [this]; rfl
  | n + 1, hn => by
    obtain ⟨s1, s2, s3, s4⟩ := stepP_spec hl hh ha hb
    rw [chSt_succ, sure_at n (by omega)]
    by_cases h1 : n < stepP l h a b
    · rw [if_pos h1]
      have hm := mul_tab l hl h hh n (by omega)
      have he := end_mul hl hh ha hb (k := n) (by omega)
      dsimp only
      rw [D1_len, next_D1, chTot, fsum_D]
      have e2 : ([0, 0, Fn n] : List Nat).getD 2 0 = Fn n := rfl
      rw [e2, (k_F n (by omega)).1]
      have e3 : ([0, 0, Fn n] : List Nat).set 2 (Fn (n + 1)) = [0, 0, Fn (n + 1)] := rfl
      rw [e3, chEnd, end_zero (o := [0, 0, Fn (n + 1)]) rfl k_add00 k_add00 (n + 1) (by rw [D1_len]; omega) (fun i hi => D1_at (n + 1) i hi), hm, he]
      by_cases h2 : n + 1 < stepP l h a b
      · have h3 := s4 (n + 1) (by omega) h2
        rw [if_neg (by omega), if_pos h2]; rfl
      · obtain h3 : n + 1 = stepP l h a b := by omega
        rw [if_pos (by rw [h3]; exact s3), if_neg h2]
        unfold chPut
        rw [if_neg (by decide)]
        dsimp only
        have e4 : eIx 1 = 1 := by decide
        rw [e4, D1_last]
        have e5 : ([0, 0, Fn (n + 1)] : List Nat).getD 1 0 = 0 := rfl
        rw [e5, k_add01, ← h3]
        have e6 : (D1 (n + 1)).set (n + 1) 0 = Z0 (n + 1 + 1) := by
          unfold D1 Z0
          rw [set_rep, ← List.replicate_succ' (n := n + 1)]
        rw [e6]; rfl
    · rw [if_neg h1, if_neg (by omega)]
      dsimp only
      have e1 : (Z0 (n + 1)).length = n + 1 := by simp [Z0]
      have e0 : ∀ m i : Nat, (Z0 m).getD i 0 = 0 := fun m i => getD_rep m i
      rw [e1, next_zero (n + 1) (fun i _ => e0 _ i), e1, chTot, fsum_Z]
      have e2 : ([0, one32, Fn (stepP l h a b)] : List Nat).getD 2 0 = Fn (stepP l h a b) := rfl
      rw [e2, (k_F _ (by omega)).2.1]
      have e3 : ([0, one32, Fn (stepP l h a b)] : List Nat).set 2 (Fn (stepP l h a b)) = [0, one32, Fn (stepP l h a b)] := rfl
      rw [e3, end_zero (o := [0, one32, Fn (stepP l h a b)]) rfl k_add00 k_add10 (n + 1 + 1) (by simp [Z0]) (fun i _ => e0 _ i)]
theorem sure_told : (chSt (barA a b) (barB a b) (upU l h) (upD l h) one32 64).2 = [0, one32, Fn (stepP l h a b)] := by
  obtain ⟨s1, s2, s3, s4⟩ := stepP_spec hl hh ha hb
  rw [sure_at hl hh ha hb 64 (Nat.le_refl _), if_neg (by omega)]
end
theorem c1001 : fin .f64 4607186922399644778 = true ∧ 1 + 999 / 1000000 ≤ fv .f64 4607186922399644778 := by decide +kernel
theorem c1001n : fin .f64 13830558959254420586 = true ∧ fv .f64 13830558959254420586 ≤ -(1 + 999 / 1000000) := by decide +kernel
theorem c0001 : fin .f64 4562254508917369340 = true ∧ 999 / 1000000 ≤ fv .f64 4562254508917369340 := by decide +kernel
theorem c_most : ∀ n : Nat, n < 30 → fin .f64 (fb .add .f64 (floatOfInt .f64 (n : Int)) 4576918229304087675) = true ∧ (n : Rat) + 9 / 1000 ≤ fv .f64 (fb .add .f64 (floatOfInt .f64 (n : Int)) 4576918229304087675) := by decide +kernel
theorem uu64 : uu .f64 ≤ 1 / 1000000000 := by decide +kernel
theorem big64 : (1000000 : Rat) ≤ big .f64 := by decide +kernel
theorem f0 : fin .f32 0 = true ∧ fv .f32 0 = 0 := by decide +kernel
theorem nn_lt {x : Nat} (h : Pv x) : (FloatKind.f32.format.order x 0 == some .lt) = false := by
  rw [ord_lt h.1 f0.1, decide_eq_false_iff_not, f0.2]
  exact Rat.not_lt.2 h.2
theorem list3 {o : List Nat} (h : o.length = 3) : o = [o.getD 0 0, o.getD 1 0, o.getD 2 0] := by
  match o, h with
  | [x, y, z], _ => rfl
/-- Chances are chances. -/
theorem chance_ok (A B up dn : Nat) {sj n : Nat} (hs : sj < 17) (hn : n < 30) : ∃ o0 o1 o2 : Nat, (chSt A B up dn (shW sj) n).2 = [o0, o1, o2] ∧ (fin .f32 o0 = true ∧ fin .f32 o1 = true ∧ fin .f32 o2 = true) ∧
    (FloatKind.f32.format.order o0 0 == some .lt) = false ∧ (FloatKind.f32.format.order o1 0 == some .lt) = false ∧ (FloatKind.f32.format.order o2 0 == some .lt) = false ∧
    (fin .f64 (fb .add .f64 (wide o0) (wide o1)) = true ∧ (FloatKind.f64.format.order (fb .add .f64 (wide o0) (wide o1)) 4607186922399644778 == some .gt) = false) ∧
    (FloatKind.f64.format.order (wide o2) (fb .add .f64 (floatOfInt .f64 (n : Int)) 4576918229304087675) == some .gt) = false := by
  obtain ⟨h1, h2, h3, h4⟩ := st_ok A B up dn hs n (by omega)
  have hl := (chSt_len A B up dn (shW sj) n).2
  have e := list3 hl
  obtain ⟨p0, q0⟩ := h2.getD 0
  obtain ⟨p1, q1⟩ := h2.getD 1
  obtain ⟨p2', q2⟩ := h2.getD 2
  have hc := sumV_nn h1
  refine ⟨_, _, _, e, ⟨p0, p1, p2'⟩, nn_lt (h2.getD 0), nn_lt (h2.getD 1), nn_lt (h2.getD 2), ?_, ?_⟩
  all_goals
    generalize (chSt A B up dn (shW sj) n).1 = C at *
    generalize (chSt A B up dn (shW sj) n).2 = O at *
    have hn30 : (n : Rat) ≤ ((29 : Nat) : Rat) := nat_le.2 (by omega)
    have e29 : ((29 : Nat) : Rat) = 29 := rfl
    rw [e29] at hn30
    have hn0 : (0 : Rat) ≤ (n : Rat) := Rat.natCast_nonneg
    have hnn : (n : Rat) * n ≤ 29 * 29 := sq_le hn0 hn30
    have hnn0 : 0 ≤ (n : Rat) * n := Rat.mul_nonneg hn0 hn0
    have hn3 : (n : Rat) * n * n ≤ 29 * 29 * 29 := by
      have := Rat.mul_le_mul_of_nonneg_left hn30 hnn0
      grind
    have hb := big64
    have hu := uu64
  · obtain ⟨w0, v0⟩ := re_wide p0
    obtain ⟨w1, v1⟩ := re_wide p1
    clear h4 hn3
    have hs : fv .f32 (O.getD 0 0) + fv .f32 (O.getD 1 0) ≤ 1 + 4 / 10000 := by clear hu hb v0 v1; grind
    obtain ⟨a1, a2⟩ := re_add w0 w1 (by rw [v0, v1]; clear h3 hnn hnn0 hu; grind) (by rw [v0, v1]; clear h3 hnn hnn0 hu; grind)
    rw [v0, v1] at a2
    have a3 := a2 2 (by clear h3 hnn hnn0 hu hb; grind) (by clear h3 hnn hnn0 hu hb; grind)
    obtain ⟨c1, c2⟩ := c1001
    refine ⟨a1, ?_⟩
    rw [ord_gt a1 c1, decide_eq_false_iff_not]
    refine Rat.not_lt.2 ?_
    clear h3 hnn hnn0 hb
    grind
  · obtain ⟨w2, v2⟩ := re_wide p2'
    obtain ⟨c1, c2⟩ := c_most n hn
    rw [ord_gt w2 c1, decide_eq_false_iff_not, v2]
    refine Rat.not_lt.2 ?_
    clear h3 hb hu
    grind
/-- How far two numbers are apart. -/
theorem gap_le {x y : Nat} {d : Rat} (hx : fin .f32 x = true) (hy : fin .f32 y = true) (h1 : fv .f32 x - fv .f32 y ≤ d) (h2 : fv .f32 y - fv .f32 x ≤ d) (hd : d ≤ 1000) (hd0 : 0 ≤ d) : fin .f64 (gapV x y) = true ∧ fv .f64 (gapV x y) ≤ d + 1 / 1000000 := by
  obtain ⟨a1, a2⟩ := re_wide hx
  obtain ⟨b1, b2⟩ := re_wide hy
  have hb := big64
  have hu := uu64
  obtain ⟨c1, c2⟩ := re_sub a1 b1 (by rw [a2, b2]; grind) (by rw [a2, b2]; grind)
  obtain ⟨d1, d2⟩ := re_sub b1 a1 (by rw [a2, b2]; grind) (by rw [a2, b2]; grind)
  rw [a2, b2] at c2 d2
  have c3 := c2 1000 (by grind) (by grind)
  have d3 := d2 1000 (by grind) (by grind)
  have k1 : ∀ z, fin .f64 z = true → fv .f64 z ≤ d + 1 / 1000000 → fin .f64 (cn .f64 z) = true ∧ fv .f64 (cn .f64 z) ≤ d + 1 / 1000000 := fun z h1 h2 => by
    rw [cn_num (fin_nan64 h1)]; exact ⟨h1, h2⟩
  have e1 := k1 _ c1 (by grind)
  have e2 := k1 _ d1 (by grind)
  unfold gapV mm mmBits
  rw [re_order c1 d1]
  split
  · rename_i h; cases h
  all_goals (simp only [Option.getD_some]; split <;> assumption)
theorem gap_near {x : Nat} (hx : fin .f32 x = true) (h1 : fv .f32 x ≤ 1 + 1 / 2000) (h2 : 1 - 1 / 2000 ≤ fv .f32 x) : (FloatKind.f64.format.order (gapV x 1065353216) 4562254508917369340 == some .lt) = true := by
  have f1 : fin .f32 1065353216 = true ∧ fv .f32 1065353216 = 1 := by decide +kernel
  obtain ⟨g1, g2⟩ := gap_le (d := 1 / 2000) hx f1.1 (by rw [f1.2]; grind) (by rw [f1.2]; grind) (by grind) (by grind)
  obtain ⟨c1, c2⟩ := c0001
  rw [ord_lt g1 c1, decide_eq_true_iff]
  grind
theorem agree_in {x : Nat} (hx : fin .f32 x = true) (h1 : fv .f32 x ≤ 1 + 1 / 2000) (h2 : -(1 + 1 / 2000) ≤ fv .f32 x) : (FloatKind.f64.format.order (wide x) 4607186922399644778 == some .lt) = true ∧ (FloatKind.f64.format.order (wide x) 13830558959254420586 == some .gt) = true := by
  obtain ⟨a1, a2⟩ := re_wide hx
  obtain ⟨c1, c2⟩ := c1001
  obtain ⟨d1, d2⟩ := c1001n
  rw [ord_lt a1 c1, ord_gt a1 d1, decide_eq_true_iff, decide_eq_true_iff, a2]
  exact ⟨by grind, by grind⟩
theorem step_gap : ∀ p : Nat, p < 21 → ∀ f : Nat, f < 21 → (decide (f ≤ p + 1) && decide (p ≤ f + 1) && (FloatKind.f64.format.order (gapV (Fn p) (Fn f)) 4607186922399644778 == some .gt)) = false := by decide +kernel
theorem one_gap : (FloatKind.f64.format.order (gapV 1065353216 1065353216) 4562254508917369340 == some .gt) = false := by decide +kernel
end Go.Proofs.Ytolbibpmngmpdaa
