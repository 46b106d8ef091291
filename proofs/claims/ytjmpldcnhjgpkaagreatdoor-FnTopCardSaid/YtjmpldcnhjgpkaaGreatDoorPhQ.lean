/-
  Contracts of TurnRest: the program's and the reference's.
-/
import Derived.Test.YtjmpldcnhjgpkaaGreatDoorSrc
import Derived.Test.YtjmpldcnhjgpkaaGreatDoorFourP
import Derived.Test.YtjmpldcnhjgpkaaGreatDoorHelp
import Derived.Test.YtjmpldcnhjgpkaaGreatDoorLogP
import Derived.Test.YtjmpldcnhjgpkaaGreatDoorSeqB
import Derived.StillTailTactics
namespace Go.Proofs.YtjmpldcnhjgpkaaGreatDoor
open Go.RowKit Fl Mem
set_option linter.unusedVariables false
set_option maxRecDepth 100000

/-- Each number less the mean of its place. -/
def restTo (xs : List Nat) (p k : Nat) : List Nat := (List.range k).map fun i => fb .sub .f32 (xs.getD i 0) ((turnL xs p).getD (i % p) 0)
theorem restTo_succ {xs : List Nat} {p k x y : Nat} (hx : xs[k]? = some x) (hy : (turnL xs p)[k % p]? = some y) : restTo xs p (k + 1) = restTo xs p k ++ [fb .sub .f32 x y] := by
  unfold restTo
  rw [List.range_succ, List.map_append]
  simp [hx, hy]
theorem restTo_len (xs : List Nat) (p k : Nat) : (restTo xs p k).length = k := by simp [restTo]
def restOk (xs : List Nat) (p : Int) : Bool := turnOk xs p && (restTo xs p.toNat xs.length).all (fin .f32)
def restR (xs : List Nat) (p : Int) : List Nat := if restOk xs p = true then restTo xs p.toNat xs.length else []
theorem restR_no {xs : List Nat} {p : Int} (h : restOk xs p = false) : restR xs p = [] := by unfold restR; rw [h]; rfl
theorem turnOk_len {xs : List Nat} {p : Int} (h : turnOk xs p = true) : xs.length ≤ 96 ∧ 1 ≤ p ∧ p ≤ xs.length := by
  unfold turnOk at h
  simp only [Bool.and_eq_true] at h
  have h1 := (isSig_len h.1.1).2
  have h2 := inB_iff.1 h.1.2
  omega
theorem restR_le (xs : List Nat) (p : Int) : (restR xs p).length ≤ 1000 := by
  unfold restR
  split
  · rename_i h
    unfold restOk at h
    simp only [Bool.and_eq_true] at h
    have := (turnOk_len h.1).1
    rw [restTo_len]
    omega
  · simp
theorem all_fin_cn {zs ys : List Nat} (h : zs.map (cn .f32) = ys) : zs.all (fin .f32) = ys.all (fin .f32) := by
  rw [← h, List.all_map]
  congr 1
  funext x
  exact (fin_cn _ _).symm

end Go.Proofs.YtjmpldcnhjgpkaaGreatDoor

/-
  A number of few digits is written to what it is; whole numbers of 32-bit and 64-bit words.
-/
namespace Go.Proofs.YtjmpldcnhjgpkaaGreatDoor.Fl
open Go.RowKit
set_option linter.unusedVariables false

/-- A number whose last digit and whose digits the format has is read as it was written. -/
theorem read_exact {k : FloatKind} {s : Bool} {m : Nat} {e : Int} (hm : m ≠ 0) (hl : m.log2 ≤ k.format.fractionBits) (he : k.format.leastPlace ≤ e) (hr : rungOf k.format m e < k.format.infRung) :
    ∃ m' e', k.format.read (k.format.nearest s m e) = .number s m' e' ∧ e' ≤ e ∧ k.format.leastPlace ≤ e' ∧ m' = m * 2 ^ (e - e').toNat := by
  have hw := nearest_word k.format s m e (Nat.le_refl _) hr
  refine ⟨_, _, by rw [hw]; exact read_word hr, ?_⟩
  have hB := binade_pos k.format
  have hlast : lastOf k.format m e ≤ e := by unfold lastOf; omega
  have hge : k.format.leastPlace ≤ lastOf k.format m e := by unfold lastOf; omega
  have hk : rungOf k.format m e = (lastOf k.format m e - k.format.leastPlace).toNat * k.format.binade + m * 2 ^ (e - lastOf k.format m e).toNat := by
    unfold rungOf
    rw [if_neg hm, show (lastOf k.format m e - e).toNat = 0 by omega, rnd_zero]
  have hkm : m * 2 ^ (e - lastOf k.format m e).toNat < 2 * k.format.binade := by
    have h1 : m * 2 ^ (e - lastOf k.format m e).toNat < 2 ^ (m.log2 + 1) * 2 ^ (e - lastOf k.format m e).toNat := Nat.mul_lt_mul_of_pos_right Nat.lt_log2_self (Nat.two_pow_pos _)
    rw [← Nat.pow_add] at h1
    refine Nat.lt_of_lt_of_le h1 ?_
    unfold Ieee.Format.binade
    rw [show 2 * 2 ^ k.format.fractionBits = 2 ^ (k.format.fractionBits + 1) by rw [Nat.pow_succ]; omega]
    exact Nat.pow_le_pow_right (by omega) (by unfold lastOf; omega)
  by_cases hc : lastOf k.format m e = k.format.leastPlace ∧ m * 2 ^ (e - lastOf k.format m e).toNat < k.format.binade
  · obtain ⟨h1, h2⟩ := hc
    rw [h1] at hk h2
    rw [Int.sub_self] at hk
    simp only [Int.toNat_zero, Nat.zero_mul, Nat.zero_add] at hk
    have hlt : rungOf k.format m e < k.format.binade := by omega
    unfold magOf placeOf
    rw [if_pos hlt, if_pos hlt]
    exact ⟨he, Int.le_refl _, hk⟩
  · have hge2 : k.format.binade ≤ m * 2 ^ (e - lastOf k.format m e).toNat := by
      by_cases h1 : lastOf k.format m e = k.format.leastPlace
      · have : ¬ m * 2 ^ (e - lastOf k.format m e).toNat < k.format.binade := fun h => hc ⟨h1, h⟩
        omega
      · have h2 : lastOf k.format m e = e + m.log2 - k.format.fractionBits := by unfold lastOf at *; omega
        have h3 : 2 ^ m.log2 * 2 ^ (e - lastOf k.format m e).toNat ≤ m * 2 ^ (e - lastOf k.format m e).toNat := Nat.mul_le_mul_right _ (Nat.log2_self_le hm)
        rw [← Nat.pow_add] at h3
        refine Nat.le_trans ?_ h3
        unfold Ieee.Format.binade
        exact Nat.pow_le_pow_right (by omega) (by omega)
    have hb : ¬ rungOf k.format m e < k.format.binade := by omega
    generalize hK : m * 2 ^ (e - lastOf k.format m e).toNat = K at *
    generalize hL : (lastOf k.format m e - k.format.leastPlace).toNat = L at *
    have hmod : rungOf k.format m e % k.format.binade = K - k.format.binade := by
      rw [hk, Nat.mul_comm, Nat.mul_add_mod, Nat.mod_eq_sub_mod hge2, Nat.mod_eq_of_lt (by omega)]
    have hdiv : rungOf k.format m e / k.format.binade = L + 1 := by
      rw [hk, Nat.mul_comm, Nat.mul_add_div hB]
      congr 1
      exact Nat.div_eq_of_lt_le (by omega) (by omega)
    unfold magOf placeOf
    rw [if_neg hb, if_neg hb, hmod, hdiv]
    have hp : k.format.leastPlace + ((L + 1 - 1 : Nat) : Int) = lastOf k.format m e := by omega
    rw [hp]
    exact ⟨hlast, hge, by omega⟩

/-- What is left of 'm 2^e' without what is behind the point. -/
def floorv (m : Nat) (e : Int) : Nat := (m <<< e.toNat) / 2 ^ (-e).toNat
theorem floorv_at {m : Nat} {e : Int} {b : Nat} (h : -(b : Int) ≤ e) : floorv m e = m * 2 ^ (e + b).toNat / 2 ^ b := by
  unfold floorv
  rw [Nat.shiftLeft_eq]
  rcases Int.lt_or_le e 0 with h0 | h0
  · rw [show e.toNat = 0 by omega, Nat.pow_zero, Nat.mul_one]
    have : b = (-e).toNat + (e + b).toNat := by omega
    rw [show (2 : Nat) ^ b = 2 ^ (-e).toNat * 2 ^ (e + b).toNat by rw [← Nat.pow_add, ← this]]
    rw [Nat.mul_div_mul_right _ _ (Nat.two_pow_pos _)]
  · rw [show (-e).toNat = 0 by omega, Nat.pow_zero, Nat.div_one]
    rw [show (e + b).toNat = e.toNat + b by omega, Nat.pow_add, ← Nat.mul_assoc, Nat.mul_div_cancel _ (Nat.two_pow_pos _)]
theorem gap_div (n d : Nat) : n / (1 <<< min d (n.log2 + 2)) = n / 2 ^ d := by
  rw [Nat.shiftLeft_eq, Nat.one_mul]
  rcases Nat.lt_or_ge (n.log2 + 2) d with h | h
  rotate_left
  · rw [Nat.min_eq_left h]
  · rw [Nat.min_eq_right (by omega)]
    have h1 : n < 2 ^ (n.log2 + 1) := Nat.lt_log2_self
    have h2 : 2 ^ (n.log2 + 1) ≤ 2 ^ (n.log2 + 2) := Nat.pow_le_pow_right (by omega) (by omega)
    have h3 : 2 ^ (n.log2 + 2) ≤ 2 ^ d := Nat.pow_le_pow_right (by omega) (by omega)
    rw [Nat.div_eq_of_lt (by omega), Nat.div_eq_of_lt (by omega)]
theorem cut_zero_way (s : Bool) (m : Nat) (e : Int) : Ieee.Toward.zero.cut s (m <<< e.toNat) (-e).toNat = floorv m e := by
  unfold Ieee.Toward.cut floorv
  simp only [Bool.toNat_false, Nat.add_zero]
  exact gap_div _ _
theorem cut_down_way (m : Nat) (e : Int) : Ieee.Toward.down.cut false (m <<< e.toNat) (-e).toNat = floorv m e := by
  unfold Ieee.Toward.cut floorv
  simp only [Bool.false_and, Bool.toNat_false, Nat.add_zero]
  exact gap_div _ _
theorem cut_down_zero (e : Int) : Ieee.Toward.down.cut true (0 <<< e.toNat) (-e).toNat = 0 := by
  unfold Ieee.Toward.cut
  simp

theorem f64_least : FloatKind.f64.format.leastPlace = -1074 := by decide +kernel
theorem f64_fb : FloatKind.f64.format.fractionBits = 52 := by decide +kernel
theorem f64_inf : FloatKind.f64.format.infRung = 9218868437227405312 := by decide +kernel

/-- A 32-bit number written to 64 bits is read as it was. -/
theorem wide_read {s : Bool} {m : Nat} {e : Int} (hm : m < 16777216) (h1 : -149 ≤ e) (h2 : e ≤ 104) :
    ∃ m' e', FloatKind.f64.format.read (FloatKind.f64.format.nearest s m e) = .number s m' e' ∧ -1074 ≤ e' ∧ m' * 2 ^ (e' + 1074).toNat = m * 2 ^ (e + 1074).toNat := by
  by_cases h0 : m = 0
  · subst h0
    obtain ⟨p, hp⟩ := read_zero_word .f64 s
    have hz : FloatKind.f64.format.nearest s 0 e = FloatKind.f64.format.word s 0 := nearest_zero _ _ _
    have h3 := read_word (k := .f64) (s := s) (r := 0) (by rw [f64_inf]; omega)
    refine ⟨_, _, by rw [hz]; exact h3, ?_, ?_⟩
    · have := place_ge FloatKind.f64.format 0; rw [f64_least] at this; exact this
    · have : magOf FloatKind.f64.format 0 = 0 := by decide +kernel
      rw [this]; simp
  · have hl : m.log2 ≤ 23 := log2_lt_of (b := 23) (by omega)
    obtain ⟨r, hr, hlt⟩ := nearest64_lt s m e hm h1 h2
    have hrl : rungOf FloatKind.f64.format m e < FloatKind.f64.format.infRung := by
      have hR : rungOf FloatKind.f64.format m e ≤ 5183643171103440896 := by
        refine rung_pow _ (a := 52) (j := 76) ?_ ?_ (by omega)
        · decide +kernel
        · decide +kernel
      rw [f64_inf]
      omega
    obtain ⟨m', e', h3, h4, h5, h6⟩ := read_exact (k := .f64) (s := s) h0 (by rw [f64_fb]; omega) (by rw [f64_least]; omega) hrl
    rw [f64_least] at h5
    refine ⟨m', e', h3, h5, ?_⟩
    rw [h6, Nat.mul_assoc, ← Nat.pow_add]
    congr 2
    omega

theorem whole_back : ∀ N < 97, floatToIntVal .f64 (FloatKind.f64.encode (.number false N 0)) .i64 = some (N : Int) := by decide +kernel
theorem whole_back0 : floatToIntVal .f64 (FloatKind.f64.encode (.number true 0 0)) .i64 = some 0 := by decide +kernel

/-- 'float64(x)' of a number, and what math.Floor makes of it. -/
def wideN (x : Nat) : Nat := FloatKind.f64.encode (FloatKind.f32.decode x)
def floorN (y : Nat) : Nat := FloatKind.f64.encode ((FloatKind.f64.decode y).integral .down)
/-- The place N of a number that is not negative. -/
def placeN (x : Nat) : Nat := match FloatKind.f32.decode x with | .number _ m e => floorv m e | _ => 0
def PlaceOk (x : Nat) : Prop := floatToIntVal .f32 x .i64 = some (placeN x : Int) ∧ (∀ W, cvR .f32 .f64 x W = wideN x) ∧ cvN .f32 .f64 x = 0 ∧ (∃ s m e, FloatKind.f64.decode (wideN x) = .number s m e) ∧ floatToIntVal .f64 (floorN (wideN x)) .i64 = some (placeN x : Int)
/-- Is a number from 0 to the last index. -/
def inR (n x : Nat) : Bool := (FloatKind.f32.format.order x 0 == some .gt || FloatKind.f32.format.order x 0 == some .eq) && (FloatKind.f32.format.order x (floatOfInt .f32 ((n : Int) - 1)) == some .lt || FloatKind.f32.format.order x (floatOfInt .f32 ((n : Int) - 1)) == some .eq)

theorem last_iv : ∀ n : Nat, n < 97 → 1 ≤ n → Nn (floatOfInt .f32 ((n : Int) - 1)) ∧ iv (floatOfInt .f32 ((n : Int) - 1)) = (n - 1) * 2 ^ 149 := by
  unfold Nn
  decide +kernel

theorem ord_cases {a b : Int} (h : (some (compare a b) == some Ordering.gt || some (compare a b) == some Ordering.eq) = true) : b ≤ a := by
  rw [compare_int] at h
  split at h
  · exact absurd h (by decide)
  · omega
theorem ord_cases' {a b : Int} (h : (some (compare a b) == some Ordering.lt || some (compare a b) == some Ordering.eq) = true) : a ≤ b := by
  rw [compare_int] at h
  split at h
  · omega
  · split at h
    · omega
    · exact absurd h (by decide)

theorem place_ok {x n : Nat} (hn1 : 1 ≤ n) (hn : n ≤ 96) (h : inR n x = true) : placeN x < n ∧ PlaceOk x := by
  unfold inR at h
  rw [Bool.and_eq_true] at h
  obtain ⟨g1, g2⟩ := h
  obtain ⟨l1, l2⟩ := last_iv n (by omega) hn1
  have rl := nn_read l1
  cases hd : FloatKind.f32.decode x with
  | nan s t =>
    have : FloatKind.f32.format.read x = .nan s t := hd
    unfold Ieee.Format.order at g1
    rw [this] at g1
    exact absurd g1 (by simp [Ieee.Datum.order])
  | infinity s =>
    have hi : FloatKind.f32.format.read x = .infinity s := hd
    exfalso
    cases s
    · unfold Ieee.Format.order at g2
      have rl' : FloatKind.f32.format.read (floatOfInt .f32 ((n : Int) - 1)) = _ := rl
      rw [hi, rl'] at g2
      exact absurd g2 (by simp [Ieee.Datum.order])
    · unfold Ieee.Format.order at g1
      obtain ⟨p0, hp0⟩ := read_zero_word .f32 false
      have e0 : FloatKind.f32.format.word false 0 = 0 := rfl
      rw [e0] at hp0
      rw [hi, hp0] at g1
      exact absurd g1 (by simp [Ieee.Datum.order])
  | number s m e =>
    obtain ⟨b1, b2, b3⟩ := read32 hd
    have hr : FloatKind.f32.format.read x = .number s m e := hd
    obtain ⟨p0, hp0⟩ := read_zero_word .f32 false
    have e0 : FloatKind.f32.format.word false 0 = 0 := rfl
    rw [e0] at hp0
    rw [order_num hr hp0 (b := min e p0) (by omega) (by omega)] at g1
    have rl' : FloatKind.f32.format.read (floatOfInt .f32 ((n : Int) - 1)) = _ := rl
    have pl := pl_ge (floatOfInt .f32 ((n : Int) - 1))
    rw [order_num hr rl' (b := -149) b2 pl] at g2
    have c1 := ord_cases g1
    have c2 := ord_cases' g2
    have hz : sval false 0 p0 (min e p0) = 0 := by unfold sval Ieee.signed; simp
    rw [hz] at c1
    have hs0 : s = true → m = 0 := by
      intro hs
      subst hs
      unfold sval Ieee.signed at c1
      rw [if_pos rfl, Nat.shiftLeft_eq] at c1
      rcases Nat.eq_zero_or_pos m with h0 | h0
      · exact h0
      · exfalso
        have := Nat.mul_pos h0 (Nat.two_pow_pos (e - min e p0).toNat)
        omega
    have hup : m * 2 ^ (e + 149).toNat ≤ (n - 1) * 2 ^ 149 := by
      cases s with
      | true => rw [hs0 rfl]; simp
      | false =>
        unfold sval Ieee.signed at c2
        rw [if_neg (by simp), if_neg (by simp), Nat.shiftLeft_eq, Nat.shiftLeft_eq] at c2
        rw [← l2]
        unfold iv
        have e1 : (e - -149).toNat = (e + 149).toNat := by omega
        have e2 : (placeOf F32 (floatOfInt .f32 ((n : Int) - 1)) - -149).toNat = (placeOf F32 (floatOfInt .f32 ((n : Int) - 1)) + 149).toNat := by omega
        rw [e1] at c2
        rw [← e2]
        omega
    have hN : placeN x = floorv m e := by unfold placeN; rw [hd]
    have hlt : floorv m e ≤ n - 1 := by
      rw [floorv_at (b := 149) (by omega)]
      rw [show (e + ((149 : Nat) : Int)).toNat = (e + 149).toNat by omega]
      exact Nat.div_le_of_le_mul (by rw [Nat.mul_comm (2 ^ 149)]; exact hup)
    obtain ⟨m', e', w1, w2, w3⟩ := wide_read (s := s) b1 b2 b3
    have hY : wideN x = FloatKind.f64.format.nearest s m e := by unfold wideN; rw [hd]; rfl
    have hf : floorv m' e' = floorv m e := by
      rw [floorv_at (b := 1074) (by omega), floorv_at (b := 1074) (by omega)]
      rw [show (e' + ((1074 : Nat) : Int)).toNat = (e' + 1074).toNat by omega, show (e + ((1074 : Nat) : Int)).toNat = (e + 1074).toNat by omega, w3]
    have hcv := cvBits_num hd
    refine ⟨by omega, ?_, ?_, ?_, ?_, ?_⟩
    · unfold floatToIntVal
      rw [hd]
      unfold Ieee.Datum.toInt Ieee.Datum.integral
      simp only
      rw [cut_zero_way, ← hN]
      have hsg : Ieee.signed s (placeN x) 0 = (placeN x : Int) := by
        unfold Ieee.signed
        cases s with
        | false => simp
        | true => rw [hN, hs0 rfl]; simp [floorv]
      rw [hsg]
      rw [if_pos]
      constructor
      · have : IntKind.min .i64 = -9223372036854775808 := by decide
        omega
      · have : IntKind.max .i64 = 9223372036854775807 := by decide
        omega
    · intro W
      unfold cvR
      rw [hcv]
      unfold wideN
      rw [hd]; rfl
    · unfold cvN; rw [hcv]; rfl
    · exact ⟨s, m', e', by rw [hY]; exact w1⟩
    · unfold floorN
      have hy : FloatKind.f64.decode (wideN x) = .number s m' e' := by rw [hY]; exact w1
      rw [hy]
      unfold Ieee.Datum.integral
      simp only
      cases s with
      | false =>
        rw [cut_down_way, hf, ← hN]
        exact whole_back _ (by omega)
      | true =>
        have hm0 : m' = 0 := by
          rw [hs0 rfl, Nat.zero_mul] at w3
          rcases Nat.mul_eq_zero.1 w3 with h | h
          · exact h
          · exact absurd h (by have := Nat.two_pow_pos (e' + 1074).toNat; omega)
        subst hm0
        rw [cut_down_zero]
        have : placeN x = 0 := by rw [hN, hs0 rfl]; simp [floorv]
        rw [this]
        exact whole_back0
end Go.Proofs.YtjmpldcnhjgpkaaGreatDoor.Fl

/-
  What is behind the point of a number of 64 bits: plain facts.
-/
namespace Go.Proofs.YtjmpldcnhjgpkaaGreatDoor.Fl
open Go.RowKit
set_option linter.unusedVariables false

/-- A difference of numbers, if it is not negative. -/
theorem diff_up {k : FloatKind} {s t : Bool} {m n C : Nat} {i j : Int} (hi : k.format.leastPlace ≤ i) (hj : k.format.leastPlace ≤ j) (hC : C < k.format.infRung)
    (hs : ∃ V U : Nat, Ieee.signed s m (i - min i j).toNat + Ieee.signed t n (j - min i j).toNat = (V : Int) - (U : Int) ∧ U ≤ V ∧ (V - U) * 2 ^ (min i j - k.format.leastPlace).toNat ≤ vv k C) (h0 : s = false ∨ t = false) :
    ∃ R, R ≤ C ∧ cn k (k.format.write (.number (if Ieee.signed s m (i - min i j).toNat + Ieee.signed t n (j - min i j).toNat = 0 then s && t else decide (Ieee.signed s m (i - min i j).toNat + Ieee.signed t n (j - min i j).toNat < 0)) (Ieee.signed s m (i - min i j).toNat + Ieee.signed t n (j - min i j).toNat).natAbs (min i j))) = R := by
  obtain ⟨V, U, e, hle, hv⟩ := hs
  rw [e]
  have hsg : (if (V : Int) - (U : Int) = 0 then s && t else decide ((V : Int) - (U : Int) < 0)) = false := by
    split
    · rcases h0 with rfl | rfl
      · rfl
      · cases s <;> rfl
    · exact decide_eq_false (by omega)
  rw [hsg, show ((V : Int) - (U : Int)).natAbs = V - U by omega]
  have hr : rungOf k.format (V - U) (min i j) ≤ C := by
    refine rung_le k.format (NumLe.of (b := k.format.leastPlace) (by omega) (place_ge _ _) ?_)
    exact hv
  refine ⟨rungOf k.format (V - U) (min i j), hr, ?_⟩
  simp only [Ieee.Format.write]
  rw [nearest_rung, Nat.min_eq_left (by omega)]
  exact cn_num (isNan_word' (by omega))
theorem sgn_f (m u : Nat) : Ieee.signed false m u = ((m * 2 ^ u : Nat) : Int) := by unfold Ieee.signed; rw [if_neg (by simp), Nat.shiftLeft_eq]
theorem sgn_t (m u : Nat) : Ieee.signed true m u = -((m * 2 ^ u : Nat) : Int) := by unfold Ieee.signed; rw [if_pos rfl, Nat.shiftLeft_eq]
theorem at_least {k : FloatKind} {m : Nat} {i j : Int} (hi : k.format.leastPlace ≤ i) (hj : k.format.leastPlace ≤ j) : m * 2 ^ (i - min i j).toNat * 2 ^ (min i j - k.format.leastPlace).toNat = m * 2 ^ (i - k.format.leastPlace).toNat := by
  rw [Nat.mul_assoc, ← Nat.pow_add]; congr 2; omega
theorem at_least' {k : FloatKind} {m : Nat} {i j : Int} (hi : k.format.leastPlace ≤ i) (hj : k.format.leastPlace ≤ j) : m * 2 ^ (j - min i j).toNat * 2 ^ (min i j - k.format.leastPlace).toNat = m * 2 ^ (j - k.format.leastPlace).toNat := by
  rw [Nat.mul_assoc, ← Nat.pow_add]; congr 2; omega
/-- What is taken off a number that is not less. -/
theorem sub_pos {k : FloatKind} {r q C : Nat} (hr : r < k.format.infRung) (hq : q ≤ r) (hC : C < k.format.infRung) (hv : vv k r ≤ vv k C + vv k q) : ∃ R, R ≤ C ∧ fb .sub k r q = R := by
  have rx := read_pos hr
  have ry := read_pos (k := k) (r := q) (by omega)
  have pr := place_ge k.format r
  have pq := place_ge k.format q
  have hvv := vv_le (k := k) hq
  unfold fb floatBits Ieee.Format.sub
  simp only
  rw [rx, ry]
  simp only [Ieee.Datum.sum, Ieee.Datum.opposite, Option.map_some, Option.getD_some, Bool.not_false]
  refine diff_up pr pq hC ⟨_, _, by rw [sgn_f, sgn_t]; rfl, ?_, ?_⟩ (.inl rfl)
  · refine Nat.le_of_mul_le_mul_right ?_ (Nat.two_pow_pos (min (placeOf k.format r) (placeOf k.format q) - k.format.leastPlace).toNat)
    rw [at_least pr pq, at_least' pr pq]
    exact hvv
  · rw [Nat.sub_mul, at_least pr pq, at_least' pr pq]
    unfold vv at hv ⊢
    omega
/-- 1 and a number between -1 and 0. -/
theorem add_one_neg {r : Nat} (hr : r ≤ 4607182418800017408) : ∃ R, R ≤ 4607182418800017408 ∧ fb .add .f64 (FloatKind.f64.format.word true r) 4607182418800017408 = R := by
  have hi := d64_inf
  have rx := read_word (k := .f64) (s := true) (r := r) (by omega)
  have ry := read_pos (k := .f64) (r := 4607182418800017408) (by omega)
  have pr := place_ge FloatKind.f64.format r
  have pq := place_ge FloatKind.f64.format 4607182418800017408
  have hvv := vv_le (k := .f64) hr
  unfold fb floatBits Ieee.Format.add
  simp only
  rw [rx, ry]
  generalize hM : magOf FloatKind.f64.format 4607182418800017408 = M at *
  generalize hP : placeOf FloatKind.f64.format 4607182418800017408 = P at *
  have hv1 : vv .f64 4607182418800017408 = M * 2 ^ (P - FloatKind.f64.format.leastPlace).toNat := by unfold vv; rw [hM, hP]
  simp only [Ieee.Datum.sum, Option.map_some, Option.getD_some]
  refine diff_up (k := .f64) pr pq (by omega) ⟨M * 2 ^ (P - min (placeOf FloatKind.f64.format r) P).toNat, magOf FloatKind.f64.format r * 2 ^ (placeOf FloatKind.f64.format r - min (placeOf FloatKind.f64.format r) P).toNat, by rw [sgn_f, sgn_t]; omega, ?_, ?_⟩ (.inr rfl)
  · refine Nat.le_of_mul_le_mul_right ?_ (Nat.two_pow_pos (min (placeOf FloatKind.f64.format r) P - FloatKind.f64.format.leastPlace).toNat)
    rw [at_least (k := .f64) pr pq, at_least' (k := .f64) pr pq, ← hv1]
    exact hvv
  · rw [hv1, ← at_least' (k := .f64) (m := M) pr pq]
    exact Nat.mul_le_mul_right _ (Nat.sub_le _ _)
/-- The whole part of a number. -/
def frT (y : Nat) : Int := (floatToIntVal .f64 y .i64).getD 0
def fr0 (y : Nat) : Nat := fb .sub .f64 y (floatOfInt .f64 (frT y))
def frV (y : Nat) : Nat := if (FloatKind.f64.format.order (fr0 y) 0 == some .lt) = true then fb .add .f64 (fr0 y) 4607182418800017408 else fr0 y
theorem floor_lt {m c : Nat} {e : Int} {d : Nat} (he : -(c : Int) ≤ e) (h : m * 2 ^ (e + c).toNat < 2 ^ (d + c)) : floorv m e < 2 ^ d := by
  rw [floorv_at he, Nat.div_lt_iff_lt_mul (Nat.two_pow_pos _), ← Nat.pow_add]
  exact h
theorem trunc_val {y : Nat} {s : Bool} {m : Nat} {e : Int} (hy : FloatKind.f64.format.read y = .number s m e) (hb : floorv m e < 2 ^ 53) : floatToIntVal .f64 y .i64 = some (if s = true then -((floorv m e : Nat) : Int) else ((floorv m e : Nat) : Int)) := by
  have hd : FloatKind.f64.decode y = .number s m e := hy
  have h2 : (2 : Nat) ^ 53 = 9007199254740992 := by decide
  unfold floatToIntVal Ieee.Datum.toInt Ieee.Datum.integral
  rw [hd]
  simp only
  rw [cut_zero_way]
  have hmin : IntKind.i64.min = -9223372036854775808 := by decide +kernel
  have hmax : IntKind.i64.max = 9223372036854775807 := by decide +kernel
  cases s
  · rw [sgn_f, Nat.pow_zero, Nat.mul_one, if_pos (by rw [hmin, hmax]; omega), if_neg (by simp)]
  · rw [sgn_t, Nat.pow_zero, Nat.mul_one, if_pos (by rw [hmin, hmax]; omega), if_pos rfl]
/-- A whole number is written as it is. -/
theorem int_read {n : Int} (h : n.natAbs < 2 ^ 53) : ∃ m' e', FloatKind.f64.format.read (floatOfInt .f64 n) = .number (decide (n < 0)) m' e' ∧ -1074 ≤ e' ∧ e' ≤ 0 ∧ m' = n.natAbs * 2 ^ (0 - e').toNat := by
  have e0 : floatOfInt .f64 n = FloatKind.f64.format.nearest (decide (n < 0)) n.natAbs 0 := rfl
  rw [e0]
  by_cases h0 : n.natAbs = 0
  · rw [h0, nearest_zero]
    have h3 := read_word (k := .f64) (s := decide (n < 0)) (r := 0) (by rw [f64_inf]; omega)
    refine ⟨_, _, h3, ?_, ?_, ?_⟩
    · have := place_ge FloatKind.f64.format 0; rw [f64_least] at this; exact this
    · decide +kernel
    · have : magOf FloatKind.f64.format 0 = 0 := by decide +kernel
      rw [this, Nat.zero_mul]
  · have hl : n.natAbs.log2 ≤ 52 := by
      have := (Nat.log2_lt h0 (k := 53)).2 h
      omega
    have hrl : rungOf FloatKind.f64.format n.natAbs 0 < FloatKind.f64.format.infRung := by
      have hR : rungOf FloatKind.f64.format n.natAbs 0 ≤ 5183643171103440896 := by
        refine rung_pow _ (a := 52) (j := 76) ?_ ?_ (by omega)
        · decide +kernel
        · decide +kernel
      rw [f64_inf]
      omega
    obtain ⟨m', e', h3, h4, h5, h6⟩ := read_exact (k := .f64) (s := decide (n < 0)) h0 (by rw [f64_fb]; omega) (by rw [f64_least]; omega) hrl
    rw [f64_least] at h5
    exact ⟨m', e', h3, h5, h4, h6⟩
/-- What is left behind the whole part is less than 1. -/
theorem fr0_bd {y : Nat} {s : Bool} {m : Nat} {e : Int} (hy : FloatKind.f64.format.read y = .number s m e) (he : -1074 ≤ e) (hb : floorv m e < 2 ^ 53) :
    floatToIntVal .f64 y .i64 = some (frT y) ∧ Bd .f64 4607182418800017408 (fr0 y) := by
  have ht := trunc_val hy hb
  have hT : frT y = if s = true then -((floorv m e : Nat) : Int) else ((floorv m e : Nat) : Int) := by unfold frT; rw [ht]; rfl
  refine ⟨by rw [hT]; exact ht, ?_⟩
  have hna : (frT y).natAbs = floorv m e := by rw [hT]; cases s <;> simp
  obtain ⟨n, j, rn, hj1, hj2, hn⟩ := int_read (n := frT y) (by rw [hna]; exact hb)
  rw [hna] at hn
  unfold fr0 fb floatBits Ieee.Format.sub
  simp only
  rw [hy, rn]
  simp only [Ieee.Datum.sum, Ieee.Datum.opposite, Option.map_some, Option.getD_some, Ieee.Format.write]
  refine bd_nearest (rung_le FloatKind.f64.format ?_) (by rw [d64_inf]; omega)
  generalize hb0 : min e j = b
  have hb1 : b ≤ e := by omega
  have hb2 : b ≤ j := by omega
  have hU : n * 2 ^ (j - b).toNat = floorv m e * 2 ^ (-b).toNat := by
    rw [hn, Nat.mul_assoc, ← Nat.pow_add]; congr 2; omega
  have hF : floorv m e = m * 2 ^ (e - b).toNat / 2 ^ (-b).toNat := by
    have h := floorv_at (m := m) (e := e) (b := (-b).toNat) (by omega)
    rw [h, show (e + ((-b).toNat : Int)).toNat = (e - b).toNat by omega]
  have hp := Nat.two_pow_pos (-b).toNat
  have hdm := Nat.div_add_mod (m * 2 ^ (e - b).toNat) (2 ^ (-b).toNat)
  have hmod := Nat.mod_lt (m * 2 ^ (e - b).toNat) hp
  have habs : (Ieee.signed s m (e - b).toNat + Ieee.signed (!decide (frT y < 0)) n (j - b).toNat).natAbs < 2 ^ (-b).toNat := by
    rw [← hF, Nat.mul_comm] at hdm
    by_cases h0 : floorv m e = 0
    · have hU0 : n * 2 ^ (j - b).toNat = 0 := by rw [hU, h0, Nat.zero_mul]
      rw [h0, Nat.zero_mul] at hdm
      have hz : Ieee.signed (!decide (frT y < 0)) n (j - b).toNat = 0 := by
        cases (!decide (frT y < 0))
        · rw [sgn_f, hU0]; rfl
        · rw [sgn_t, hU0]; rfl
      rw [hz, Int.add_zero, signed_abs]
      omega
    · have hs : decide (frT y < 0) = s := by
        rw [hT]
        cases s
        · exact decide_eq_false (by simp)
        · exact decide_eq_true (by simp; omega)
      rw [hs]
      cases s
      · rw [show (!false) = true from rfl, sgn_f, sgn_t, hU]
        omega
      · rw [show (!true) = false from rfl, sgn_f, sgn_t, hU]
        omega
  have hone : magOf FloatKind.f64.format 4607182418800017408 = 2 ^ 52 ∧ placeOf FloatKind.f64.format 4607182418800017408 = -52 := by decide +kernel
  rw [hone.1, hone.2]
  refine NumLe.of (b := min b (-52)) (by omega) (by omega) ?_
  rw [← Nat.pow_add]
  generalize (Ieee.signed s m (e - b).toNat + Ieee.signed (!decide (frT y < 0)) n (j - b).toNat).natAbs = X at *
  have h9 : X * 2 ^ (b - min b (-52)).toNat ≤ 2 ^ (-b).toNat * 2 ^ (b - min b (-52)).toNat := Nat.mul_le_mul_right _ (by omega)
  rw [← Nat.pow_add] at h9
  refine Nat.le_trans h9 (Nat.pow_le_pow_right (by omega) (by omega))
/-- A number from 0 to a rung, or -0. -/
def Fr (C x : Nat) : Prop := x ≤ C ∨ x = 9223372036854775808
theorem frV_fr {y : Nat} (h : Bd .f64 4607182418800017408 (fr0 y)) : Fr 4607182418800017408 (frV y) := by
  obtain ⟨_, s, r, hx, hr⟩ := h
  have hsw : FloatKind.f64.format.signWeight = 9223372036854775808 := by decide +kernel
  unfold frV
  rw [hx]
  cases s with
  | false =>
    have hw : FloatKind.f64.format.word false r = r := rfl
    rw [hw, lt_pos (by rw [d64_inf]; omega) (by rw [d64_inf]; omega), decide_eq_false (Nat.not_lt_zero _), if_neg (by simp)]
    exact .inl hr
  | true =>
    by_cases h0 : r = 0
    · subst h0
      have : (FloatKind.f64.format.order (FloatKind.f64.format.word true 0) 0 == some .lt) = false := by decide +kernel
      rw [this, if_neg (by simp)]
      exact .inr (by decide +kernel)
    · split
      · obtain ⟨R, h1, h2⟩ := add_one_neg hr
        rw [h2]
        exact .inl h1
      · rename_i hn
        exfalso
        apply hn
        have rx := read_word (k := .f64) (s := true) (r := r) (by rw [d64_inf]; omega)
        have rz := read_pos (k := .f64) (r := 0) (by rw [d64_inf]; omega)
        have hm : magOf FloatKind.f64.format r ≠ 0 := fun e => h0 (mag_zero e)
        unfold Ieee.Format.order
        rw [rx, rz]
        have hz : magOf FloatKind.f64.format 0 = 0 := by decide +kernel
        simp only [Ieee.Datum.order]
        rw [hz, sgn_t, sgn_f, Nat.zero_mul, compare_int, if_pos]
        · rfl
        · have hp := Nat.two_pow_pos (placeOf FloatKind.f64.format r - min (placeOf FloatKind.f64.format r) (placeOf FloatKind.f64.format 0)).toNat
          have := Nat.mul_pos (Nat.pos_of_ne_zero hm) hp
          omega
end Go.Proofs.YtjmpldcnhjgpkaaGreatDoor.Fl

/-
  The point of the unit circle at some turns: the plain law.
-/
namespace Go.Proofs.YtjmpldcnhjgpkaaGreatDoor.Fl
open Go.RowKit
set_option linter.unusedVariables false

def gq (x : Nat) : Bool := (FloatKind.f64.format.order x 4598175219545276416 == some .gt || FloatKind.f64.format.order x 4598175219545276416 == some .eq)
theorem gq_pos {x : Nat} (h : x < 9218868437227405312) : gq x = decide (4598175219545276416 ≤ x) := ge_pos (by rw [d64_inf]; exact h) (by rw [d64_inf]; omega)
theorem gq_nz : gq 9223372036854775808 = false := by decide +kernel
def phI (y : Nat) : Nat → Nat
  | 0 => frV y
  | j + 1 => fb .sub .f64 (phI y j) 4598175219545276416
def capN (j : Nat) : Nat := if j = 0 then 4607182418800017408 else if j = 1 then 4604930618986332160 else if j = 2 then 4602678819172646912 else if j = 3 then 4598175219545276416 else 0
theorem cap_step : ∀ j : Nat, j < 4 → vv .f64 (capN j) ≤ vv .f64 (capN (j + 1)) + vv .f64 4598175219545276416 := by decide +kernel
theorem cap_le (j : Nat) : capN j ≤ 4607182418800017408 := by
  unfold capN
  split
  · omega
  · split
    · omega
    · split
      · omega
      · split
        · omega
        · omega
theorem phI_cap {y : Nat} (h : Fr 4607182418800017408 (frV y)) : ∀ j, j ≤ 4 → (∀ i, i < j → gq (phI y i) = true) → Fr (capN j) (phI y j)
  | 0, _, _ => h
  | j + 1, h4, hg => by
    have ih := phI_cap h j (by omega) (fun i hi => hg i (by omega))
    have hj := hg j (by omega)
    have hcl := cap_le j
    rcases ih with ih | ih
    · rw [gq_pos (by omega)] at hj
      have hq := of_decide_eq_true hj
      have hi := d64_inf
      have hc1 := cap_le (j + 1)
      obtain ⟨R, h1, h2⟩ := sub_pos (k := .f64) (r := phI y j) (q := 4598175219545276416) (C := capN (j + 1)) (by omega) hq (by omega) (Nat.le_trans (vv_le ih) (cap_step j (by omega)))
      exact .inl (by rw [phI, h2]; exact h1)
    · rw [ih, gq_nz] at hj
      cases hj
theorem gq_end {y : Nat} (h : Fr 4607182418800017408 (frV y)) (hg : ∀ i, i < 4 → gq (phI y i) = true) : gq (phI y 4) = false := by
  rcases phI_cap h 4 (Nat.le_refl _) hg with h1 | h1
  · have h0 : phI y 4 = 0 := Nat.le_zero.1 h1
    rw [h0]; decide +kernel
  · rw [h1]; exact gq_nz
def phQ (y : Nat) : Nat := if gq (phI y 0) = false then 0 else if gq (phI y 1) = false then 1 else if gq (phI y 2) = false then 2 else if gq (phI y 3) = false then 3 else 4
theorem phQ_of {y j : Nat} (hj : j ≤ 4) (h : ∀ i, i < j → gq (phI y i) = true) (hn : gq (phI y j) = false) : phQ y = j := by
  unfold phQ
  match j, hj, h, hn with
  | 0, _, _, hn => rw [if_pos hn]
  | 1, _, h, hn => rw [h 0 (by omega), if_neg (by simp), if_pos hn]
  | 2, _, h, hn => rw [h 0 (by omega), h 1 (by omega), if_neg (by simp), if_neg (by simp), if_pos hn]
  | 3, _, h, hn => rw [h 0 (by omega), h 1 (by omega), h 2 (by omega), if_neg (by simp), if_neg (by simp), if_neg (by simp), if_pos hn]
  | 4, _, h, hn => rw [h 0 (by omega), h 1 (by omega), h 2 (by omega), h 3 (by omega), if_neg (by simp), if_neg (by simp), if_neg (by simp), if_neg (by simp)]
def phF (y : Nat) : Nat := phI y (phQ y)
/-- What is left of the turns, and a quarter without it, are from 0 to a quarter. -/
theorem left_fr {x C : Nat} (h : Fr C x) (hC : C ≤ 4607182418800017408) (hn : gq x = false) : Fr 4598175219545276416 x ∧ Fr 4598175219545276416 (fb .sub .f64 4598175219545276416 x) := by
  rcases h with h | h
  · rw [gq_pos (by omega)] at hn
    have hlt := of_decide_eq_false hn
    have hi := d64_inf
    obtain ⟨R, h1, h2⟩ := sub_pos (k := .f64) (r := 4598175219545276416) (q := x) (C := 4598175219545276416) (by omega) (by omega) (by omega) (Nat.le_add_right _ _)
    exact ⟨.inl (by omega), .inl (by rw [h2]; exact h1)⟩
  · subst h
    exact ⟨.inr rfl, .inl (by decide +kernel)⟩
theorem sub_zero_pos {r : Nat} (h : r < 9218868437227405312) : fb .sub .f64 r 0 = r := by
  have hi : r < FloatKind.f64.format.infRung := by rw [d64_inf]; exact h
  have rx := read_pos (k := .f64) hi
  have ry := read_pos (k := .f64) (r := 0) (by rw [d64_inf]; omega)
  have hz : magOf FloatKind.f64.format 0 = 0 ∧ placeOf FloatKind.f64.format 0 = FloatKind.f64.format.leastPlace := by decide +kernel
  have pr := place_ge FloatKind.f64.format r
  unfold fb floatBits Ieee.Format.sub
  simp only
  rw [rx, ry, hz.1, hz.2]
  simp only [Ieee.Datum.sum, Ieee.Datum.opposite, Option.map_some, Option.getD_some, Ieee.Format.write]
  rw [Int.min_eq_right pr, Int.sub_self, sgn_f, show Ieee.signed (!false) 0 (Int.toNat 0) = 0 by rw [show (!false) = true from rfl, sgn_t, Nat.zero_mul]; rfl, Int.add_zero, Int.natAbs_natCast]
  have hsg : (if ((magOf FloatKind.f64.format r * 2 ^ (placeOf FloatKind.f64.format r - FloatKind.f64.format.leastPlace).toNat : Nat) : Int) = 0 then false && !false else decide (((magOf FloatKind.f64.format r * 2 ^ (placeOf FloatKind.f64.format r - FloatKind.f64.format.leastPlace).toNat : Nat) : Int) < 0)) = false := by
    split
    · rfl
    · exact decide_eq_false (by omega)
  rw [hsg]
  refine (cn_nearest (k := .f64) (s := false) (R := r) ?_ hi).trans rfl
  refine rung_num (b := FloatKind.f64.format.leastPlace) (Int.le_refl _) pr ?_
  rw [Int.sub_self, Int.toNat_zero, Nat.pow_zero, Nat.mul_one]
theorem int_zero : floatOfInt .f64 0 = 0 := by decide +kernel
theorem fr_sub {C x : Nat} (h : Fr C x) (hC : C ≤ 4607182418800017408) : fb .sub .f64 x (floatOfInt .f64 0) = x := by
  rw [int_zero]
  rcases h with h | h
  · exact sub_zero_pos (by omega)
  · subst h; decide +kernel
theorem q25_vv : ∃ d : Nat, vv .f64 4598175219545276416 = 2 ^ d ∧ d < 1074 := ⟨1072, by decide +kernel, by decide⟩
theorem fr_int {x : Nat} (h : Fr 4598175219545276416 x) : floatToIntVal .f64 x .i64 = some 0 := by
  rcases h with h | h
  · have hi : x < FloatKind.f64.format.infRung := by rw [d64_inf]; omega
    have rx := read_pos (k := .f64) hi
    have pr := place_ge FloatKind.f64.format x
    rw [d64_least] at pr
    have hv := vv_le (k := .f64) h
    obtain ⟨d, hq, hd⟩ := q25_vv
    have hf : floorv (magOf FloatKind.f64.format x) (placeOf FloatKind.f64.format x) < 2 ^ 0 := by
      obtain ⟨c, hc⟩ : ∃ c : Nat, c = 1074 := ⟨_, rfl⟩
      refine floor_lt (c := c) (by omega) ?_
      have h2 : vv .f64 x = magOf FloatKind.f64.format x * 2 ^ (placeOf FloatKind.f64.format x + c).toNat := by
        unfold vv; rw [d64_least, hc]; congr 2
      rw [← h2]
      refine Nat.lt_of_le_of_lt hv ?_
      rw [hq, Nat.zero_add]
      exact Nat.pow_lt_pow_right (by omega) (by omega)
    rw [trunc_val rx (Nat.lt_of_lt_of_le hf (by decide))]
    have : floorv (magOf FloatKind.f64.format x) (placeOf FloatKind.f64.format x) = 0 := by
      rw [Nat.pow_zero] at hf; omega
    rw [this]; rfl
  · subst h; decide +kernel
theorem fr_bd {x : Nat} (h : Fr 4598175219545276416 x) : Bd .f64 4607182418800017408 x := by
  rcases h with h | h
  · exact bd_pos (by omega) (by rw [d64_inf]; omega)
  · subst h
    exact ⟨by decide +kernel, true, 0, by decide +kernel, by decide⟩
/-- 'p' behind j rounds. -/
def sinP (u : Nat) : Nat → Nat
  | 0 => 4607182418800017408
  | j + 1 => fb .sub .f64 4607182418800017408 (fb .quo .f64 (fb .mul .f64 u (sinP u j)) (floatOfInt .f64 (2 * (8 - (j : Int)) * (2 * (8 - (j : Int)) + 1))))
def sinZ (x : Nat) : Nat := fb .mul .f64 x 4618760256179416344
def sinV (x : Nat) : Nat := fb .mul .f64 (sinZ x) (sinP (fb .mul .f64 (sinZ x) (sinZ x)) 8)
theorem den_lo : ∀ j : Nat, j < 8 → pw 2 ≤ floatOfInt .f64 (2 * (8 - ((j : Nat) : Int)) * (2 * (8 - ((j : Nat) : Int)) + 1)) ∧ floatOfInt .f64 (2 * (8 - ((j : Nat) : Int)) * (2 * (8 - ((j : Nat) : Int)) + 1)) < FloatKind.f64.format.infRung := by decide +kernel
theorem sin_pow : ∀ j : Nat, j < 8 → vv .f64 (pw 6) * vv .f64 (pw (5 * j)) ≤ vv .f64 (pw (6 + 5 * j)) * 2 ^ (-FloatKind.f64.format.leastPlace).toNat ∧ vv .f64 (pw (6 + 5 * j)) * 2 ^ (-FloatKind.f64.format.leastPlace).toNat ≤ vv .f64 (pw 2) * vv .f64 (pw (4 + 5 * j)) ∧ vv .f64 4607182418800017408 + vv .f64 (pw (4 + 5 * j)) ≤ vv .f64 (pw (5 * (j + 1))) ∧ pw (6 + 5 * j) < FloatKind.f64.format.infRung ∧ pw (4 + 5 * j) < FloatKind.f64.format.infRung ∧ pw (5 * (j + 1)) < FloatKind.f64.format.infRung ∧ vv .f64 (pw 2) ≠ 0 := by decide +kernel
theorem bd_sinP {u : Nat} (hu : Bd .f64 (pw 6) u) : ∀ j, j ≤ 8 → Bd .f64 (pw (5 * j)) (sinP u j)
  | 0, _ => bd_pos (show (4607182418800017408 : Nat) ≤ pw (5 * 0) by decide +kernel) (by decide +kernel)
  | j + 1, h => by
    obtain ⟨p1, p2, p3, p4, p5, p6, p7⟩ := sin_pow j (by omega)
    obtain ⟨d1, d2⟩ := den_lo j (by omega)
    have hm := bd_mul hu (bd_sinP hu j (by omega)) p4 p1
    have hq := bd_quo hm (⟨_, rfl, d1, d2⟩ : Lo .f64 (pw 2) _) p5 p7 p2
    exact bd_sub (bd_pos (Nat.le_refl 4607182418800017408) (by decide +kernel)) hq p6 p3
theorem bd_sin {x : Nat} (h : Fr 4598175219545276416 x) : Bd .f64 (pw 43) (sinV x) := by
  have hx := fr_bd h
  have hz : Bd .f64 (pw 3) (sinZ x) := bd_mul hx (bd_pos (R := pw 3) (by decide +kernel) (by decide +kernel)) (by decide +kernel) (by decide +kernel)
  have hu : Bd .f64 (pw 6) (fb .mul .f64 (sinZ x) (sinZ x)) := bd_mul hz hz (by decide +kernel) (by decide +kernel)
  exact bd_mul hz (bd_sinP hu 8 (Nat.le_refl _)) (by decide +kernel) (by decide +kernel)
theorem bd_neg {s : Nat} (h : Bd .f64 (pw 43) s) : Bd .f64 (pw 44) (fb .sub .f64 0 s) := bd_sub (bd_pos (R := pw 0) (by decide) (by decide +kernel)) h (by decide +kernel) (by decide +kernel)
theorem nar_small {z : Nat} (h : Bd .f64 (pw 44) z) : narOk z := narOk_bd (h.mono (by decide) (by decide +kernel))
theorem nar_sin {z : Nat} (h : Bd .f64 (pw 43) z) : narOk z := narOk_bd (h.mono (by decide) (by decide +kernel))
def phC (y : Nat) : Nat := sinV (fb .sub .f64 4598175219545276416 (phF y))
def phS (y : Nat) : Nat := sinV (phF y)
def phRe (y : Nat) : Nat := if phQ y = 1 then nar (fb .sub .f64 0 (phS y)) else if phQ y = 2 then nar (fb .sub .f64 0 (phC y)) else if phQ y = 3 then nar (phS y) else nar (phC y)
def phIm (y : Nat) : Nat := if phQ y = 1 then nar (phC y) else if phQ y = 2 then nar (fb .sub .f64 0 (phS y)) else if phQ y = 3 then nar (fb .sub .f64 0 (phC y)) else nar (phS y)
end Go.Proofs.YtjmpldcnhjgpkaaGreatDoor.Fl
