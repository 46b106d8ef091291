/-
  Means of turns, places between numbers and rates of bearings, of the signals that the laws draw.
-/
import Derived.Test.YtjmpldcnhjgpkaaGreatDoorGaF
import Derived.Test.YtjmpldcnhjgpkaaGreatDoorPhQ
import Derived.Test.YtjmpldcnhjgpkaaGreatDoorSeqB
import Derived.Test.YtjmpldcnhjgpkaaGreatDoorFourP
import Derived.Test.YtjmpldcnhjgpkaaGreatDoorBrg
import Derived.Test.YtjmpldcnhjgpkaaGreatDoorChP
import Derived.Test.YtjmpldcnhjgpkaaGreatDoorHelp
import Derived.Laws.ComplexArith
import Derived.BigGuardPart
import Derived.BigQuiet
namespace Go.Proofs.YtjmpldcnhjgpkaaGreatDoor
open Go.RowKit Mem Fl
set_option linter.unusedVariables false
set_option maxRecDepth 100000

theorem getD_mem {xs : List Nat} {i : Nat} (h : i < xs.length) : xs.getD i 0 ∈ xs := by
  rw [List.getD_eq_getElem?_getD, List.getElem?_eq_getElem h]; exact List.getElem_mem h
theorem pick_sg {xs : List Nat} (h : Sg xs) {p r : Nat} (hp : p ≤ xs.length) (hr : r < p) : Sg (pickTo xs p r xs.length) := by
  have l2 := h.l2
  refine ⟨fun x hx => ?_, ?_, ?_⟩
  · unfold pickTo at hx
    obtain ⟨i, hi, rfl⟩ := List.mem_map.1 hx
    have hi2 := List.mem_range.1 (List.mem_filter.1 hi).1
    exact h.at_ (getD_mem hi2)
  · have : xs.getD r 0 ∈ pickTo xs p r xs.length := by
      unfold pickTo
      exact List.mem_map.2 ⟨r, List.mem_filter.2 ⟨List.mem_range.2 (by omega), by rw [Nat.mod_eq_of_lt hr]; simp⟩, rfl⟩
    exact List.length_pos_of_mem this
  · have := pickTo_len xs p r xs.length
    omega
theorem sg_sig {xs : List Nat} (h : Sg xs) : isSig xs = true := by
  have l1 := h.l1
  have l2 := h.l2
  unfold isSig
  simp only [Bool.and_eq_true, decide_eq_true_eq, List.all_eq_true]
  exact ⟨⟨l1, by omega⟩, fun x hx => (qF_gr (h.at_ hx)).1.1⟩
theorem turn_at {xs : List Nat} (h : Sg xs) {p r : Nat} (hp : p ≤ xs.length) (hr : r < p) : fin .f32 ((turnL xs p).getD r 0) = true ∧ fv .f32 ((turnL xs p).getD r 0) ≤ 4 + 1 / 1000 ∧ -fv .f32 ((turnL xs p).getD r 0) ≤ 4 + 1 / 1000 := by
  have : (turnL xs p).getD r 0 = fmean (pickTo xs p r xs.length) := by
    unfold turnL
    rw [List.getD_eq_getElem?_getD, List.getElem?_map, List.getElem?_range hr]; rfl
  rw [this]
  exact mean_told (pick_sg h hp hr)
theorem turn_ok {xs : List Nat} (h : Sg xs) {p : Nat} (h1 : 1 ≤ p) (hp : p ≤ xs.length) : turnOk xs (p : Int) = true ∧ restOk xs (p : Int) = true := by
  have hs := sg_sig h
  have hi : inB (p : Int) 1 (xs.length : Int) = true := by unfold inB; simp; omega
  have ht : turnOk xs (p : Int) = true := by
    unfold turnOk
    rw [hs, hi]
    simp only [Bool.true_and, List.all_eq_true]
    intro y hy
    rw [Int.toNat_natCast] at hy
    unfold turnL at hy
    obtain ⟨r, hr, rfl⟩ := List.mem_map.1 hy
    exact (mean_told (pick_sg h hp (List.mem_range.1 hr))).1
  refine ⟨ht, ?_⟩
  unfold restOk
  rw [ht, Bool.true_and, Int.toNat_natCast, List.all_eq_true]
  intro y hy
  unfold restTo at hy
  obtain ⟨i, hi, rfl⟩ := List.mem_map.1 hy
  obtain ⟨a, b, c⟩ := turn_at h hp (Nat.mod_lt i (show 0 < p by omega))
  obtain ⟨⟨x1, _⟩, _, _, x2, x3⟩ := qF_gr (h.at_ (getD_mem (List.mem_range.1 hi)))
  have hb := big12
  exact (re_sub x1 a (by grind) (by grind)).1
/-- The difference of two numbers in 64 bits. -/
def gap64 (a b : Nat) : Nat := if (FloatKind.f64.format.order a b == some .lt) = true then fb .sub .f64 b a else fb .sub .f64 a b
theorem u64b : uu .f64 ≤ 1 / 1000000000000 := by decide +kernel
theorem big64b : (1000000000000 : Rat) ≤ big .f64 := by decide +kernel
theorem gap64_le {x y : Nat} {d : Rat} (hx : fin .f64 x = true) (hy : fin .f64 y = true) (h1 : fv .f64 x - fv .f64 y ≤ d) (h2 : fv .f64 y - fv .f64 x ≤ d) (hd : d ≤ 1000) : fin .f64 (gap64 x y) = true ∧ fv .f64 (gap64 x y) ≤ d + 1 / 1000000 := by
  have hb := big64b
  have hu := u64b
  obtain ⟨c1, c2⟩ := re_sub hx hy (by grind) (by grind)
  obtain ⟨d1, d2⟩ := re_sub hy hx (by grind) (by grind)
  have c3 := c2 1000 (by grind) (by grind)
  have d3 := d2 1000 (by grind) (by grind)
  unfold gap64
  split
  · exact ⟨d1, by grind⟩
  · exact ⟨c1, by grind⟩
theorem c0001' : fin .f64 4562254508917369340 = true ∧ 999 / 1000000 ≤ fv .f64 4562254508917369340 ∧ fv .f64 4562254508917369340 ≤ 1 := by decide +kernel
theorem f64_add {x y : Nat} (hx : fin .f64 x = true) (hy : fin .f64 y = true) (h1 : fv .f64 x + fv .f64 y ≤ 1000000) (h2 : -(fv .f64 x + fv .f64 y) ≤ 1000000) : fin .f64 (fb .add .f64 x y) = true ∧ Near (fv .f64 (fb .add .f64 x y)) (fv .f64 x + fv .f64 y) (1 / 1000000) := by
  have hb := big64b
  have hu := u64b
  obtain ⟨c1, c2⟩ := re_add hx hy (by grind) (by grind)
  have c3 := c2 1000000 h1 h2
  exact ⟨c1, by grind, by grind⟩
theorem f64_mul {x y : Nat} (hx : fin .f64 x = true) (hy : fin .f64 y = true) (h1 : fv .f64 x * fv .f64 y ≤ 1000000) (h2 : -(fv .f64 x * fv .f64 y) ≤ 1000000) : fin .f64 (fb .mul .f64 x y) = true ∧ Near (fv .f64 (fb .mul .f64 x y)) (fv .f64 x * fv .f64 y) (1 / 500000) := by
  have hb := big64b
  have hu := u64b
  have he : p2 (FloatKind.f64.format.leastPlace - 1) ≤ 1 / 1000000000 := by decide +kernel
  obtain ⟨c1, c2⟩ := re_mul hx hy (by grind) (by grind)
  have c3 := c2 1000000 h1 h2
  exact ⟨c1, by grind, by grind⟩
/-- What is left and the mean of the turn make the number, nearly. -/
theorem rest_near {xs : List Nat} (h : Sg xs) {p i : Nat} (h1 : 1 ≤ p) (hp : p ≤ xs.length) (hi : i < xs.length) :
    (FloatKind.f64.format.order (gap64 (fb .add .f64 (wide (fb .sub .f32 (xs.getD i 0) ((turnL xs p).getD (i % p) 0))) (wide ((turnL xs p).getD (i % p) 0))) (wide (xs.getD i 0))) 4562254508917369340 == some .gt) = false := by
  obtain ⟨a, b, c⟩ := turn_at h hp (Nat.mod_lt i (show 0 < p by omega))
  obtain ⟨⟨x1, _⟩, _, _, x2, x3⟩ := qF_gr (h.at_ (getD_mem hi))
  generalize (turnL xs p).getD (i % p) 0 = m at *
  generalize xs.getD i 0 = x at *
  have hb := big12
  obtain ⟨r1, r2⟩ := re_sub x1 a (by grind) (by grind)
  have r3 := r2 10 (by grind) (by grind)
  rw [uu32] at r3
  obtain ⟨w1, v1⟩ := re_wide r1
  obtain ⟨w2, v2⟩ := re_wide a
  obtain ⟨w3, v3⟩ := re_wide x1
  obtain ⟨s1, s2, s3⟩ := f64_add w1 w2 (by rw [v1, v2]; grind) (by rw [v1, v2]; grind)
  rw [v1, v2] at s2 s3
  obtain ⟨g1, g2⟩ := gap64_le (d := 1 / 10000) s1 w3 (by rw [v3]; grind) (by rw [v3]; grind) (by grind)
  obtain ⟨c1, c2, _⟩ := c0001'
  rw [ord_gt g1 c1, decide_eq_false_iff_not]
  refine Rat.not_lt.2 ?_
  grind
/-- Places. -/
def hfW (i : Nat) : Nat := fb .add .f32 (floatOfInt .f32 (i : Int)) 1056964608
theorem place_tab : ∀ i : Nat, i < 21 → placeN (floatOfInt .f32 (i : Int)) = i ∧ placeN (hfW i) = i ∧ fb .sub .f32 (floatOfInt .f32 (i : Int)) (floatOfInt .f32 (i : Int)) = 0 ∧ fb .sub .f32 (hfW i) (floatOfInt .f32 (i : Int)) = 1056964608 ∧ fin .f32 (floatOfInt .f32 (i : Int)) = true ∧ fin .f32 (hfW i) = true := by decide +kernel
theorem inR_tab : ∀ n : Nat, n < 22 → ∀ i : Nat, i < n → inR n (floatOfInt .f32 (i : Int)) = true ∧ (i + 1 < n → inR n (hfW i) = true) := by decide +kernel
def midV (k j : Nat) : Nat := fb .add .f32 (qF k) (fb .mul .f32 1056964608 (fb .sub .f32 (qF j) (qF k)))
def atV (k j : Nat) : Nat := fb .add .f32 (qF k) (fb .mul .f32 0 (fb .sub .f32 (qF j) (qF k)))
theorem mid_tab : ∀ k : Nat, k < 33 → ∀ j : Nat, j < 33 → fin .f32 (midV k j) = true ∧ fin .f32 (atV k j) = true ∧ (FloatKind.f32.format.order (atV k j) (qF k) != some .eq) = false ∧
    (FloatKind.f64.format.order (gap64 (wide (midV k j)) (fb .quo .f64 (fb .add .f64 (wide (qF k)) (wide (qF j))) 4611686018427387904)) 4562254508917369340 == some .gt) = false := by decide +kernel
/-- Rates of bearings. -/
def angW (a : Nat) : Nat := fb .quo .f32 (floatOfInt .f32 (a : Int)) 1115684864
def brChk (b j a : Nat) : Bool :=
  brO ((b + 1 : Nat) : Int) (shW (j + 1)) (angW a) &&
  (FloatKind.f64.format.order (gap64 (fb .add .f64 (wide ((brV ((b + 1 : Nat) : Int) (shW (j + 1)) (angW a)).getD 1 0)) (wide ((brV ((b + 1 : Nat) : Int) (shW (j + 1)) (angW a)).getD 2 0))) (floatOfInt .f64 ((b + 1 : Nat) : Int))) 4562254508917369340 == some .lt) &&
  (FloatKind.f64.format.order (gap64 (wide ((brV ((b + 1 : Nat) : Int) (shW (j + 1)) (angW a)).getD 1 0)) (fb .mul .f64 (floatOfInt .f64 ((b + 1 : Nat) : Int)) (wide ((brV ((b + 1 : Nat) : Int) (shW (j + 1)) (angW a)).getD 0 0)))) 4562254508917369340 == some .lt)
end Go.Proofs.YtjmpldcnhjgpkaaGreatDoor

/-
  Complex numbers: sums, and what both sides have for them.
-/
namespace Go.Proofs.YtjmpldcnhjgpkaaGreatDoor
open Go.RowKit Mem Fl
set_option linter.unusedVariables false
set_option maxRecDepth 100000

section
variable {P : Program}
theorem run_carith_any (op : BinOp) (hop : op = .add ∨ op = .sub ∨ op = .mul ∨ op = .quo) (k : FloatKind) (x y : Nat) (w : World) : (Op.Complex.arith op k x y).run P w = .ok (flR op k x y w) (w.drewN (flN op k x y)) := by
  simp [Op.Complex.arith, run_floatArith_any (P := P) op hop k x y w]
@[go_sem] theorem run_cadd (t : TypeId) (k : FloatKind) (a b c d : Nat) (w : World) : (binOp .add t (.complex k a b) (.complex k c d)).run P w = .ok (.complex k (flR .add k a c w) (flR .add k b d (w.drewN (flN .add k a c)))) ((w.drewN (flN .add k a c)).drewN (flN .add k b d)) := by
  simp [binOp, Op.complexOp, run_carith_any (P := P) .add (by simp)]
end
/-- What a scaled point looks like. -/
theorem scale_told {x X r : Nat} (h : cn .f32 x = X) (w : World) : cn .f32 (flR .mul .f32 x r w) = fb .mul .f32 X r := by rw [cn_flR, ← fb_cnl, h]
theorem plus_told {a c A C : Nat} (ha : cn .f32 a = A) (hc : cn .f32 c = C) (w : World) : cn .f32 (flR .add .f32 a c w) = fb .add .f32 A C := by rw [cn_flR, ← fb_cn, ha, hc]
def cfin (a b : Nat) : Bool := fin .f32 a && fin .f32 b
end Go.Proofs.YtjmpldcnhjgpkaaGreatDoor

/-
  The point of the unit circle at some turns: both parts, at any number of 64 bits.
-/
namespace Go.Proofs.YtjmpldcnhjgpkaaGreatDoor
open Go.RowKit Mem Fl
set_option linter.unusedVariables false
set_option maxRecDepth 100000

/-- Both parts, told. -/
def ph1 (y : Nat) : Nat := if 4841369599423283200 ≤ y % 9223372036854775808 then 1065353216 else phRe y
def ph2 (y : Nat) : Nat := if 4841369599423283200 ≤ y % 9223372036854775808 then 0 else phIm y
theorem neg_parts (x : Nat) : Op.negFloat .f64 x % 9223372036854775808 = x % 9223372036854775808 ∧ Op.negFloat .f64 x / 9223372036854775808 % 2 = 1 - x / 9223372036854775808 % 2 := by
  have e : (2 : Nat) ^ 63 = 9223372036854775808 := by decide +kernel
  have hn : Op.negFloat .f64 x = x ^^^ 2 ^ 63 := rfl
  rw [hn, ← e]
  refine ⟨by rw [Nat.xor_mod_two_pow, Nat.mod_self, Nat.xor_zero], ?_⟩
  rw [Nat.xor_div_two_pow, Nat.div_self (Nat.two_pow_pos _)]
  generalize x / 2 ^ 63 = q
  have := Nat.xor_mod_two_pow (a := q) (b := 1) (n := 1)
  simp only [Nat.pow_one] at this
  rw [this]
  rcases Nat.mod_two_eq_zero_or_one q with h | h <;> rw [h] <;> rfl
theorem neg_lt {x : Nat} (h : x < 18446744073709551616) : Op.negFloat .f64 x < 18446744073709551616 := by
  have e : (2 : Nat) ^ 64 = 18446744073709551616 := by decide +kernel
  have hn : Op.negFloat .f64 x = x ^^^ 2 ^ 63 := rfl
  rw [hn, ← e]
  exact Nat.xor_lt_two_pow (by rw [e]; exact h) (Nat.pow_lt_pow_right (by omega) (by omega))
theorem neg_word {s : Bool} {r : Nat} (h : r < 9218868437227405312) : Op.negFloat .f64 (FloatKind.f64.format.word s r) = FloatKind.f64.format.word (!s) r := by
  have hsw : FloatKind.f64.format.signWeight = 9223372036854775808 := by decide +kernel
  obtain ⟨h1, h2⟩ := neg_parts (FloatKind.f64.format.word s r)
  have h3 := neg_lt (word_mod (s := s) h).2
  generalize Op.negFloat .f64 (FloatKind.f64.format.word s r) = N at *
  unfold Ieee.Format.word at *
  rw [hsw] at *
  cases s
  · rw [if_neg (by simp)] at h1 h2
    rw [if_pos (show (!false) = true from rfl)]
    omega
  · rw [if_pos rfl] at h1 h2
    rw [if_neg (by simp)]
    omega
end Go.Proofs.YtjmpldcnhjgpkaaGreatDoor

/-
  Lists of complex numbers: are they all finite.
-/
namespace Go.Proofs.YtjmpldcnhjgpkaaGreatDoor
open Go.RowKit Mem Fl
set_option linter.unusedVariables false
set_option maxRecDepth 100000

/-- The cells of a list of complex numbers. -/
abbrev cl (xs : List (Nat × Nat)) : List Value := xs.map (fun p => Value.complex .f32 p.1 p.2)
def cfp (p : Nat × Nat) : Bool := cfin p.1 p.2
def cnp (p : Nat × Nat) : Nat × Nat := (cn .f32 p.1, cn .f32 p.2)
theorem cfp_cnp (p : Nat × Nat) : cfp (cnp p) = cfp p := by unfold cfp cnp cfin; rw [fin_cn, fin_cn]
theorem all_cfp_cn {zs ys : List (Nat × Nat)} (h : zs.map cnp = ys) : zs.all cfp = ys.all cfp := by
  rw [← h, List.all_map]
  congr 1
  funext x
  exact (cfp_cnp x).symm
theorem own_snocC {w : World} {b : Nat} {t : TypeId} {v : Value} {k x y : Nat} {zs : List (Nat × Nat)} (h : w.ownsRow b t 1 v k (cl zs ++ [.complex .f32 x y])) : w.ownsRow b t 1 v k (cl (zs ++ [(x, y)])) := by
  rw [cl, List.map_append]; exact h

end Go.Proofs.YtjmpldcnhjgpkaaGreatDoor

/-
  The lines of a signal: the plain law.
-/
namespace Go.Proofs.YtjmpldcnhjgpkaaGreatDoor
open Go.RowKit Mem Fl
set_option linter.unusedVariables false
set_option maxRecDepth 100000

/-- The turns of a place on a line. -/
def slQ (n k i : Nat) : Nat := fb .quo .f64 (floatOfInt .f64 ((k : Int) * (i : Int))) (floatOfInt .f64 (n : Int))
def slS (n k : Nat) (xs : List Nat) : Nat → Nat × Nat
  | 0 => (0, 0)
  | i + 1 => (fb .add .f32 (slS n k xs i).1 (fb .mul .f32 (ph1 (Op.negFloat .f64 (slQ n k i))) (xs.getD i 0)), fb .add .f32 (slS n k xs i).2 (fb .mul .f32 (ph2 (Op.negFloat .f64 (slQ n k i))) (xs.getD i 0)))
def slL (xs : List Nat) (m : Nat) : List (Nat × Nat) := (List.range m).map fun k => slS xs.length k xs xs.length
theorem slL_succ (xs : List Nat) (m : Nat) : slL xs (m + 1) = slL xs m ++ [slS xs.length m xs xs.length] := by
  unfold slL; rw [List.range_succ, List.map_append]; rfl
theorem slL_len (xs : List Nat) (m : Nat) : (slL xs m).length = m := by simp [slL]
def slO (xs : List Nat) : Bool := isSig xs && (slL xs (xs.length / 2 + 1)).all cfp
def slV (xs : List Nat) : List (Nat × Nat) := if slO xs = true then slL xs (xs.length / 2 + 1) else []
theorem slV_le (xs : List Nat) : (slV xs).length ≤ 100 := by
  unfold slV
  split
  · rename_i h
    unfold slO at h
    rw [Bool.and_eq_true] at h
    have := (isSig_len h.1).2
    rw [slL_len]; omega
  · simp
theorem sl_num : ∀ j : Nat, j < 4700 → floatOfInt .f64 ((j : Nat) : Int) ≤ pw 13 := by decide +kernel
theorem sl_den : ∀ j : Nat, j < 96 → pw 0 ≤ floatOfInt .f64 ((j + 1 : Nat) : Int) ∧ floatOfInt .f64 ((j + 1 : Nat) : Int) < FloatKind.f64.format.infRung := by decide +kernel
theorem slQ_bd {n k i : Nat} (hn : 1 ≤ n) (hn2 : n ≤ 96) (hk : k ≤ 48) (hi : i ≤ 96) : Bd .f64 (pw 13) (slQ n k i) := by
  have hb : k * i ≤ 48 * 96 := Nat.mul_le_mul hk hi
  have e : (k : Int) * (i : Int) = ((k * i : Nat) : Int) := (Int.natCast_mul k i).symm
  obtain ⟨j, rfl⟩ : ∃ j, n = j + 1 := ⟨n - 1, by omega⟩
  obtain ⟨d1, d2⟩ := sl_den j (by omega)
  unfold slQ
  rw [e]
  exact bd_quo (bd_pos (sl_num _ (by omega)) (by decide +kernel)) ⟨_, rfl, d1, d2⟩ (by decide +kernel) (by decide +kernel) (by decide +kernel)
theorem bd_nan64 {R x : Nat} (h : Bd .f64 R x) : isNan .f64 x = false := by
  obtain ⟨s, r, hr, _⟩ := h.read
  exact num_nan hr
theorem slQ_word {n k i : Nat} (hn : 1 ≤ n) (hn2 : n ≤ 96) (hk : k ≤ 48) (hi : i ≤ 96) (w : World) : flR .quo .f64 (floatOfInt .f64 ((k : Int) * (i : Int))) (floatOfInt .f64 (n : Int)) w = slQ n k i :=
  flR_bd rfl (bd_nan64 (slQ_bd hn hn2 hk hi)) w
theorem sl_neg {n k i : Nat} (hn : 1 ≤ n) (hn2 : n ≤ 96) (hk : k ≤ 48) (hi : i ≤ 96) : ∃ s r, Op.negFloat .f64 (slQ n k i) = FloatKind.f64.format.word s r ∧ r < 9218868437227405312 := by
  obtain ⟨hR, s, r, hw, hr⟩ := slQ_bd hn hn2 hk hi
  have hr2 : r < 9218868437227405312 := Nat.lt_of_le_of_lt hr (by decide +kernel)
  exact ⟨!s, r, by rw [hw]; exact neg_word hr2, hr2⟩
theorem sl_step {n k : Nat} {xs : List Nat} {i x : Nat} (hx : xs[i]? = some x) : slS n k xs (i + 1) = (fb .add .f32 (slS n k xs i).1 (fb .mul .f32 (ph1 (Op.negFloat .f64 (slQ n k i))) x), fb .add .f32 (slS n k xs i).2 (fb .mul .f32 (ph2 (Op.negFloat .f64 (slQ n k i))) x)) := by
  have : xs.getD i 0 = x := by rw [List.getD_eq_getElem?_getD, hx]; rfl
  rw [slS, this]
end Go.Proofs.YtjmpldcnhjgpkaaGreatDoor

/-
  Powers near to rates, of the signals and the rates that a law draws: the reference's walk.
-/
namespace Go.Proofs.YtjmpldcnhjgpkaaGreatDoor
open Go.RowKit Mem Fl
set_option linter.unusedVariables false
set_option maxRecDepth 100000

theorem fin_nn64 {x : Nat} (h : fin .f64 x = true) : isNan .f64 x = false := by
  cases hx : isNan .f64 x
  · rfl
  · rw [← fin_cn, cn_nan hx] at h; exact absurd h (by decide +kernel)
theorem cv_fn {a : Nat} (h : fin .f32 a = true) : (∀ W : World, cvR .f32 .f64 a W = wide a) ∧ cvN .f32 .f64 a = 0 := by
  obtain ⟨s, m, i, rx, _, _⟩ := fin_read h
  have hc := cvBits_num (show FloatKind.f32.decode a = .number s m i from rx)
  have hw : wide a = FloatKind.f64.encode (.number s m i) := by
    unfold wide
    rw [hc]
    exact cn_num (isNan_nearest' _ _ _ _)
  refine ⟨fun W => ?_, ?_⟩
  · unfold cvR; rw [hc, hw]; rfl
  · unfold cvN; rw [hc]; rfl
/-- A part of a line that is not great. -/
def Sm (x : Nat) : Prop := fin .f32 x = true ∧ fv .f32 x ≤ 9007199254740992 ∧ -fv .f32 x ≤ 9007199254740992
def pwW (a b : Nat) : Nat := fb .add .f64 (fb .mul .f64 (wide a) (wide a)) (fb .mul .f64 (wide b) (wide b))
def pwV (a b : Nat) : Nat := nar (pwW a b)
theorem bigC64 : (10000000000000000000000000000000000000 : Rat) ≤ big .f64 := by decide +kernel
theorem bigC32 : (10000000000000000000000000000000000000 : Rat) ≤ big .f32 := by decide +kernel
theorem sm_sq {a : Nat} (h : Sm a) : fin .f64 (wide a) = true ∧ fin .f64 (fb .mul .f64 (wide a) (wide a)) = true ∧ fv .f64 (fb .mul .f64 (wide a) (wide a)) ≤ 100000000000000000000000000000000 ∧ -fv .f64 (fb .mul .f64 (wide a) (wide a)) ≤ 100000000000000000000000000000000 := by
  obtain ⟨f, h1, h2⟩ := h
  obtain ⟨w1, v1⟩ := re_wide f
  have hs := sq_of_nn (fv .f32 a)
  have p := Rat.mul_nonneg (show 0 ≤ 9007199254740992 - fv .f32 a by grind) (show 0 ≤ 9007199254740992 + fv .f32 a by grind)
  have hm : fv .f32 a * fv .f32 a ≤ 90000000000000000000000000000000 := by grind
  have hb := bigC64
  have hu := u64b
  have he : p2 (FloatKind.f64.format.leastPlace - 1) ≤ 1 := by decide +kernel
  obtain ⟨c1, c2⟩ := re_mul w1 w1 (by rw [v1]; grind) (by rw [v1]; grind)
  have c3 := c2 90000000000000000000000000000000 (by rw [v1]; exact hm) (by rw [v1]; grind)
  rw [v1] at c3
  exact ⟨w1, c1, by grind, by grind⟩
/-- The power of a line. -/
theorem pw_told {a b : Nat} (ha : Sm a) (hb : Sm b) : fin .f64 (pwW a b) = true ∧ narOk (pwW a b) ∧ fin .f32 (pwV a b) = true ∧ fv .f32 (pwV a b) ≤ 400000000000000000000000000000000 ∧ -fv .f32 (pwV a b) ≤ 400000000000000000000000000000000 := by
  obtain ⟨_, a1, a2, a3⟩ := sm_sq ha
  obtain ⟨_, b1, b2, b3⟩ := sm_sq hb
  have hbg := bigC64
  have hu := u64b
  obtain ⟨s1, s2⟩ := re_add a1 b1 (by grind) (by grind)
  have s3 := s2 200000000000000000000000000000000 (by grind) (by grind)
  have hbg2 := bigC32
  have hW : fb .add .f64 (fb .mul .f64 (wide a) (wide a)) (fb .mul .f64 (wide b) (wide b)) = pwW a b := rfl
  rw [hW] at s1 s3
  obtain ⟨n1, n2, n3⟩ := re_nar s1 (by grind) (by grind)
  have n4 := n3 300000000000000000000000000000000 (by grind) (by grind)
  rw [uu32] at n4
  have he := e20
  have hV : nar (pwW a b) = pwV a b := rfl
  rw [hV] at n2 n4
  exact ⟨s1, n1, n2, by grind, by grind⟩
theorem mul_word {a : Nat} (h : Sm a) : (∀ W, flR .mul .f64 (wide a) (wide a) W = fb .mul .f64 (wide a) (wide a)) ∧ flN .mul .f64 (wide a) (wide a) = 0 := by
  have := fin_nn64 (sm_sq h).2.1
  exact ⟨fun W => flR_num this W, flN_num this⟩
theorem add_word {a b : Nat} (ha : Sm a) (hb : Sm b) : (∀ W, flR .add .f64 (fb .mul .f64 (wide a) (wide a)) (fb .mul .f64 (wide b) (wide b)) W = pwW a b) ∧ flN .add .f64 (fb .mul .f64 (wide a) (wide a)) (fb .mul .f64 (wide b) (wide b)) = 0 := by
  have := fin_nn64 (pw_told ha hb).1
  exact ⟨fun W => flR_num this W, flN_num this⟩
theorem nar_word {z : Nat} (h : narOk z) (hf : fin .f32 (nar z) = true) (hz : fin .f64 z = true) : (∀ W : World, cvR .f64 .f32 z W = nar z) := fun W => by
  have := nar_t (cn_num (fin_nn64 hz)) h W
  rw [← this]
  have h2 : isNan .f32 (cvR .f64 .f32 z W) = false := by
    cases hx : isNan .f32 (cvR .f64 .f32 z W)
    · rfl
    · rw [cn_nan hx] at this; rw [← this] at hf; exact absurd hf (by decide +kernel)
  exact (cn_num h2).symm
/-- Sums of powers from a line on. -/
def pwS (l : List (Nat × Nat)) : Nat := l.foldl (fun s p => fb .add .f32 s (pwV p.1 p.2)) 0
def SmL (l : List (Nat × Nat)) : Prop := ∀ p ∈ l, Sm p.1 ∧ Sm p.2
theorem pwS_snoc (l : List (Nat × Nat)) (p : Nat × Nat) : pwS (l ++ [p]) = fb .add .f32 (pwS l) (pwV p.1 p.2) := by unfold pwS; rw [List.foldl_append]; rfl
theorem pwS_fin : ∀ (l : List (Nat × Nat)) (s : Nat) (k : Nat), SmL l → fin .f32 s = true → fv .f32 s ≤ (k : Rat) * 500000000000000000000000000000000 → -fv .f32 s ≤ (k : Rat) * 500000000000000000000000000000000 → k + l.length ≤ 12 →
    let r := l.foldl (fun s p => fb .add .f32 s (pwV p.1 p.2)) s
    fin .f32 r = true ∧ fv .f32 r ≤ 12 * 500000000000000000000000000000000 ∧ -fv .f32 r ≤ 12 * 500000000000000000000000000000000
  | [], s, k, _, hs, h1, h2, hk => by
    have e : (k : Rat) ≤ 12 := by have := nat_le.2 (show k ≤ 12 by omega); exact this
    exact ⟨hs, by simp only [List.foldl_nil]; grind, by simp only [List.foldl_nil]; grind⟩
  | p :: l, s, k, hl, hs, h1, h2, hk => by
    obtain ⟨pa, pb⟩ := hl p (List.mem_cons_self ..)
    obtain ⟨_, _, p3, p5, p6⟩ := pw_told pa pb
    rw [List.length_cons] at hk
    have e : (k : Rat) ≤ 12 := by have := nat_le.2 (show k ≤ 12 by omega); exact this
    have hb := bigC32
    obtain ⟨a, b⟩ := re_add hs p3 (by grind) (by grind)
    have c := b 10000000000000000000000000000000000 (by grind) (by grind)
    rw [uu32] at c
    have ek : ((k + 1 : Nat) : Rat) = (k : Rat) + 1 := by rw [Rat.natCast_add]; rfl
    exact pwS_fin l _ (k + 1) (fun q hq => hl q (List.mem_cons_of_mem _ hq)) a (by rw [ek]; grind) (by rw [ek]; grind) (by omega)
theorem pwS_ok {l : List (Nat × Nat)} (h : SmL l) (hl : l.length ≤ 12) : fin .f32 (pwS l) = true ∧ fv .f32 (pwS l) ≤ 6000000000000000000000000000000000 ∧ -fv .f32 (pwS l) ≤ 6000000000000000000000000000000000 := by
  have f0 := f0'
  have := pwS_fin l 0 0 h f0.1 (by rw [f0.2]; decide +kernel) (by rw [f0.2]; decide +kernel) (by omega)
  have e : pwS l = l.foldl (fun s p => fb .add .f32 s (pwV p.1 p.2)) 0 := rfl
  rw [e]
  exact ⟨this.1, by grind, by grind⟩
/-- Numbers of at most a rung. -/
theorem bd_fv {k : FloatKind} {R x : Nat} (h : Bd k R x) : fin k x = true ∧ fv k x ≤ (vv k R : Rat) * p2 k.format.leastPlace ∧ -fv k x ≤ (vv k R : Rat) * p2 k.format.leastPlace := by
  obtain ⟨hR, s, r, rfl, hr⟩ := h
  have hrd := read_word (k := k) (s := s) (r := r) (by omega)
  refine ⟨(fin_iff _ _).2 ⟨_, _, _, hrd⟩, ?_⟩
  rw [fv_num hrd]
  have e : (magOf k.format r : Rat) * p2 (placeOf k.format r) = (vv k r : Rat) * p2 k.format.leastPlace := by
    unfold vv
    have hp := place_ge k.format r
    rw [Rat.natCast_mul, ← p2_toNat (by omega), Rat.mul_assoc, ← p2_add]
    congr 2; omega
  rw [e]
  have hm := Rat.mul_le_mul_of_nonneg_right (nat_le.2 (vv_le (k := k) hr)) (p2_nn k.format.leastPlace)
  have hn : 0 ≤ (vv k r : Rat) * p2 k.format.leastPlace := Rat.mul_nonneg Rat.natCast_nonneg (p2_nn _)
  rcases sg_cases s with h | h <;> rw [h] <;> constructor <;> grind
theorem pw44 : (vv .f64 (pw 44) : Rat) * p2 FloatKind.f64.format.leastPlace = 17592186044416 := by decide +kernel
theorem nar_44 {z : Nat} (h : Bd .f64 (pw 44) z) : fin .f32 (nar z) = true ∧ fv .f32 (nar z) ≤ 20000000000000 ∧ -fv .f32 (nar z) ≤ 20000000000000 := by
  obtain ⟨a, b, c⟩ := bd_fv h
  rw [pw44] at b c
  have hb := bigC32
  obtain ⟨_, n2, n3⟩ := re_nar a (by grind) (by grind)
  have n4 := n3 17592186044416 b c
  rw [uu32] at n4
  have he := e20
  exact ⟨n2, by grind, by grind⟩
theorem bd_43 {z : Nat} (h : Bd .f64 (pw 43) z) : Bd .f64 (pw 44) z := h.mono (by decide) (by decide +kernel)
/-- A part of a phasor, roughly. -/
def Ph (x : Nat) : Prop := fin .f32 x = true ∧ fv .f32 x ≤ 20000000000000 ∧ -fv .f32 x ≤ 20000000000000
theorem ph_rough {s : Bool} {r y : Nat} (hy : y = FloatKind.f64.format.word s r) (hr : r < 9218868437227405312) : Ph (ph1 y) ∧ Ph (ph2 y) := by
  have hm := (word_mod (s := s) hr).1
  rw [← hy] at hm
  by_cases hb : 4841369599423283200 ≤ r
  · unfold ph1 ph2
    rw [hm, if_pos hb, if_pos hb]
    exact ⟨⟨by decide +kernel, by decide +kernel, by decide +kernel⟩, ⟨by decide +kernel, by decide +kernel, by decide +kernel⟩⟩
  · have h1 : ph1 y = phRe y := by unfold ph1; rw [hm, if_neg hb]
    have h2 : ph2 y = phIm y := by unfold ph2; rw [hm, if_neg hb]
    rw [h1, h2]
    have hfr := (small_facts (s := s) (show r < 4841369599423283200 by omega)).2.1
    rw [← hy] at hfr
    have hj : ∃ j, j ≤ 4 ∧ (∀ i, i < j → gq (phI y i) = true) ∧ gq (phI y j) = false := by
      by_cases g0 : gq (phI y 0) = true
      · by_cases g1 : gq (phI y 1) = true
        · by_cases g2 : gq (phI y 2) = true
          · by_cases g3 : gq (phI y 3) = true
            · have hall : ∀ i, i < 4 → gq (phI y i) = true := fun i hi => by
                rcases (by omega : i = 0 ∨ i = 1 ∨ i = 2 ∨ i = 3) with rfl | rfl | rfl | rfl <;> assumption
              exact ⟨4, by omega, hall, gq_end hfr hall⟩
            · exact ⟨3, by omega, fun i hi => by rcases (by omega : i = 0 ∨ i = 1 ∨ i = 2) with rfl | rfl | rfl <;> assumption, by simpa using g3⟩
          · exact ⟨2, by omega, fun i hi => by rcases (by omega : i = 0 ∨ i = 1) with rfl | rfl <;> assumption, by simpa using g2⟩
        · exact ⟨1, by omega, fun i hi => by rcases (by omega : i = 0) with rfl; assumption, by simpa using g1⟩
      · exact ⟨0, by omega, fun i hi => absurd hi (Nat.not_lt_zero _), by simpa using g0⟩
    obtain ⟨j, hj4, hall, hgj⟩ := hj
    have hQ := phQ_of hj4 hall hgj
    obtain ⟨fF, fC⟩ := left_fr (phI_cap hfr j hj4 hall) (cap_le j) hgj
    have bS := bd_sin fF
    have bC := bd_sin fC
    have eS : sinV (phI y j) = phS y := by unfold phS phF; rw [hQ]
    have eC : sinV (fb .sub .f64 4598175219545276416 (phI y j)) = phC y := by unfold phC phF; rw [hQ]
    rw [eS] at bS
    rw [eC] at bC
    have n1 := nar_44 (bd_43 bS)
    have n2 := nar_44 (bd_43 bC)
    have n3 := nar_44 (bd_neg bS)
    have n4 := nar_44 (bd_neg bC)
    unfold phRe phIm
    constructor
    · split
      · exact n3
      · split
        · exact n4
        · split
          · exact n1
          · exact n2
    · split
      · exact n2
      · split
        · exact n3
        · split
          · exact n4
          · exact n1
/-- Lines of the signals that the laws draw. -/
theorem line_part {p x s : Nat} {k : Nat} (hp : Ph p) (hx : ∃ q, q < 33 ∧ x = qF q) (hs : fin .f32 s = true ∧ fv .f32 s ≤ (k : Rat) * 200000000000000 ∧ -fv .f32 s ≤ (k : Rat) * 200000000000000) (hk : k < 21) :
    fin .f32 (fb .add .f32 s (fb .mul .f32 p x)) = true ∧ fv .f32 (fb .add .f32 s (fb .mul .f32 p x)) ≤ ((k + 1 : Nat) : Rat) * 200000000000000 ∧ -fv .f32 (fb .add .f32 s (fb .mul .f32 p x)) ≤ ((k + 1 : Nat) : Rat) * 200000000000000 := by
  obtain ⟨⟨x1, _⟩, _, _, x2, x3⟩ := qF_gr hx
  obtain ⟨p1, p2', p3⟩ := hp
  obtain ⟨s1, s2, s3⟩ := hs
  have hb := bigC32
  have he := e20
  have q1 := Rat.mul_nonneg (show 0 ≤ 20000000000000 - fv .f32 p by grind) (show 0 ≤ 4 + fv .f32 x by grind)
  have q2 := Rat.mul_nonneg (show 0 ≤ 20000000000000 + fv .f32 p by grind) (show 0 ≤ 4 - fv .f32 x by grind)
  have q3 := Rat.mul_nonneg (show 0 ≤ 20000000000000 - fv .f32 p by grind) (show 0 ≤ 4 - fv .f32 x by grind)
  have q4 := Rat.mul_nonneg (show 0 ≤ 20000000000000 + fv .f32 p by grind) (show 0 ≤ 4 + fv .f32 x by grind)
  have m1 : fv .f32 p * fv .f32 x ≤ 80000000000000 := by grind
  have m2 : -(fv .f32 p * fv .f32 x) ≤ 80000000000000 := by grind
  clear q1 q2 q3 q4
  obtain ⟨a, b⟩ := re_mul p1 x1 (by grind) (by grind)
  have c := b 80000000000000 m1 m2
  rw [uu32, lp32] at c
  have ek : ((k + 1 : Nat) : Rat) = (k : Rat) + 1 := by rw [Rat.natCast_add]; rfl
  have e21 : (k : Rat) ≤ 21 := nat_21 (by omega)
  obtain ⟨d, e⟩ := re_add s1 a (by grind) (by grind)
  have f := e 5000000000000000 (by grind) (by grind)
  rw [uu32] at f
  exact ⟨d, by rw [ek]; grind, by rw [ek]; grind⟩
theorem line_ok {xs : List Nat} (h : Sg xs) {k : Nat} (hk : k ≤ 48) : ∀ i, i ≤ xs.length →
    (fin .f32 (slS xs.length k xs i).1 = true ∧ fv .f32 (slS xs.length k xs i).1 ≤ (i : Rat) * 200000000000000 ∧ -fv .f32 (slS xs.length k xs i).1 ≤ (i : Rat) * 200000000000000) ∧
    (fin .f32 (slS xs.length k xs i).2 = true ∧ fv .f32 (slS xs.length k xs i).2 ≤ (i : Rat) * 200000000000000 ∧ -fv .f32 (slS xs.length k xs i).2 ≤ (i : Rat) * 200000000000000)
  | 0, _ => by
    have f0 := f0'
    have e0 : ((0 : Nat) : Rat) = 0 := rfl
    simp only [slS]
    rw [f0.2, e0]
    exact ⟨⟨f0.1, by decide +kernel, by decide +kernel⟩, ⟨f0.1, by decide +kernel, by decide +kernel⟩⟩
  | i + 1, hi => by
    obtain ⟨h1, h2⟩ := line_ok h hk i (by omega)
    have l2 := h.l2
    have hx := h.at_ (getD_mem (show i < xs.length by omega))
    obtain ⟨s, r, hw, hr⟩ := sl_neg (n := xs.length) (k := k) (i := i) h.l1 (by omega) hk (by omega)
    obtain ⟨p1, p2'⟩ := ph_rough hw hr
    simp only [slS]
    exact ⟨line_part p1 hx h1 (by omega), line_part p2' hx h2 (by omega)⟩
theorem lines_sm {xs : List Nat} (h : Sg xs) : SmL (slL xs (xs.length / 2 + 1)) ∧ slO xs = true := by
  have l2 := h.l2
  have hs : SmL (slL xs (xs.length / 2 + 1)) := fun p hp => by
    unfold slL at hp
    obtain ⟨k, hk, rfl⟩ := List.mem_map.1 hp
    have hk := List.mem_range.1 hk
    obtain ⟨⟨a1, a2, a3⟩, b1, b2, b3⟩ := line_ok h (k := k) (by omega) xs.length (Nat.le_refl _)
    have e21 := nat_21 l2
    exact ⟨⟨a1, by grind, by grind⟩, ⟨b1, by grind, by grind⟩⟩
  refine ⟨hs, ?_⟩
  unfold slO
  rw [sg_sig h, Bool.true_and, List.all_eq_true]
  intro p hp
  obtain ⟨⟨a, _⟩, b, _⟩ := hs p hp
  unfold cfp
  simp [cfin, a, b]
end Go.Proofs.YtjmpldcnhjgpkaaGreatDoor
namespace Go.Proofs.YtjmpldcnhjgpkaaGreatDoor
open Go.RowKit Mem Fl
set_option linter.unusedVariables false
set_option maxRecDepth 100000

def ceilN (y : Nat) : Nat := FloatKind.f64.encode ((FloatKind.f64.decode y).integral .up)
section
variable {P : Program} {f : FuncId} {fn : Func}
theorem run_call_ceil (hf : P.funcs[f]? = some fn) (hname : (fn.name == "runtime.NumGoroutine") = false) (hb : fn.body.isNone = true) (hn : Extern.findNext fn = none) (he : Extern.find fn = some (Extern.MathFloor.toIntegral "math.archCeil" .up)) {y : Nat} {s : Bool} {m : Nat} {e : Int} (hy : FloatKind.f64.decode y = .number s m e) (w : World) :
    (callFunc f #[.float .f64 y]).run P w = .ok (.value (.float .f64 (ceilN y))) w := by
  rw [run_callFunc_extern hf hname hb hn he]
  change (Sem.run P (match FloatKind.f64.decode y with
    | .nan s t =>
      if FloatKind.f64.format.quiet t = t then pure (Value.float .f64 y) else do
      let kept ← choose (.extern "math.Floor,Ceil,Trunc,RoundToEven.signallingNaN kept" 2)
      pure (Value.float .f64 (if kept == 1 then y else FloatKind.f64.encode (.nan s (FloatKind.f64.format.quiet t))))
    | d => pure (Value.float .f64 (FloatKind.f64.encode (d.integral .up)))) w).andThen _ = _
  unfold ceilN
  rw [hy]
  rfl
end
/-- Lines that are told are told to the word. -/
theorem told_lines {zs L : List (Nat × Nat)} (h : zs.map cnp = L) (hs : SmL L) : zs = L := by
  subst h
  have : ∀ z ∈ zs, cnp z = z := fun z hz => by
    obtain ⟨⟨a, _⟩, b, _⟩ := hs _ (List.mem_map_of_mem hz)
    unfold cnp at a b ⊢
    simp only at a b
    have k1 : ∀ x, fin .f32 (cn .f32 x) = true → cn .f32 x = x := fun x hx => by
      have : isNan .f32 x = false := by
        cases h : isNan .f32 x
        · rfl
        · rw [cn_nan h] at hx; exact absurd hx (by decide +kernel)
      exact cn_num this
    rw [k1 _ a, k1 _ b]
  have h2 := List.map_congr_left this
  rw [h2, List.map_id']
theorem pw_take {L : List (Nat × Nat)} {k : Nat} {p : Nat × Nat} (h : L[k]? = some p) : pwS (L.take (k + 1)) = fb .add .f32 (pwS (L.take k)) (pwV p.1 p.2) := by
  rw [take_eq h, pwS_snoc]
theorem SmL.take {L : List (Nat × Nat)} (h : SmL L) (k : Nat) : SmL (L.take k) := fun p hp => h p (List.mem_of_mem_take hp)
theorem SmL.drop {L : List (Nat × Nat)} (h : SmL L) (k : Nat) : SmL (L.drop k) := fun p hp => h p (List.mem_of_mem_drop hp)
theorem fin_n32 {x : Nat} (h : fin .f32 x = true) : isNan .f32 x = false := by
  cases hx : isNan .f32 x
  · rfl
  · rw [← fin_cn, cn_nan hx] at h; exact absurd h (by decide +kernel)
/-- A mean of powers. -/
def pwM (L : List (Nat × Nat)) (n : Nat) : Nat := fb .quo .f32 (pwS L) (floatOfInt .f32 (n : Int))
theorem pwM_fin {L : List (Nat × Nat)} {n : Nat} (h : SmL L) (hl : L.length ≤ 12) (h1 : 1 ≤ n) (h2 : n ≤ 100) : fin .f32 (pwM L n) = true := by
  obtain ⟨a, b, c⟩ := pwS_ok h hl
  obtain ⟨fn, vn⟩ := n_fin h2
  have n1 := natpos h1
  have hnp : (0 : Rat) < (n : Rat) := by grind
  have hv : fv .f32 (pwS L) / (n : Rat) * (n : Rat) = fv .f32 (pwS L) := Rat.div_mul_cancel (Rat.ne_of_gt hnp)
  have v1 : fv .f32 (pwS L) / (n : Rat) ≤ 6000000000000000000000000000000000 := Rat.le_of_mul_le_mul_right (c := (n : Rat)) (by rw [hv]; grind) hnp
  have v2 : -(fv .f32 (pwS L) / (n : Rat)) ≤ 6000000000000000000000000000000000 := Rat.le_of_mul_le_mul_right (c := (n : Rat)) (by rw [Rat.neg_mul, hv]; grind) hnp
  have hb := bigC32
  exact (re_quo a fn (by rw [vn]; exact Rat.ne_of_gt hnp) (by rw [vn]; grind) (by rw [vn]; grind)).1
/-- What the two rates make of a length. -/
def rtX (n : Nat) : Nat := fb .mul .f32 1056964608 (floatOfInt .f32 (n : Int))
def rtY (n : Nat) : Nat := fb .sub .f64 (wide (rtX n)) 4602678819172646912
theorem rt_tab : ∀ n : Nat, n < 22 → 1 ≤ n → fb .mul .f32 0 (floatOfInt .f32 (n : Int)) = 0 ∧ fin .f32 (rtX n) = true ∧ fin .f64 (rtY n) = true ∧ floatToIntVal .f64 (ceilN (rtY n)) .i64 = some ((n / 2 : Nat) : Int) ∧
    floatToIntVal .f32 (rtX n) .i64 = some ((n / 2 : Nat) : Int) ∧ fin .f32 (fb .sub .f32 (rtX n) (floatOfInt .f32 ((n / 2 : Nat) : Int))) = true ∧ (FloatKind.f32.format.order (fb .sub .f32 (rtX n) (floatOfInt .f32 ((n / 2 : Nat) : Int))) 1056964608 == some .gt) = false := by decide +kernel
theorem rt_zero : wide 0 = 0 ∧ fin .f64 (fb .sub .f64 0 4602678819172646912) = true ∧ floatToIntVal .f64 (ceilN (fb .sub .f64 0 4602678819172646912)) .i64 = some 0 ∧ floatToIntVal .f32 0 .i64 = some 0 ∧ fin .f32 (fb .sub .f32 0 (floatOfInt .f32 0)) = true ∧ (FloatKind.f32.format.order (fb .sub .f32 0 (floatOfInt .f32 0)) 1056964608 == some .gt) = false := by decide +kernel
theorem rt_ord : (FloatKind.f32.format.order 0 0 == some .gt || FloatKind.f32.format.order 0 0 == some .eq) = true ∧ (FloatKind.f32.format.order 0 1056964608 == some .lt || FloatKind.f32.format.order 0 1056964608 == some .eq) = true ∧
    (FloatKind.f32.format.order 1056964608 0 == some .gt || FloatKind.f32.format.order 1056964608 0 == some .eq) = true ∧ (FloatKind.f32.format.order 1056964608 1056964608 == some .lt || FloatKind.f32.format.order 1056964608 1056964608 == some .eq) = true := by decide +kernel
end Go.Proofs.YtjmpldcnhjgpkaaGreatDoor
namespace Go.Proofs.YtjmpldcnhjgpkaaGreatDoor
open Go.RowKit Mem Fl
set_option linter.unusedVariables false
set_option maxRecDepth 100000

def rpA (xs : List Nat) : Nat := pwM ((slL xs (xs.length / 2 + 1)).take 9) xs.length
def rpB (xs : List Nat) : Nat := pwM ((slL xs (xs.length / 2 + 1)).drop (xs.length / 2 - 8)) xs.length
theorem rpAB_fin {xs : List Nat} (h : Sg xs) : fin .f32 (rpA xs) = true ∧ fin .f32 (rpB xs) = true := by
  have l2 := h.l2
  have hs := (lines_sm h).1
  have hl := slL_len xs (xs.length / 2 + 1)
  exact ⟨pwM_fin (hs.take 9) (by rw [List.length_take, hl]; omega) h.l1 (by omega), pwM_fin (hs.drop _) (by rw [List.length_drop, hl]; omega) h.l1 (by omega)⟩
theorem own_cap2 {w : World} {base : Nat} {e : TypeId} {size n c : Nat} {A : Option Addr} {xs : List Value} (h : w.ownsRow base e size (.slice A n c) n xs) : n ≤ c := by
  rcases h.2 with ⟨h1, h2⟩ | ⟨g1, c1, cur, h1, _, _, h2, _⟩
  · omega
  · injection h1 with _ _ h4; omega
/-- A part of a row. -/
theorem reads_cutC {w : World} {B g m lo hi : Nat} {L : List (Nat × Nat)} (h : Reads w B 1 (some ⟨g, 0, none⟩) m (cl L)) (h1 : lo ≤ hi) (h2 : hi ≤ m) : Reads w B 1 (some ⟨g, lo, none⟩) (hi - lo) (cl ((L.take hi).drop lo)) := by
  have hl := h.map_len
  refine ⟨by unfold cl; simp; omega, fun h0 => ?_⟩
  obtain ⟨ad, e, hb, hc⟩ := h.2 (by omega)
  injection e with e
  subst e
  refine ⟨⟨g, lo, none⟩, rfl, hb, fun j u hu => ?_⟩
  unfold cl at hu hc
  rw [List.getElem?_map, List.getElem?_drop, List.getElem?_take] at hu
  split at hu
  · have := hc (lo + j) u (by rw [List.getElem?_map]; exact hu)
    rw [Addr.add_lit] at this ⊢
    rw [← this, Nat.zero_add]
  · cases hu
end Go.Proofs.YtjmpldcnhjgpkaaGreatDoor
namespace Go.Proofs.YtjmpldcnhjgpkaaGreatDoor
open Go.RowKit Mem Fl
set_option linter.unusedVariables false
set_option maxRecDepth 100000

theorem part_snoc {L : List (Nat × Nat)} {lo k : Nat} {p : Nat × Nat} (h : L[k]? = some p) (hlo : lo ≤ k) : (L.take (k + 1)).drop lo = (L.take k).drop lo ++ [p] := by
  rw [take_eq h, List.drop_append_of_le_length]
  rw [List.length_take]
  have := (List.getElem?_eq_some_iff.1 h).1
  omega
theorem snoc_rate {RA RB : Nat} {i : Nat} {R : Nat} (h : [RA, RB][i]? = some R) : [RA, RB].take i ++ [R] = [RA, RB].take (i + 1) := (take_eq h).symm
end Go.Proofs.YtjmpldcnhjgpkaaGreatDoor

/-
  A region that draws its order, whose operations only read and whose callees leave what was there: walked once. The class of worlds: those in which what was there still lies.
-/
namespace Go.Proofs.YtjmpldcnhjgpkaaGreatDoor
open Go.RowKit Mem
set_option linter.unusedVariables false

structure BelW (w : World) where
  v : World
  h : Below w.heap.size w v
instance (w : World) : Inhabited (BelW w) := ⟨⟨w, Below.refl _ _⟩⟩
theorem wp_region_quiet_bel {P : Program} {id : Nat} {Q : Exit → Act → World → Prop} {a : Act} {w : World} {l : List Oper} (hm : P.follows .mixedOrders = true) (hB : Region.lexB .any l.toArray = true)
    (h : wpQuiet P l.toArray (fun w' => ∃ p : BelW w, w' = p.v) (fun a' => ∀ w', (∃ p : BelW w, w' = p.v) → Q .normal a' w') l a) : (Code.region id l.toArray true).wp P Q a w :=
  wp_region_quiet (C := fun w' => ∃ p : BelW w, w' = p.v) hm hB ⟨⟨w.drew, (Below.refl _ _).drew⟩, rfl⟩ (by simpa using h)
theorem cell_bel {w : World} {a : Addr} {v : Value} (hb : a.block < w.heap.size) (h : w.cell? a = some v) (p : BelW w) : p.v.cell? a = some v := (p.h.cell hb).trans h
theorem Calls.bel_of {P : Program} {f : FuncId} {args : Array Value} {w : World} {p : BelW w} {v : Value}
    (h : Calls P f args p.v fun e w' => e = .returned v ∧ Below p.v.heap.size p.v w') : Calls P f args p.v fun e w'' => e = .returned v ∧ ∃ q : BelW w, w'' = q.v :=
  h.mono fun _ w' ⟨he, hb⟩ => ⟨he, ⟨w', p.h.trans (hb.mono p.h.size)⟩, rfl⟩
theorem Calls.bel_same {P : Program} {f : FuncId} {args : Array Value} {w : World} {p : BelW w} {v : Value}
    (h : Calls P f args p.v fun e w' => e = .returned v ∧ w' = p.v) : Calls P f args p.v fun e w'' => e = .returned v ∧ ∃ q : BelW w, w'' = q.v :=
  h.mono fun _ w' ⟨he, hb⟩ => ⟨he, p, hb⟩
theorem Calls.bel_drew {P : Program} {f : FuncId} {args : Array Value} {w : World} {p : BelW w} {v : Value}
    (h : Calls P f args p.v fun e w' => e = .returned v ∧ ∃ m, w' = p.v.drewN m) : Calls P f args p.v fun e w'' => e = .returned v ∧ ∃ q : BelW w, w'' = q.v :=
  h.mono fun _ w' ⟨he, m, hb⟩ => ⟨he, ⟨p.v.drewN m, below_drewN p.h m⟩, hb⟩
theorem quiet_plus {P : Program} {f : FuncId} {args : Array Value} {w : World} {a n : Nat} {v : Value}
    (h : Calls P f args (w.drewN (a + n)) fun e w' => e = .returned v ∧ ∃ m, w' = (w.drewN (a + n)).drewN m) :
    Calls P f args (w.drewN (a + n)) fun e w'' => e = .returned v ∧ ∃ m, w'' = w.drewN (a + m) :=
  h.mono fun _ _ ⟨he, m, hm⟩ => ⟨he, n + m, by rw [hm, World.drewN_drewN, Nat.add_assoc]⟩
theorem calls_draw0 {P : Program} {f : FuncId} {args : Array Value} {w : World} {v : Value} (h : Calls P f args w fun e w' => e = .returned v ∧ w' = w) : Calls P f args w fun e w' => e = .returned v ∧ ∃ m, w' = w.drewN m := h.mono fun _ _ ⟨he, hw⟩ => ⟨he, 0, hw⟩
/-- A contract whose Bool is told. -/
theorem calls_bool {P : Program} {f : FuncId} {args : Array Value} {w : World} {b b' : Bool} {R : World → Prop} (h : Calls P f args w fun e w' => e = .returned (.bool b) ∧ R w') (hb : b = b') : Calls P f args w fun e w' => e = .returned (.bool b') ∧ R w' := hb ▸ h
theorem reads_bel {w : World} {B size n : Nat} {A : Option Addr} {xs : List Value} (h : Reads w B size A n xs) (hB : B ≤ w.heap.size) (p : BelW w) : Reads p.v B size A n xs := h.keep fun q hq => p.h.cell (by omega)
end Go.Proofs.YtjmpldcnhjgpkaaGreatDoor
