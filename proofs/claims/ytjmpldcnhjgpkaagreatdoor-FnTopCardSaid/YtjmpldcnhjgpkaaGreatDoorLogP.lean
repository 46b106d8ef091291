/-
  'float64(x)' of a 32-bit number: it is exact, never an infinity of its own; what is told of it hangs on what is told of x alone.
-/
import Derived.Test.YtjmpldcnhjgpkaaGreatDoorOps
import Derived.Test.YtjmpldcnhjgpkaaGreatDoorBd
import Derived.Laws.Externs
namespace Go.Proofs.YtjmpldcnhjgpkaaGreatDoor.Fl
open Go.RowKit

theorem log2_lt_of {m b : Nat} (h : m < 2 ^ (b + 1)) : m.log2 ≤ b := by
  rcases Nat.eq_zero_or_pos m with h0 | h0
  · subst h0; simp
  · exact Nat.le_of_lt_succ ((Nat.log2_lt (by omega)).2 h)

theorem pow_log2_le {m : Nat} (h : m ≠ 0) : 2 ^ m.log2 ≤ m := Nat.log2_self_le h
theorem lt_pow_log2 (m : Nat) : m < 2 ^ (m.log2 + 1) := Nat.lt_log2_self

/-- What a 32-bit word stands for, if it is a number. -/
theorem read32 {x : Nat} {s : Bool} {m : Nat} {e : Int} (h : FloatKind.f32.decode x = .number s m e) : m < 16777216 ∧ -149 ≤ e ∧ e ≤ 104 := by
  unfold FloatKind.decode Ieee.Format.read at h
  have e1 : FloatKind.f32.format.signWeight = 2147483648 := by decide +kernel
  have e2 : FloatKind.f32.format.binade = 8388608 := by decide +kernel
  have e3 : FloatKind.f32.format.infRung = 2139095040 := by decide +kernel
  have e4 : FloatKind.f32.format.leastPlace = -149 := by decide +kernel
  simp only [e1, e2, e3, e4] at h
  generalize x % 2147483648 = r at h
  split at h
  · injection h with h1 h2 h3; omega
  · split at h
    · injection h with h1 h2 h3
      have : r % 8388608 < 8388608 := Nat.mod_lt _ (by omega)
      omega
    · split at h <;> cases h

theorem word_inf_false {k : FloatKind} {s : Bool} {r : Nat} (h : r < k.format.infRung) : (k.decode (k.format.word s r)).isInfinity = false := by
  unfold FloatKind.decode Ieee.Format.read Ieee.Format.word
  have hlt := Ieee.Format.infRung_lt k.format
  have hw : 0 < k.format.signWeight := by omega
  have hm : (if s = true then k.format.signWeight + r else r) % k.format.signWeight = r := by
    split
    · rw [Nat.add_mod_left, Nat.mod_eq_of_lt (by omega)]
    · exact Nat.mod_eq_of_lt (by omega)
  simp only [hm]
  split
  · rfl
  · first | rfl | (rw [if_pos h]; rfl)

theorem cut_zero (way : Ieee.Toward) (s : Bool) (n : Nat) : way.cut s n 0 = n := by
  unfold Ieee.Toward.cut
  cases way <;> simp [Nat.mod_one]

theorem rung_lt (b q : Nat) (hb : b ≤ 1149) (hk : q < 2 ^ 53) : min (b * 4503599627370496 + q) 9218868437227405312 < 9218868437227405312 := by
  have h : b * 4503599627370496 ≤ 1149 * 4503599627370496 := Nat.mul_le_mul_right _ hb
  refine Nat.lt_of_le_of_lt (Nat.min_le_left _ _) ?_
  have h2 : (2 : Nat) ^ 53 = 9007199254740992 := by decide
  rw [h2] at hk
  omega

/-- A number of at most 53 digits, not too great and not too small, is written as it is. -/
theorem nearest64_lt (s : Bool) (m : Nat) (e : Int) (hm : m < 16777216) (h1 : -149 ≤ e) (h2 : e ≤ 104) : ∃ r, FloatKind.f64.format.nearest s m e = FloatKind.f64.format.word s r ∧ r < FloatKind.f64.format.infRung := by
  have e2 : FloatKind.f64.format.binade = 4503599627370496 := by decide +kernel
  have e3 : FloatKind.f64.format.infRung = 9218868437227405312 := by decide +kernel
  have e4 : FloatKind.f64.format.leastPlace = -1074 := by decide +kernel
  have e5 : FloatKind.f64.format.fractionBits = 52 := by decide +kernel
  unfold Ieee.Format.nearest
  rw [e2, e3, e4, e5]
  by_cases h0 : m = 0
  · rw [if_pos h0]; exact ⟨0, rfl, by omega⟩
  · rw [if_neg h0]
    refine ⟨_, rfl, ?_⟩
    have hl : m.log2 ≤ 23 := log2_lt_of (b := 23) (by omega)
    have hlast : max (e + (m.log2 : Int) - (52 : Nat)) (-1074) = e + (m.log2 : Int) - 52 := by omega
    simp only [hlast]
    have hd : (e + (m.log2 : Int) - 52 - e).toNat = 0 := by omega
    rw [hd, cut_zero]
    have hs : (e - (e + (m.log2 : Int) - 52)).toNat = 52 - m.log2 := by omega
    rw [hs, Nat.shiftLeft_eq]
    have hk : m * 2 ^ (52 - m.log2) < 2 ^ 53 := by
      have := lt_pow_log2 m
      have h3 : m * 2 ^ (52 - m.log2) < 2 ^ (m.log2 + 1) * 2 ^ (52 - m.log2) := Nat.mul_lt_mul_of_pos_right this (Nat.two_pow_pos _)
      rw [← Nat.pow_add, show m.log2 + 1 + (52 - m.log2) = 53 by omega] at h3
      exact h3
    have hb : (e + (m.log2 : Int) - 52 - -1074).toNat ≤ 1149 := by omega
    generalize (e + (m.log2 : Int) - 52 - -1074).toNat = b at *
    generalize m * 2 ^ (52 - m.log2) = q at *
    exact rung_lt b q hb hk

/-- 'float64(x)' of a 32-bit number, told. -/
def wide (x : Nat) : Nat := cn .f64 ((cvBits .f32 .f64 x).getD (nanOf .f64))

theorem cvBits_num {x : Nat} {s : Bool} {m : Nat} {e : Int} (h : FloatKind.f32.decode x = .number s m e) : cvBits .f32 .f64 x = some (FloatKind.f64.encode (.number s m e)) := by
  obtain ⟨hm, h1, h2⟩ := read32 h
  obtain ⟨r, hr, hlt⟩ := nearest64_lt s m e hm h1 h2
  have : (FloatKind.f64.decode (FloatKind.f64.encode (.number s m e))).isInfinity = false := by
    show (FloatKind.f64.decode (FloatKind.f64.format.nearest s m e)).isInfinity = false
    rw [hr]
    exact word_inf_false hlt
  simp [cvBits, h, this]

theorem cn_cvR (x : Nat) (w : World) : cn .f64 (cvR .f32 .f64 x w) = wide x := by
  unfold cvR wide
  cases hd : FloatKind.f32.decode x with
  | number s m e => rw [cvBits_num hd]; rfl
  | infinity s => simp [cvBits, hd]
  | nan s t =>
    have : cvBits .f32 .f64 x = none := by simp [cvBits, hd]
    rw [this]
    simp only [Option.getD_none]
    rw [cn_nan (drawn_conv _ _ _).1, cn_nan (isNan_nanOf _)]

theorem cvBits_nan {x : Nat} (h : isNan .f32 x = true) : cvBits .f32 .f64 x = none := by
  obtain ⟨s, t, hr⟩ := read_nan h
  have : FloatKind.f32.decode x = .nan s t := hr
  simp [cvBits, this]

theorem wide_cn (x : Nat) : wide (cn .f32 x) = wide x := by
  unfold wide
  cases h : isNan .f32 x
  · rw [cn_num h]
  · rw [cvBits_nan h, cvBits_nan (by rw [isNan_cn]; exact h)]
theorem wide_of_cn {x y : Nat} (h : cn .f32 x = cn .f32 y) : wide x = wide y := by rw [← wide_cn x, h, wide_cn]
theorem cn_wide (x : Nat) : cn .f64 (wide x) = wide x := by unfold wide; rw [cn_cn]
end Go.Proofs.YtjmpldcnhjgpkaaGreatDoor.Fl

/-
  The square root of a 32-bit number, and numbers that are narrowed: which do not turn into an infinity.
-/
namespace Go.Proofs.YtjmpldcnhjgpkaaGreatDoor.Fl
open Go.RowKit
set_option linter.unusedVariables false

theorem numle_pow {m : Nat} {e : Int} {a : Nat} {j : Int} (h : e + m.log2 + 1 ≤ a + j) : NumLe m e (2 ^ a) j := by
  unfold NumLe
  have h1 : m * 2 ^ (e - min e j).toNat ≤ 2 ^ (m.log2 + 1 + (e - min e j).toNat) := by
    rw [Nat.pow_add]; exact Nat.mul_le_mul_right _ (Nat.le_of_lt Nat.lt_log2_self)
  refine Nat.le_trans h1 ?_
  rw [← Nat.pow_add]
  exact Nat.pow_le_pow_right (by omega) (by omega)

/-- A number below a power of two is written to a rung whose number is at most that power. -/
theorem rung_pow (f : Ieee.Format) {m : Nat} {e : Int} {a : Nat} {j : Int} {R : Nat} (hR : magOf f R = 2 ^ a) (hj : placeOf f R = j) (h : e + m.log2 + 1 ≤ a + j) : rungOf f m e ≤ R := by
  apply rung_le
  rw [hR, hj]
  exact numle_pow h
theorem rung_log (f : Ieee.Format) {r : Nat} {a : Nat} {j : Int} {R : Nat} (hR : magOf f R = 2 ^ a) (hj : placeOf f R = j) (h : r ≤ R) (h0 : magOf f r ≠ 0) : placeOf f r + (magOf f r).log2 ≤ j + a := by
  have := (numle_of_rung f h).log h0
  rw [hR, hj, Nat.log2_two_pow] at this
  exact this

theorem nearest_word (f : Ieee.Format) (s : Bool) (m : Nat) (e : Int) {R : Nat} (h : rungOf f m e ≤ R) (hR : R < f.infRung) : f.nearest s m e = f.word s (rungOf f m e) := by
  rw [nearest_rung, Nat.min_eq_left (by omega)]

def narOk (z : Nat) : Prop := isNan .f64 z = true ∨ (cvBits .f64 .f32 z).isSome = true
/-- 'float32(z)', told. -/
def nar (z : Nat) : Nat := cn .f32 ((cvBits .f64 .f32 z).getD (nanOf .f32))
theorem cvBits_nan64 {z : Nat} (h : isNan .f64 z = true) : cvBits .f64 .f32 z = none := by
  obtain ⟨s, t, hr⟩ := read_nan h
  have : FloatKind.f64.decode z = .nan s t := hr
  simp [cvBits, this]
theorem nar_cn (z : Nat) : nar (cn .f64 z) = nar z := by
  unfold nar
  cases h : isNan .f64 z
  · rw [cn_num h]
  · rw [cvBits_nan64 h, cvBits_nan64 (by rw [isNan_cn]; exact h)]
theorem narOk_cn {z : Nat} : narOk (cn .f64 z) ↔ narOk z := by
  unfold narOk
  rw [isNan_cn]
  cases h : isNan .f64 z
  · rw [cn_num h]
  · simp
theorem cn_nar (z : Nat) : cn .f32 (nar z) = nar z := by unfold nar; rw [cn_cn]
theorem cn_cvR64 {z : Nat} (h : narOk z) (w : World) : cn .f32 (cvR .f64 .f32 z w) = nar z := by
  unfold cvR nar
  rcases h with h | h
  · obtain ⟨s, t, hr⟩ := read_nan h
    have hd : FloatKind.f64.decode z = .nan s t := hr
    rw [cvBits_nan64 h, hd]
    simp only [Option.getD_none]
    rw [cn_nan (drawn_conv _ _ _).1, cn_nan (isNan_nanOf _)]
  · obtain ⟨r, hr⟩ := Option.isSome_iff_exists.1 h
    rw [hr]; rfl
theorem wf_cvR64 (z : Nat) (w : World) : Wf .f32 (cvR .f64 .f32 z w) ∨ True := .inr trivial

/-- A number that is not too great is narrowed to a number. -/
theorem narOk_num {z : Nat} {s : Bool} {m : Nat} {e : Int} (h : FloatKind.f64.decode z = .number s m e) (hl : e + m.log2 ≤ 120) : narOk z := by
  right
  have hR : rungOf FloatKind.f32.format m e ≤ 2080374784 := by
    refine rung_pow _ (a := 23) (j := 98) ?_ ?_ (by omega)
    · decide +kernel
    · decide +kernel
  have hw := nearest_word FloatKind.f32.format s m e hR (by decide +kernel)
  have : (FloatKind.f32.decode (FloatKind.f32.encode (.number s m e))).isInfinity = false := by
    show (FloatKind.f32.decode (FloatKind.f32.format.nearest s m e)).isInfinity = false
    rw [hw]
    exact word_inf_false (Nat.lt_of_le_of_lt hR (by decide +kernel))
  simp [cvBits, h, this]
theorem narOk_inf {z : Nat} {s : Bool} (h : FloatKind.f64.decode z = .infinity s) : narOk z := by
  right
  simp [cvBits, h]

/-- What the square root gives, told. -/
def sq (x : Nat) : Nat := cn .f64 ((FloatKind.f64.format.sqrt x).getD (nanOf .f64))
def sqR (x : Nat) (w : World) : Nat := (FloatKind.f64.format.sqrt x).getD ((Question.nanBits .f64 x x).cut (w.tape w.drawn (.nanBits .f64 x x)))
def sqN (x : Nat) : Nat := if (FloatKind.f64.format.sqrt x).isSome then 0 else 1
theorem cn_sqR (x : Nat) (w : World) : cn .f64 (sqR x w) = sq x := by
  unfold sqR sq
  cases FloatKind.f64.format.sqrt x with
  | some r => rfl
  | none => simp only [Option.getD_none]; rw [cn_nan (drawn_nan _ x x _).1, cn_nan (isNan_nanOf _)]
theorem sqrt_nan {x : Nat} (h : isNan .f64 x = true) : FloatKind.f64.format.sqrt x = none := by
  obtain ⟨s, t, hr⟩ := read_nan h
  unfold Ieee.Format.sqrt
  rw [hr]; rfl
theorem sq_cn (x : Nat) : sq (cn .f64 x) = sq x := by
  unfold sq
  cases h : isNan .f64 x
  · rw [cn_num h]
  · rw [sqrt_nan h, sqrt_nan (by rw [isNan_cn]; exact h)]

section
variable {P : Program} {f : FuncId} {fn : Func}
theorem run_call_sqrt (hf : P.funcs[f]? = some fn) (hname : (fn.name == "runtime.NumGoroutine") = false) (hb : fn.body.isNone = true) (hn : Extern.findNext fn = none) (he : Extern.find fn = some Extern.MathSqrt.sqrt) (x : Nat) (w : World) :
    (callFunc f #[.float .f64 x]).run P w = .ok (.value (.float .f64 (sqR x w))) (w.drewN (sqN x)) := by
  rw [run_callFunc_extern hf hname hb hn he]
  change (Sem.run P (match FloatKind.f64.format.sqrt x with
    | some r => pure (Value.float .f64 r)
    | none => do pure (Value.float .f64 (← choose (.nanBits .f64 x x)))) w).andThen _ = _
  cases h : FloatKind.f64.format.sqrt x with
  | some r => simp [sqR, sqN, h, World.drewN_zero, Result.andThen]
  | none => simp [sqR, sqN, h, go_sem, World.drew_is_drewN, Result.andThen]
end

theorem rootFrom_sq (n : Nat) : ∀ todo root, root * root ≤ n → Ieee.Datum.rootFrom n todo root * Ieee.Datum.rootFrom n todo root ≤ n := by
  intro todo
  induction todo with
  | zero => intro root h; exact h
  | succ todo ih =>
    intro root h
    unfold Ieee.Datum.rootFrom
    apply ih
    split
    · assumption
    · exact h

/-- The square root of a number has half as many digits. -/
theorem root_log {d : Nat} {m : Nat} {i : Int} {N : Nat} {pl : Int} {s t : Bool} (h0 : m ≠ 0) (h : Ieee.Datum.root d (.number s m i) = some (.number t N pl)) (hl : i + m.log2 ≤ 200) : pl + N.log2 ≤ 101 := by
  unfold Ieee.Datum.root at h
  dsimp only at h
  rw [if_neg h0] at h
  cases s
  · simp only [Bool.false_eq_true, if_false, Option.some.injEq, Ieee.Datum.number.injEq] at h
    obtain ⟨_, hN, hpl⟩ := h
    generalize hM : 2 * d - m.log2 + ((i - (2 * d - m.log2 : Nat)) % 2).toNat = M at hN hpl
    have hev : (i - (M : Int)) % 2 = 0 := by omega
    generalize hn : m <<< M = n at hN
    have hnl : n.log2 ≤ m.log2 + M := by
      rw [← hn, Nat.shiftLeft_eq]
      apply log2_lt_of
      have : m * 2 ^ M < 2 ^ (m.log2 + 1) * 2 ^ M := Nat.mul_lt_mul_of_pos_right Nat.lt_log2_self (Nat.two_pow_pos _)
      rw [← Nat.pow_add] at this
      rwa [show m.log2 + M + 1 = m.log2 + 1 + M by omega]
    have hsq := rootFrom_sq n (n.log2 / 2 + 1) 0 (by omega)
    generalize Ieee.Datum.rootFrom n (n.log2 / 2 + 1) 0 = q at hN hsq
    have hql : 2 * q.log2 ≤ n.log2 := by
      by_cases hq : q = 0
      · subst hq; simp
      · have h1 : 2 ^ q.log2 ≤ q := Nat.log2_self_le hq
        have h2 : 2 ^ q.log2 * 2 ^ q.log2 ≤ n := Nat.le_trans (Nat.mul_le_mul h1 h1) hsq
        rw [← Nat.pow_add] at h2
        have h3 := (Nat.le_log2 (n := n) (by have := Nat.two_pow_pos (q.log2 + q.log2); omega)).2 h2
        omega
    have hNl : N.log2 ≤ q.log2 + 1 := by
      apply log2_lt_of
      have h1 : q < 2 ^ (q.log2 + 1) := Nat.lt_log2_self
      have h2 : (q * q != n).toNat ≤ 1 := Bool.toNat_le _
      rw [Nat.pow_succ 2 (q.log2 + 1)]
      omega
    omega
  · simp at h

/-- THE SQUARE ROOT OF A 32-BIT NUMBER IS NOT TOO GREAT FOR 32 BITS. -/
theorem narOk_sqrt (x : Nat) : narOk (sq (wide x)) := by
  unfold sq
  rw [narOk_cn]
  unfold wide
  rw [show ∀ y, FloatKind.f64.format.sqrt (cn .f64 y) = FloatKind.f64.format.sqrt y by
    intro y
    cases h : isNan .f64 y
    · rw [cn_num h]
    · rw [sqrt_nan h, sqrt_nan (by rw [isNan_cn]; exact h)]]
  cases hd : FloatKind.f32.decode x with
  | nan s t =>
    have : cvBits .f32 .f64 x = none := by simp [cvBits, hd]
    rw [this]
    left
    rw [Option.getD_none, sqrt_nan (isNan_nanOf _)]
    exact isNan_nanOf _
  | infinity s =>
    have : cvBits .f32 .f64 x = some (FloatKind.f64.encode (.infinity s)) := by simp [cvBits, hd]
    rw [this]
    cases s
    · exact narOk_inf (s := false) (by decide +kernel)
    · left; decide +kernel
  | number s m e =>
    rw [cvBits_num hd]
    obtain ⟨hm, h1, h2⟩ := read32 hd
    have hlog : m.log2 ≤ 23 := log2_lt_of (b := 23) (by omega)
    simp only [Option.getD_some]
    have hR : rungOf FloatKind.f64.format m e ≤ 5183643171103440896 := by
      refine rung_pow _ (a := 52) (j := 76) ?_ ?_ (by omega)
      · decide +kernel
      · decide +kernel
    have hw : FloatKind.f64.encode (.number s m e) = FloatKind.f64.format.word s (rungOf FloatKind.f64.format m e) := nearest_word FloatKind.f64.format s m e hR (by decide +kernel)
    have hrd := read_word (k := .f64) (s := s) (r := rungOf FloatKind.f64.format m e) (Nat.lt_of_le_of_lt hR (by decide +kernel))
    rw [hw]
    generalize rungOf FloatKind.f64.format m e = r at hR hrd
    unfold Ieee.Format.sqrt
    rw [hrd]
    by_cases h0 : magOf FloatKind.f64.format r = 0
    · rw [h0]
      have : Ieee.Datum.root (FloatKind.f64.format.fractionBits + 2) (.number s 0 (placeOf FloatKind.f64.format r)) = some (.number s 0 (placeOf FloatKind.f64.format r)) := by simp [Ieee.Datum.root]
      rw [this]
      simp only [Option.map_some, Option.getD_some, Ieee.Format.write]
      rw [nearest_zero]
      obtain ⟨p, hp⟩ := read_zero_word .f64 s
      by_cases hp2 : p ≤ 120
      · exact narOk_num (s := s) (m := 0) (e := p) hp (by simpa using hp2)
      · right
        have : (FloatKind.f32.decode (FloatKind.f32.encode (.number s 0 p))).isInfinity = false := by
          show (FloatKind.f32.decode (FloatKind.f32.format.nearest s 0 p)).isInfinity = false
          rw [nearest_zero]
          exact word_inf_false (by decide +kernel)
        have hp' : FloatKind.f64.decode (FloatKind.f64.format.word s 0) = .number s 0 p := hp
        simp [cvBits, hp', this]
    · have hlg := rung_log FloatKind.f64.format (a := 52) (j := 76) (R := 5183643171103440896) (by decide +kernel) (by decide +kernel) hR h0
      cases hroot : Ieee.Datum.root (FloatKind.f64.format.fractionBits + 2) (.number s (magOf FloatKind.f64.format r) (placeOf FloatKind.f64.format r)) with
      | none => left; simp only [Option.map_none, Option.getD_none]; exact isNan_nanOf _
      | some d =>
        have hnum : ∃ N pl, d = .number false N pl := by
          unfold Ieee.Datum.root at hroot
          dsimp only at hroot
          rw [if_neg h0] at hroot
          cases s
          · simp only [Bool.false_eq_true, if_false, Option.some.injEq] at hroot
            exact ⟨_, _, hroot.symm⟩
          · simp at hroot
        obtain ⟨N, pl, rfl⟩ := hnum
        have hNl := root_log h0 hroot (by omega)
        simp only [Option.map_some, Option.getD_some, Ieee.Format.write]
        have hR2 : rungOf FloatKind.f64.format N pl ≤ 5071053180419178496 := by
          refine rung_pow _ (a := 52) (j := 51) ?_ ?_ (by omega)
          · decide +kernel
          · decide +kernel
        rw [nearest_word FloatKind.f64.format false N pl hR2 (by decide +kernel)]
        have hrd2 := read_word (k := .f64) (s := false) (r := rungOf FloatKind.f64.format N pl) (Nat.lt_of_le_of_lt hR2 (by decide +kernel))
        generalize rungOf FloatKind.f64.format N pl = r2 at hR2 hrd2
        by_cases h02 : magOf FloatKind.f64.format r2 = 0
        · refine narOk_num (e := placeOf FloatKind.f64.format r2) hrd2 ?_
          rw [h02]
          have : r2 < FloatKind.f64.format.binade := by
            unfold magOf at h02
            have hB := binade_pos FloatKind.f64.format
            split at h02
            · assumption
            · omega
          unfold placeOf
          rw [if_pos this]
          decide +kernel
        · have hlg2 := rung_log FloatKind.f64.format (a := 52) (j := 51) (R := 5071053180419178496) (by decide +kernel) (by decide +kernel) hR2 h02
          exact narOk_num hrd2 (by omega)

/-- 'float32(math.Sqrt(float64(x)))', told. -/
def rootOf (x : Nat) : Nat := nar (sq (wide x))
theorem rootOf_cn (x : Nat) : rootOf (cn .f32 x) = rootOf x := by unfold rootOf; rw [wide_cn]
end Go.Proofs.YtjmpldcnhjgpkaaGreatDoor.Fl

/-
  The logarithm in 64 bits, as both sides compute it: halving and doubling are exact, and what comes out is small.
-/
namespace Go.Proofs.YtjmpldcnhjgpkaaGreatDoor.Fl
open Go.RowKit
set_option linter.unusedVariables false

theorem d64_inf : FloatKind.f64.format.infRung = 9218868437227405312 := by decide +kernel
theorem d64_bin : FloatKind.f64.format.binade = 4503599627370496 := by decide +kernel
theorem d64_least : FloatKind.f64.format.leastPlace = -1074 := by decide +kernel
theorem d64_fb : FloatKind.f64.format.fractionBits = 52 := by decide +kernel
theorem rung_num {f : Ieee.Format} {m : Nat} {e : Int} {R : Nat} {b : Int} (h1 : b ≤ e) (h2 : b ≤ placeOf f R) (h : m * 2 ^ (e - b).toNat = magOf f R * 2 ^ (placeOf f R - b).toNat) : rungOf f m e = R := by
  apply Nat.le_antisymm
  · exact rung_le f (NumLe.of h1 h2 (by omega))
  · exact rung_ge f (NumLe.of h2 h1 (by omega))
theorem read_pos {k : FloatKind} {r : Nat} (h : r < k.format.infRung) : k.format.read r = .number false (magOf k.format r) (placeOf k.format r) := by
  have := read_word (k := k) (s := false) h
  rwa [show k.format.word false r = r from rfl] at this
theorem cn_pos {k : FloatKind} {r : Nat} (h : r < k.format.infRung) : cn k r = r := cn_num (num_nan (read_pos h))
theorem cn_nearest {k : FloatKind} {s : Bool} {m : Nat} {e : Int} {R : Nat} (h : rungOf k.format m e = R) (hR : R < k.format.infRung) : cn k (k.format.nearest s m e) = k.format.word s R := by
  rw [nearest_rung, h, Nat.min_eq_left (by omega), cn_num (isNan_word' (by omega))]
theorem pl64 {r : Nat} (h : FloatKind.f64.format.binade ≤ r) : magOf FloatKind.f64.format r = FloatKind.f64.format.binade + r % FloatKind.f64.format.binade ∧ placeOf FloatKind.f64.format r = -1074 + ((r / FloatKind.f64.format.binade - 1 : Nat) : Int) := by
  unfold magOf placeOf
  rw [d64_least, if_neg (by omega), if_neg (by omega)]
  exact ⟨rfl, rfl⟩
theorem two_read : magOf FloatKind.f64.format 4611686018427387904 = FloatKind.f64.format.binade ∧ placeOf FloatKind.f64.format 4611686018427387904 = -51 := by decide +kernel
theorem bin_log : FloatKind.f64.format.binade.log2 = 52 := by decide +kernel
theorem mag_log {s : Nat} (h : s < FloatKind.f64.format.binade) : (FloatKind.f64.format.binade + s).log2 = 52 := by
  have hB := binade_pos FloatKind.f64.format
  have hl1 : FloatKind.f64.format.fractionBits ≤ (FloatKind.f64.format.binade + s).log2 := (Nat.le_log2 (by omega)).2 (Nat.le_add_right _ _)
  have hl2 : (FloatKind.f64.format.binade + s).log2 < FloatKind.f64.format.fractionBits + 1 := (Nat.log2_lt (by omega)).2 (by rw [Nat.pow_succ]; unfold Ieee.Format.binade at *; omega)
  rw [d64_fb] at hl1 hl2
  omega
theorem word_ff (f : Ieee.Format) (x : Nat) : f.word (false ^^ false) x = x := rfl
theorem prodc (M B P : Nat) : M * B * P = M * (P * B) := by rw [Nat.mul_assoc, Nat.mul_comm B]
theorem prod8 (M P : Nat) : 2 * (M * 4) * P = M * (P * 2 ^ 3) := by
  rw [show M * (P * 2 ^ 3) = 8 * (M * P) by rw [show (2 : Nat) ^ 3 = 8 from rfl, ← Nat.mul_assoc, Nat.mul_comm _ 8], Nat.mul_comm M 4, ← Nat.mul_assoc, Nat.mul_assoc _ M P]
theorem mul_read {k : FloatKind} {x y m n : Nat} {s t : Bool} {i j : Int} (rx : k.format.read x = .number s m i) (ry : k.format.read y = .number t n j) : fb .mul k x y = cn k (k.format.nearest (s ^^ t) (m * n) (i + j)) := by
  unfold fb floatBits Ieee.Format.mul
  simp only
  rw [rx, ry]
  simp only [Ieee.Datum.product, Option.map_some, Option.getD_some, Ieee.Format.write]
/-- A number that is not the least is halved. -/
theorem half64' {r : Nat} (h1 : 2 * FloatKind.f64.format.binade ≤ r) (h2 : r < FloatKind.f64.format.infRung) : fb .quo .f64 r 4611686018427387904 = r - FloatKind.f64.format.binade := by
  have hB := binade_pos FloatKind.f64.format
  have rx := read_pos (k := .f64) h2
  have ry := read_pos (k := .f64) (r := 4611686018427387904) (by decide +kernel)
  obtain ⟨m1, p1⟩ := pl64 (r := r) (by omega)
  obtain ⟨m2, p2⟩ := pl64 (r := r - FloatKind.f64.format.binade) (by omega)
  have hn : magOf FloatKind.f64.format 4611686018427387904 ≠ 0 := by rw [two_read.1]; omega
  have hd := Nat.div_eq_sub_div hB (show FloatKind.f64.format.binade ≤ r by omega)
  have hm := Nat.mod_eq_sub_mod (show r ≥ FloatKind.f64.format.binade by omega)
  have hq : 2 ≤ r / FloatKind.f64.format.binade := (Nat.le_div_iff_mul_le hB).2 h1
  have hs := Nat.mod_lt r hB
  rw [← hm] at m2
  rw [show (r - FloatKind.f64.format.binade) / FloatKind.f64.format.binade = r / FloatKind.f64.format.binade - 1 by omega] at p2
  unfold fb floatBits Ieee.Format.div
  simp only
  rw [rx, ry]
  simp only [Ieee.Datum.quotient, if_neg hn, Option.map_some, Option.getD_some, Ieee.Format.write]
  refine Eq.trans (cn_nearest (s := false ^^ false) (R := r - FloatKind.f64.format.binade) ?_ (by omega)) (word_ff _ _)
  rw [two_read.1, two_read.2, m1, p1, mag_log hs, bin_log, d64_fb]
  simp only [Nat.shiftLeft_eq]
  generalize r / FloatKind.f64.format.binade = q at *
  have e1 : (FloatKind.f64.format.binade + r % FloatKind.f64.format.binade) * 2 ^ (52 + 2 + 52 - 52) = (FloatKind.f64.format.binade + r % FloatKind.f64.format.binade) * 4 * FloatKind.f64.format.binade := by
    rw [show (2 : Nat) ^ (52 + 2 + 52 - 52) = 4 * FloatKind.f64.format.binade by decide +kernel, Nat.mul_assoc]
  rw [e1, Nat.mul_div_cancel _ hB, Nat.mul_mod_left]
  refine rung_num (b := -1079) (by omega) (by rw [p2]; omega) ?_
  rw [m2, p2]
  have e2 : (-1074 + ((q - 1 : Nat) : Int) - -51 - ((52 + 2 + 52 - 52 : Nat) : Int) - 1 - -1079).toNat = q := by omega
  have e3 : (-1074 + ((q - 1 - 1 : Nat) : Int) - -1079).toNat = q + 3 := by omega
  rw [e2, e3, Nat.pow_add]
  simp only [bne_self_eq_false, Bool.toNat_false, Nat.add_zero]
  exact prod8 _ _
/-- A number is doubled. -/
theorem dbl64' {r : Nat} (h1 : FloatKind.f64.format.binade ≤ r) (h2 : r + FloatKind.f64.format.binade < FloatKind.f64.format.infRung) : fb .mul .f64 r 4611686018427387904 = r + FloatKind.f64.format.binade := by
  have hB := binade_pos FloatKind.f64.format
  have rx := read_pos (k := .f64) (r := r) (by omega)
  have ry := read_pos (k := .f64) (r := 4611686018427387904) (by decide +kernel)
  obtain ⟨m1, p1⟩ := pl64 (r := r) (by omega)
  obtain ⟨m2, p2⟩ := pl64 (r := r + FloatKind.f64.format.binade) (by omega)
  rw [Nat.add_mod_right] at m2
  rw [Nat.add_div_right _ hB] at p2
  have hq : 1 ≤ r / FloatKind.f64.format.binade := (Nat.le_div_iff_mul_le hB).2 (by omega)
  rw [mul_read rx ry]
  refine Eq.trans (cn_nearest (s := false ^^ false) (R := r + FloatKind.f64.format.binade) ?_ h2) (word_ff _ _)
  rw [two_read.1, two_read.2, m1, p1]
  generalize r / FloatKind.f64.format.binade = q at *
  refine rung_num (b := -1125) (by omega) (by rw [p2]; omega) ?_
  rw [m2, p2]
  have e2 : (-1074 + ((q - 1 : Nat) : Int) + -51 - -1125).toNat = q - 1 := by omega
  have e3 : (-1074 + (((q + 1) - 1 : Nat) : Int) - -1125).toNat = (q - 1) + 52 := by omega
  rw [e2]
  first | rw [e3] | rw [show (-1074 + ((Nat.succ q - 1 : Nat) : Int) - -1125).toNat = (q - 1) + 52 from e3]
  rw [Nat.pow_add, show (2 : Nat) ^ 52 = FloatKind.f64.format.binade by decide +kernel]
  exact prodc _ _ _
theorem half64 {r : Nat} (h1 : 9007199254740992 ≤ r) (h2 : r < 9218868437227405312) : fb .quo .f64 r 4611686018427387904 = r - 4503599627370496 := by
  have := half64' (r := r) (by rw [d64_bin]; omega) (by rw [d64_inf]; exact h2)
  rw [d64_bin] at this
  exact this
theorem dbl64 {r : Nat} (h1 : 4503599627370496 ≤ r) (h2 : r < 9214364837600034816) : fb .mul .f64 r 4611686018427387904 = r + 4503599627370496 := by
  have := dbl64' (r := r) (by rw [d64_bin]; exact h1) (by rw [d64_bin, d64_inf]; omega)
  rw [d64_bin] at this
  exact this
theorem vv_lt {k : FloatKind} {r r' : Nat} (h : r < r') : vv k r < vv k r' := by
  rcases Nat.lt_or_ge (vv k r) (vv k r') with h1 | h1
  · exact h1
  · exfalso
    have h2 : NumLe (magOf k.format r') (placeOf k.format r') (magOf k.format r) (placeOf k.format r) := NumLe.of (b := k.format.leastPlace) (place_ge _ _) (place_ge _ _) h1
    have := rung_mono k.format h2
    rw [rung_read, rung_read] at this
    omega
/-- Numbers that are not negative stand to each other as their words do. -/
theorem order_pos {k : FloatKind} {r q : Nat} (h1 : r < k.format.infRung) (h2 : q < k.format.infRung) : k.format.order r q = some (compare (r : Int) (q : Int)) := by
  rw [order_num (read_pos h1) (read_pos h2) (b := k.format.leastPlace) (place_ge _ _) (place_ge _ _)]
  have hs : ∀ x : Nat, sval false (magOf k.format x) (placeOf k.format x) k.format.leastPlace = ((vv k x : Nat) : Int) := by
    intro x; unfold sval Ieee.signed vv; rw [if_neg (by simp), Nat.shiftLeft_eq]
  rw [hs, hs, compare_int, compare_int]
  congr 1
  rcases Nat.lt_trichotomy r q with h | h | h
  · have := vv_lt (k := k) h
    rw [if_pos (by omega), if_pos (by omega)]
  · subst h; simp
  · have := vv_lt (k := k) h
    rw [if_neg (by omega), if_neg (by omega), if_neg (by omega), if_neg (by omega)]
/-- The binades that are taken off, and what is left. -/
def redE (r : Nat) : Int := ((r : Int) - 4604930618986332160) / 4503599627370496
def redR (r : Nat) : Nat := (((r : Int) - 4604930618986332160) % 4503599627370496).toNat + 4604930618986332160
theorem red_of {r c : Nat} {e : Int} (h : (r : Int) = c + e * 4503599627370496) (h1 : 4604930618986332160 ≤ c) (h2 : c < 4609434218613702656) : redE r = e ∧ redR r = c := by
  unfold redE redR
  have e1 : (r : Int) - 4604930618986332160 = ((c : Int) - 4604930618986332160) + 4503599627370496 * e := by omega
  rw [e1, Int.add_mul_ediv_left _ _ (by decide), Int.add_mul_emod_self_left]
  rw [Int.ediv_eq_zero_of_lt (by omega) (by omega), Int.emod_eq_of_lt (by omega) (by omega)]
  omega
/-- 'q' behind j rounds. -/
def logQ (u : Nat) : Nat → Nat
  | 0 => 0
  | j + 1 => fb .add .f64 (fb .quo .f64 4607182418800017408 (floatOfInt .f64 (25 - 2 * (j : Int)))) (fb .mul .f64 u (logQ u j))
def logS (c : Nat) : Nat := fb .quo .f64 (fb .sub .f64 c 4607182418800017408) (fb .add .f64 c 4607182418800017408)
abbrev ln2 : Nat := 4604418534313441775
/-- The logarithm of a number of 64 bits, which is neither 0 nor less than the least normal one. -/
def logV (r : Nat) : Nat := fb .add .f64 (fb .mul .f64 4611686018427387904 (fb .mul .f64 (logS (redR r)) (logQ (fb .mul .f64 (logS (redR r)) (logS (redR r))) 13))) (fb .mul .f64 (floatOfInt .f64 (redE r)) ln2)
/-- 2 to the n. -/
abbrev pw (n : Nat) : Nat := (1023 + n) * 4503599627370496
theorem ten_steps : ∀ j : Nat, j < 14 → Bd .f64 (pw 0) (fb .quo .f64 4607182418800017408 (floatOfInt .f64 (25 - 2 * (j : Int)))) ∨ 13 ≤ j := by
  intro j hj
  have h : ∀ j : Nat, j < 13 → (fb .quo .f64 4607182418800017408 (floatOfInt .f64 (25 - 2 * ((j : Nat) : Int)))) ≤ pw 0 := by decide +kernel
  rcases Nat.lt_or_ge j 13 with h1 | h1
  · exact .inl ⟨by decide +kernel, false, _, rfl, h j h1⟩
  · exact .inr h1
theorem pow_ok : ∀ n : Nat, n < 14 → vv .f64 (pw 0) + vv .f64 (pw (4 + 5 * n)) ≤ vv .f64 (pw (5 * (n + 1))) ∧ vv .f64 (pw 4) * vv .f64 (pw (5 * n)) ≤ vv .f64 (pw (4 + 5 * n)) * 2 ^ (-FloatKind.f64.format.leastPlace).toNat ∧ pw (4 + 5 * n) < FloatKind.f64.format.infRung ∧ pw (5 * (n + 1)) < FloatKind.f64.format.infRung := by decide +kernel
theorem bd_logQ {u : Nat} (hu : Bd .f64 (pw 4) u) : ∀ j, j ≤ 13 → Bd .f64 (pw (5 * j)) (logQ u j)
  | 0, _ => ⟨by decide +kernel, false, 0, rfl, by decide⟩
  | j + 1, h => by
    rcases ten_steps j (by omega) with h5 | h5
    · obtain ⟨h1, h2, h3, h4⟩ := pow_ok j (by omega)
      exact bd_add h5 (bd_mul hu (bd_logQ hu j (by omega)) h3 h2) h4 h1
    · exact absurd h5 (by omega)
theorem bd_pos {k : FloatKind} {r R : Nat} (h : r ≤ R) (hR : R < k.format.infRung) : Bd k R r := ⟨hR, false, r, rfl, h⟩
theorem lo_one {c : Nat} (h2 : c < 4609434218613702656) : Lo .f64 4607182418800017408 (fb .add .f64 c 4607182418800017408) := by
  have rx := read_pos (k := .f64) (r := c) (by rw [d64_inf]; omega)
  have ry := read_pos (k := .f64) (r := 4607182418800017408) (by rw [d64_inf]; decide)
  have hb := bd_add (k := .f64) (R := pw 2) (bd_pos (k := .f64) (r := c) (R := 4609434218613702656) (by omega) (by decide +kernel)) (bd_pos (k := .f64) (Nat.le_refl 4607182418800017408) (by decide +kernel)) (by decide +kernel) (by decide +kernel)
  have e : fb .add .f64 c 4607182418800017408 = cn .f64 (FloatKind.f64.format.nearest false ((magOf FloatKind.f64.format c * 2 ^ (placeOf FloatKind.f64.format c - min (placeOf FloatKind.f64.format c) (placeOf FloatKind.f64.format 4607182418800017408)).toNat + magOf FloatKind.f64.format 4607182418800017408 * 2 ^ (placeOf FloatKind.f64.format 4607182418800017408 - min (placeOf FloatKind.f64.format c) (placeOf FloatKind.f64.format 4607182418800017408)).toNat)) (min (placeOf FloatKind.f64.format c) (placeOf FloatKind.f64.format 4607182418800017408))) := by
    unfold fb floatBits Ieee.Format.add
    simp only
    rw [rx, ry]
    simp only [Ieee.Datum.sum, Option.map_some, Option.getD_some, Ieee.Format.write]
    have hs : ∀ (m u : Nat), Ieee.signed false m u = ((m * 2 ^ u : Nat) : Int) := by intro m u; unfold Ieee.signed; rw [if_neg (by simp), Nat.shiftLeft_eq]
    rw [hs, hs]
    generalize magOf FloatKind.f64.format c * 2 ^ (placeOf FloatKind.f64.format c - min (placeOf FloatKind.f64.format c) (placeOf FloatKind.f64.format 4607182418800017408)).toNat = A
    generalize magOf FloatKind.f64.format 4607182418800017408 * 2 ^ (placeOf FloatKind.f64.format 4607182418800017408 - min (placeOf FloatKind.f64.format c) (placeOf FloatKind.f64.format 4607182418800017408)).toNat = B
    have : (if ((A : Nat) : Int) + ((B : Nat) : Int) = 0 then false && false else decide (((A : Nat) : Int) + ((B : Nat) : Int) < 0)) = false := by
      split
      · rfl
      · simp only [decide_eq_false_iff_not]; omega
    rw [this, ← Int.natCast_add, Int.natAbs_natCast]
  rw [e] at hb ⊢
  rw [nearest_rung] at hb ⊢
  have hge : 4607182418800017408 ≤ rungOf FloatKind.f64.format (magOf FloatKind.f64.format c * 2 ^ (placeOf FloatKind.f64.format c - min (placeOf FloatKind.f64.format c) (placeOf FloatKind.f64.format 4607182418800017408)).toNat + magOf FloatKind.f64.format 4607182418800017408 * 2 ^ (placeOf FloatKind.f64.format 4607182418800017408 - min (placeOf FloatKind.f64.format c) (placeOf FloatKind.f64.format 4607182418800017408)).toNat) (min (placeOf FloatKind.f64.format c) (placeOf FloatKind.f64.format 4607182418800017408)) := by
    refine rung_ge FloatKind.f64.format (NumLe.of (b := min (placeOf FloatKind.f64.format c) (placeOf FloatKind.f64.format 4607182418800017408)) (by omega) (by omega) ?_)
    rw [Int.sub_self, Int.toNat_zero, Nat.pow_zero, Nat.mul_one]
    exact Nat.le_add_left _ _
  obtain ⟨hR, s, q, hw, hq⟩ := hb
  have hc : cn .f64 (FloatKind.f64.format.word false (min (rungOf FloatKind.f64.format (magOf FloatKind.f64.format c * 2 ^ (placeOf FloatKind.f64.format c - min (placeOf FloatKind.f64.format c) (placeOf FloatKind.f64.format 4607182418800017408)).toNat + magOf FloatKind.f64.format 4607182418800017408 * 2 ^ (placeOf FloatKind.f64.format 4607182418800017408 - min (placeOf FloatKind.f64.format c) (placeOf FloatKind.f64.format 4607182418800017408)).toNat) (min (placeOf FloatKind.f64.format c) (placeOf FloatKind.f64.format 4607182418800017408))) FloatKind.f64.format.infRung)) = min (rungOf FloatKind.f64.format (magOf FloatKind.f64.format c * 2 ^ (placeOf FloatKind.f64.format c - min (placeOf FloatKind.f64.format c) (placeOf FloatKind.f64.format 4607182418800017408)).toNat + magOf FloatKind.f64.format 4607182418800017408 * 2 ^ (placeOf FloatKind.f64.format 4607182418800017408 - min (placeOf FloatKind.f64.format c) (placeOf FloatKind.f64.format 4607182418800017408)).toNat) (min (placeOf FloatKind.f64.format c) (placeOf FloatKind.f64.format 4607182418800017408))) FloatKind.f64.format.infRung :=
    cn_num (isNan_word' (k := .f64) (s := false) (Nat.min_le_right _ _))
  rw [hc] at hw ⊢
  generalize rungOf FloatKind.f64.format (magOf FloatKind.f64.format c * 2 ^ (placeOf FloatKind.f64.format c - min (placeOf FloatKind.f64.format c) (placeOf FloatKind.f64.format 4607182418800017408)).toNat + magOf FloatKind.f64.format 4607182418800017408 * 2 ^ (placeOf FloatKind.f64.format 4607182418800017408 - min (placeOf FloatKind.f64.format c) (placeOf FloatKind.f64.format 4607182418800017408)).toNat) (min (placeOf FloatKind.f64.format c) (placeOf FloatKind.f64.format 4607182418800017408)) = G at *
  refine ⟨min G FloatKind.f64.format.infRung, rfl, Nat.le_min.2 ⟨hge, by decide +kernel⟩, ?_⟩
  have hi := d64_inf
  have hsw : FloatKind.f64.format.signWeight = 9223372036854775808 := by decide +kernel
  unfold Ieee.Format.word at hw
  rw [hsw] at hw
  split at hw
  · omega
  · omega
theorem bd_logS {c : Nat} (h2 : c < 4609434218613702656) : Bd .f64 (pw 2) (logS c) := by
  have hs : Bd .f64 (pw 2) (fb .sub .f64 c 4607182418800017408) := bd_sub (bd_pos (R := 4609434218613702656) (by omega) (by decide +kernel)) (bd_pos (Nat.le_refl 4607182418800017408) (by decide +kernel)) (by decide +kernel) (by decide +kernel)
  exact bd_quo hs (lo_one h2) (by decide +kernel) (by decide +kernel) (by decide +kernel)
theorem int_steps : ∀ j : Nat, j < 2200 → floatOfInt .f64 ((j : Nat) : Int) ≤ pw 12 ∧ floatOfInt .f64 (-((j : Nat) : Int)) = FloatKind.f64.format.word (decide (0 < j)) (floatOfInt .f64 ((j : Nat) : Int)) := by decide +kernel
theorem bd_int {e : Int} (h1 : -2200 < e) (h2 : e < 2200) : Bd .f64 (pw 12) (floatOfInt .f64 e) := by
  rcases Int.eq_nat_or_neg e with ⟨j, rfl | rfl⟩
  · exact bd_pos (int_steps j (by omega)).1 (by decide +kernel)
  · have h := int_steps j (by omega)
    rw [h.2]
    exact ⟨by decide +kernel, _, _, rfl, h.1⟩
/-- The logarithm is a number below 2 to the 80. -/
theorem bd_log {r : Nat} (h : r < 9218868437227405312) : Bd .f64 (pw 80) (logV r) := by
  have hc : redR r < 4609434218613702656 := by unfold redR; have := Int.emod_lt_of_pos ((r : Int) - 4604930618986332160) (show (0 : Int) < 4503599627370496 by decide); have := Int.emod_nonneg ((r : Int) - 4604930618986332160) (show (4503599627370496 : Int) ≠ 0 by decide); omega
  have hs := bd_logS hc
  have hu : Bd .f64 (pw 4) (fb .mul .f64 (logS (redR r)) (logS (redR r))) := bd_mul hs hs (by decide +kernel) (by decide +kernel)
  have hq := bd_logQ hu 13 (Nat.le_refl _)
  have h1 : Bd .f64 (pw 67) (fb .mul .f64 (logS (redR r)) (logQ (fb .mul .f64 (logS (redR r)) (logS (redR r))) 13)) := bd_mul hs hq (by decide +kernel) (by decide +kernel)
  have h2 : Bd .f64 (pw 68) (fb .mul .f64 4611686018427387904 _) := bd_mul (bd_pos (R := 4611686018427387904) (Nat.le_refl _) (by decide +kernel)) h1 (by decide +kernel) (by decide +kernel)
  have he : Bd .f64 (pw 12) (floatOfInt .f64 (redE r)) := bd_int (by unfold redE; omega) (by unfold redE; omega)
  have h3 : Bd .f64 (pw 13) (fb .mul .f64 (floatOfInt .f64 (redE r)) ln2) := bd_mul he (bd_pos (R := pw 0) (by decide) (by decide +kernel)) (by decide +kernel) (by decide +kernel)
  exact bd_add h2 h3 (by decide +kernel) (by decide +kernel)
theorem narOk_bd {z : Nat} (h : Bd .f64 (pw 80) z) : narOk z := by
  obtain ⟨s, r, hz, hr⟩ := h.read
  refine narOk_num hz ?_
  by_cases h0 : magOf FloatKind.f64.format r = 0
  · rw [show magOf FloatKind.f64.format r = 0 from h0]
    have hlt : r = 0 := mag_zero h0
    subst hlt
    decide +kernel
  · have := rung_log FloatKind.f64.format (R := pw 80) (a := 52) (j := 28) (by decide +kernel) (by decide +kernel) hr h0
    omega
/-- The logarithm of 32 bits. -/
theorem int_next : ∀ j : Nat, j < 2200 → fb .add .f64 (floatOfInt .f64 ((j : Nat) : Int)) 4607182418800017408 = floatOfInt .f64 ((j : Nat) + 1 : Int) ∧ fb .sub .f64 (floatOfInt .f64 (-((j : Nat) : Int))) 4607182418800017408 = floatOfInt .f64 (-((j : Nat) : Int) - 1) := by decide +kernel
theorem ks_next : ∀ j : Nat, j < 13 → fb .sub .f64 (floatOfInt .f64 (25 - 2 * ((j : Nat) : Int))) 4611686018427387904 = floatOfInt .f64 (23 - 2 * ((j : Nat) : Int)) := by decide +kernel
end Go.Proofs.YtjmpldcnhjgpkaaGreatDoor.Fl
