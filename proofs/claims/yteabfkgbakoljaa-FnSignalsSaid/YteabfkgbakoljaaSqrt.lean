/-
  The square root of a 32-bit number, and numbers that are narrowed: which do not turn into an infinity.
-/
import Derived.Test.YteabfkgbakoljaaRound
import Derived.Test.YteabfkgbakoljaaConv
import Derived.Laws.Externs
namespace Go.Proofs.Yteabfkgbakoljaa.Fl
open Go.RowKit
set_option linter.unusedVariables false

theorem numle_pow {m : Nat} {e : Int} {a : Nat} {j : Int} (h : e + m.log2 + 1 ≤ a + j) : NumLe m e (2 ^ a) j := by
  unfold NumLe
  have h1 : m * 2 ^ (e - min e j).toNat ≤ 2 ^ (m.log2 + 1 + (e - min e j).toNat) := by
    rw [Nat.pow_add]; exact Nat.mul_le_mul_right _ (Nat.le_of_lt Nat.lt_log2_self)
  refine Nat.le_trans h1 ?_
  rw [← Nat.pow_add]
  exact Nat.pow_le_pow_right (by omega) (by omega)

/-- A number below a power of two is written to a rung whose number is at most that power. -/
theorem rung_pow (f : Ieee.Format) {m : Nat} {e : Int} {a : Nat} {j : Int} {R : Nat} (hR : magOf f R = 2 ^ a) (hj : placeOf f R = j) (h : e + m.log2 + 1 ≤ a + j) : rungOf f m e ≤ R := by
  apply rung_le
  rw [hR, hj]
  exact numle_pow h
theorem rung_log (f : Ieee.Format) {r : Nat} {a : Nat} {j : Int} {R : Nat} (hR : magOf f R = 2 ^ a) (hj : placeOf f R = j) (h : r ≤ R) (h0 : magOf f r ≠ 0) : placeOf f r + (magOf f r).log2 ≤ j + a := by
  have := (numle_of_rung f h).log h0
  rw [hR, hj, Nat.log2_two_pow] at this
  exact this

theorem nearest_word (f : Ieee.Format) (s : Bool) (m : Nat) (e : Int) {R : Nat} (h : rungOf f m e ≤ R) (hR : R < f.infRung) : f.nearest s m e = f.word s (rungOf f m e) := by
  rw [nearest_rung, Nat.min_eq_left (by omega)]

def narOk (z : Nat) : Prop := isNan .f64 z = true ∨ (cvBits .f64 .f32 z).isSome = true
/-- 'float32(z)', told. -/
def nar (z : Nat) : Nat := cn .f32 ((cvBits .f64 .f32 z).getD (nanOf .f32))
theorem cvBits_nan64 {z : Nat} (h : isNan .f64 z = true) : cvBits .f64 .f32 z = none := by
  obtain ⟨s, t, hr⟩ := read_nan h
  have : FloatKind.f64.decode z = .nan s t := hr
  simp [cvBits, this]
theorem nar_cn (z : Nat) : nar (cn .f64 z) = nar z := by
  unfold nar
  cases h : isNan .f64 z
  · rw [cn_num h]
  · rw [cvBits_nan64 h, cvBits_nan64 (by rw [isNan_cn]; exact h)]
theorem narOk_cn {z : Nat} : narOk (cn .f64 z) ↔ narOk z := by
  unfold narOk
  rw [isNan_cn]
  cases h : isNan .f64 z
  · rw [cn_num h]
  · simp
theorem cn_nar (z : Nat) : cn .f32 (nar z) = nar z := by unfold nar; rw [cn_cn]
theorem cn_cvR64 {z : Nat} (h : narOk z) (w : World) : cn .f32 (cvR .f64 .f32 z w) = nar z := by
  unfold cvR nar
  rcases h with h | h
  · obtain ⟨s, t, hr⟩ := read_nan h
    have hd : FloatKind.f64.decode z = .nan s t := hr
    rw [cvBits_nan64 h, hd]
    simp only [Option.getD_none]
    rw [cn_nan (drawn_conv _ _ _).1, cn_nan (isNan_nanOf _)]
  · obtain ⟨r, hr⟩ := Option.isSome_iff_exists.1 h
    rw [hr]; rfl
theorem wf_cvR64 (z : Nat) (w : World) : Wf .f32 (cvR .f64 .f32 z w) ∨ True := .inr trivial

/-- A number that is not too great is narrowed to a number. -/
theorem narOk_num {z : Nat} {s : Bool} {m : Nat} {e : Int} (h : FloatKind.f64.decode z = .number s m e) (hl : e + m.log2 ≤ 120) : narOk z := by
  right
  have hR : rungOf FloatKind.f32.format m e ≤ 2080374784 := by
    refine rung_pow _ (a := 23) (j := 98) ?_ ?_ (by omega)
    · decide +kernel
    · decide +kernel
  have hw := nearest_word FloatKind.f32.format s m e hR (by decide +kernel)
  have : (FloatKind.f32.decode (FloatKind.f32.encode (.number s m e))).isInfinity = false := by
    show (FloatKind.f32.decode (FloatKind.f32.format.nearest s m e)).isInfinity = false
    rw [hw]
    exact word_inf_false (Nat.lt_of_le_of_lt hR (by decide +kernel))
  simp [cvBits, h, this]
theorem narOk_inf {z : Nat} {s : Bool} (h : FloatKind.f64.decode z = .infinity s) : narOk z := by
  right
  simp [cvBits, h]

/-- What the square root gives, told. -/
def sq (x : Nat) : Nat := cn .f64 ((FloatKind.f64.format.sqrt x).getD (nanOf .f64))
def sqR (x : Nat) (w : World) : Nat := (FloatKind.f64.format.sqrt x).getD ((Question.nanBits .f64 x x).cut (w.tape w.drawn (.nanBits .f64 x x)))
def sqN (x : Nat) : Nat := if (FloatKind.f64.format.sqrt x).isSome then 0 else 1
theorem cn_sqR (x : Nat) (w : World) : cn .f64 (sqR x w) = sq x := by
  unfold sqR sq
  cases FloatKind.f64.format.sqrt x with
  | some r => rfl
  | none => simp only [Option.getD_none]; rw [cn_nan (drawn_nan _ x x _).1, cn_nan (isNan_nanOf _)]
theorem sqrt_nan {x : Nat} (h : isNan .f64 x = true) : FloatKind.f64.format.sqrt x = none := by
  obtain ⟨s, t, hr⟩ := read_nan h
  unfold Ieee.Format.sqrt
  rw [hr]; rfl
theorem sq_cn (x : Nat) : sq (cn .f64 x) = sq x := by
  unfold sq
  cases h : isNan .f64 x
  · rw [cn_num h]
  · rw [sqrt_nan h, sqrt_nan (by rw [isNan_cn]; exact h)]

section
variable {P : Program} {f : FuncId} {fn : Func}
theorem run_call_sqrt (hf : P.funcs[f]? = some fn) (hname : (fn.name == "runtime.NumGoroutine") = false) (hb : fn.body.isNone = true) (hn : Extern.findNext fn = none) (he : Extern.find fn = some Extern.MathSqrt.sqrt) (x : Nat) (w : World) :
    (callFunc f #[.float .f64 x]).run P w = .ok (.value (.float .f64 (sqR x w))) (w.drewN (sqN x)) := by
  rw [run_callFunc_extern hf hname hb hn he]
  change (Sem.run P (match FloatKind.f64.format.sqrt x with
    | some r => pure (Value.float .f64 r)
    | none => do pure (Value.float .f64 (← choose (.nanBits .f64 x x)))) w).andThen _ = _
  cases h : FloatKind.f64.format.sqrt x with
  | some r => simp [sqR, sqN, h, World.drewN_zero, Result.andThen]
  | none => simp [sqR, sqN, h, go_sem, World.drew_is_drewN, Result.andThen]
end

theorem rootFrom_sq (n : Nat) : ∀ todo root, root * root ≤ n → Ieee.Datum.rootFrom n todo root * Ieee.Datum.rootFrom n todo root ≤ n := by
  intro todo
  induction todo with
  | zero => intro root h; exact h
  | succ todo ih =>
    intro root h
    unfold Ieee.Datum.rootFrom
    apply ih
    split
    · assumption
    · exact h

/-- The square root of a number has half as many digits. -/
theorem root_log {d : Nat} {m : Nat} {i : Int} {N : Nat} {pl : Int} {s t : Bool} (h0 : m ≠ 0) (h : Ieee.Datum.root d (.number s m i) = some (.number t N pl)) (hl : i + m.log2 ≤ 200) : pl + N.log2 ≤ 101 := by
  unfold Ieee.Datum.root at h
  dsimp only at h
  rw [if_neg h0] at h
  cases s
  · simp only [Bool.false_eq_true, if_false, Option.some.injEq, Ieee.Datum.number.injEq] at h
    obtain ⟨_, hN, hpl⟩ := h
    generalize hM : 2 * d - m.log2 + ((i - (2 * d - m.log2 : Nat)) % 2).toNat = M at hN hpl
    have hev : (i - (M : Int)) % 2 = 0 := by omega
    generalize hn : m <<< M = n at hN
    have hnl : n.log2 ≤ m.log2 + M := by
      rw [← hn, Nat.shiftLeft_eq]
      apply log2_lt_of
      have : m * 2 ^ M < 2 ^ (m.log2 + 1) * 2 ^ M := Nat.mul_lt_mul_of_pos_right Nat.lt_log2_self (Nat.two_pow_pos _)
      rw [← Nat.pow_add] at this
      rwa [show m.log2 + M + 1 = m.log2 + 1 + M by omega]
    have hsq := rootFrom_sq n (n.log2 / 2 + 1) 0 (by omega)
    generalize Ieee.Datum.rootFrom n (n.log2 / 2 + 1) 0 = q at hN hsq
    have hql : 2 * q.log2 ≤ n.log2 := by
      by_cases hq : q = 0
      · subst hq; simp
      · have h1 : 2 ^ q.log2 ≤ q := Nat.log2_self_le hq
        have h2 : 2 ^ q.log2 * 2 ^ q.log2 ≤ n := Nat.le_trans (Nat.mul_le_mul h1 h1) hsq
        rw [← Nat.pow_add] at h2
        have h3 := (Nat.le_log2 (n := n) (by have := Nat.two_pow_pos (q.log2 + q.log2); omega)).2 h2
        omega
    have hNl : N.log2 ≤ q.log2 + 1 := by
      apply log2_lt_of
      have h1 : q < 2 ^ (q.log2 + 1) := Nat.lt_log2_self
      have h2 : (q * q != n).toNat ≤ 1 := Bool.toNat_le _
      rw [Nat.pow_succ 2 (q.log2 + 1)]
      omega
    omega
  · simp at h

/-- THE SQUARE ROOT OF A 32-BIT NUMBER IS NOT TOO GREAT FOR 32 BITS. -/
theorem narOk_sqrt (x : Nat) : narOk (sq (wide x)) := by
  unfold sq
  rw [narOk_cn]
  unfold wide
  rw [show ∀ y, FloatKind.f64.format.sqrt (cn .f64 y) = FloatKind.f64.format.sqrt y by
    intro y
    cases h : isNan .f64 y
    · rw [cn_num h]
    · rw [sqrt_nan h, sqrt_nan (by rw [isNan_cn]; exact h)]]
  cases hd : FloatKind.f32.decode x with
  | nan s t =>
    have : cvBits .f32 .f64 x = none := by simp [cvBits, hd]
    rw [this]
    left
    rw [Option.getD_none, sqrt_nan (isNan_nanOf _)]
    exact isNan_nanOf _
  | infinity s =>
    have : cvBits .f32 .f64 x = some (FloatKind.f64.encode (.infinity s)) := by simp [cvBits, hd]
    rw [this]
    cases s
    · exact narOk_inf (s := false) (by decide +kernel)
    · left; decide +kernel
  | number s m e =>
    rw [cvBits_num hd]
    obtain ⟨hm, h1, h2⟩ := read32 hd
    have hlog : m.log2 ≤ 23 := log2_lt_of (b := 23) (by omega)
    simp only [Option.getD_some]
    have hR : rungOf FloatKind.f64.format m e ≤ 5183643171103440896 := by
      refine rung_pow _ (a := 52) (j := 76) ?_ ?_ (by omega)
      · decide +kernel
      · decide +kernel
    have hw : FloatKind.f64.encode (.number s m e) = FloatKind.f64.format.word s (rungOf FloatKind.f64.format m e) := nearest_word FloatKind.f64.format s m e hR (by decide +kernel)
    have hrd := read_word (k := .f64) (s := s) (r := rungOf FloatKind.f64.format m e) (Nat.lt_of_le_of_lt hR (by decide +kernel))
    rw [hw]
    generalize rungOf FloatKind.f64.format m e = r at hR hrd
    unfold Ieee.Format.sqrt
    rw [hrd]
    by_cases h0 : magOf FloatKind.f64.format r = 0
    · rw [h0]
      have : Ieee.Datum.root (FloatKind.f64.format.fractionBits + 2) (.number s 0 (placeOf FloatKind.f64.format r)) = some (.number s 0 (placeOf FloatKind.f64.format r)) := by simp [Ieee.Datum.root]
      rw [this]
      simp only [Option.map_some, Option.getD_some, Ieee.Format.write]
      rw [nearest_zero]
      obtain ⟨p, hp⟩ := read_zero_word .f64 s
      by_cases hp2 : p ≤ 120
      · exact narOk_num (s := s) (m := 0) (e := p) hp (by simpa using hp2)
      · right
        have : (FloatKind.f32.decode (FloatKind.f32.encode (.number s 0 p))).isInfinity = false := by
          show (FloatKind.f32.decode (FloatKind.f32.format.nearest s 0 p)).isInfinity = false
          rw [nearest_zero]
          exact word_inf_false (by decide +kernel)
        have hp' : FloatKind.f64.decode (FloatKind.f64.format.word s 0) = .number s 0 p := hp
        simp [cvBits, hp', this]
    · have hlg := rung_log FloatKind.f64.format (a := 52) (j := 76) (R := 5183643171103440896) (by decide +kernel) (by decide +kernel) hR h0
      cases hroot : Ieee.Datum.root (FloatKind.f64.format.fractionBits + 2) (.number s (magOf FloatKind.f64.format r) (placeOf FloatKind.f64.format r)) with
      | none => left; simp only [Option.map_none, Option.getD_none]; exact isNan_nanOf _
      | some d =>
        have hnum : ∃ N pl, d = .number false N pl := by
          unfold Ieee.Datum.root at hroot
          dsimp only at hroot
          rw [if_neg h0] at hroot
          cases s
          · simp only [Bool.false_eq_true, if_false, Option.some.injEq] at hroot
            exact ⟨_, _, hroot.symm⟩
          · simp at hroot
        obtain ⟨N, pl, rfl⟩ := hnum
        have hNl := root_log h0 hroot (by omega)
        simp only [Option.map_some, Option.getD_some, Ieee.Format.write]
        have hR2 : rungOf FloatKind.f64.format N pl ≤ 5071053180419178496 := by
          refine rung_pow _ (a := 52) (j := 51) ?_ ?_ (by omega)
          · decide +kernel
          · decide +kernel
        rw [nearest_word FloatKind.f64.format false N pl hR2 (by decide +kernel)]
        have hrd2 := read_word (k := .f64) (s := false) (r := rungOf FloatKind.f64.format N pl) (Nat.lt_of_le_of_lt hR2 (by decide +kernel))
        generalize rungOf FloatKind.f64.format N pl = r2 at hR2 hrd2
        by_cases h02 : magOf FloatKind.f64.format r2 = 0
        · refine narOk_num (e := placeOf FloatKind.f64.format r2) hrd2 ?_
          rw [h02]
          have : r2 < FloatKind.f64.format.binade := by
            unfold magOf at h02
            have hB := binade_pos FloatKind.f64.format
            split at h02
            · assumption
            · omega
          unfold placeOf
          rw [if_pos this]
          decide +kernel
        · have hlg2 := rung_log FloatKind.f64.format (a := 52) (j := 51) (R := 5071053180419178496) (by decide +kernel) (by decide +kernel) hR2 h02
          exact narOk_num hrd2 (by omega)

/-- 'float32(math.Sqrt(float64(x)))', told. -/
def rootOf (x : Nat) : Nat := nar (sq (wide x))
theorem rootOf_cn (x : Nat) : rootOf (cn .f32 x) = rootOf x := by unfold rootOf; rw [wide_cn]
end Go.Proofs.Yteabfkgbakoljaa.Fl
