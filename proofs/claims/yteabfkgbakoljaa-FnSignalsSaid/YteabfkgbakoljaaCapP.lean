/-
  Two ways to the lesser one of two differences.
-/
import Derived.Test.YteabfkgbakoljaaMax
namespace Go.Proofs.Yteabfkgbakoljaa.Fl
open Go.RowKit
set_option linter.unusedVariables false

theorem width_sw (k : FloatKind) : 2 ^ k.format.width = k.format.signWeight * 2 := by
  unfold Ieee.Format.width Ieee.Format.signWeight
  rw [← Nat.pow_succ]
  congr 1
  omega
theorem sw_pos (f : Ieee.Format) : 0 < f.signWeight := Nat.two_pow_pos _
/-- A word is a sign and a rung. -/
theorem wf_word {k : FloatKind} {x : Nat} (h : Wf k x) : x = k.format.word (x / k.format.signWeight % 2 == 1) (x % k.format.signWeight) := by
  unfold Wf at h
  rw [width_sw] at h
  have hp := sw_pos k.format
  have hd := Nat.div_add_mod x k.format.signWeight
  have hq : x / k.format.signWeight < 2 := by rw [Nat.div_lt_iff_lt_mul hp, Nat.mul_comm]; exact h
  unfold Ieee.Format.word
  generalize x % k.format.signWeight = r at *
  generalize x / k.format.signWeight = q at *
  rcases Nat.lt_or_ge q 1 with h1 | h1
  · obtain rfl : q = 0 := by omega
    simp at hd ⊢
    omega
  · obtain rfl : q = 1 := by omega
    simp at hd ⊢
    omega
theorem read_of_rung {k : FloatKind} {x : Nat} {s : Bool} {m : Nat} {i : Int} (h : k.format.read x = .number s m i) :
    s = (x / k.format.signWeight % 2 == 1) ∧ x % k.format.signWeight < k.format.infRung ∧ m = magOf k.format (x % k.format.signWeight) ∧ i = placeOf k.format (x % k.format.signWeight) := by
  have hlt := Ieee.Format.infRung_lt k.format
  have hbi : k.format.binade ≤ k.format.infRung := by cases k <;> decide +kernel
  unfold Ieee.Format.read at h
  unfold magOf placeOf
  simp only at h
  split at h
  · rename_i h1
    injection h with h2 h3 h4
    rw [if_pos h1, if_pos h1]
    exact ⟨h2.symm, by omega, h3.symm, h4.symm⟩
  · split at h
    · rename_i h1 h1'
      injection h with h2 h3 h4
      rw [if_neg h1, if_neg h1]
      exact ⟨h2.symm, h1', h3.symm, h4.symm⟩
    · split at h <;> cases h
theorem place_ge (f : Ieee.Format) (r : Nat) : f.leastPlace ≤ placeOf f r := by unfold placeOf; split <;> omega
theorem read_inf {k : FloatKind} {x : Nat} {s : Bool} (h : k.format.read x = .infinity s) : s = (x / k.format.signWeight % 2 == 1) ∧ x % k.format.signWeight = k.format.infRung := by
  unfold Ieee.Format.read at h
  simp only at h
  split at h
  · cases h
  · split at h
    · cases h
    · split at h
      · rename_i h1; injection h with h2; exact ⟨h2.symm, h1⟩
      · cases h
theorem mag_zero {f : Ieee.Format} {r : Nat} (h : magOf f r = 0) : r = 0 := by
  have := binade_pos f
  unfold magOf at h
  split at h <;> omega

theorem rung_eq {f : Ieee.Format} {r r' : Nat} (h1 : NumLe (magOf f r) (placeOf f r) (magOf f r') (placeOf f r')) (h2 : NumLe (magOf f r') (placeOf f r') (magOf f r) (placeOf f r)) : r = r' := by
  have a := rung_mono f h1
  have b := rung_mono f h2
  rw [rung_read, rung_read] at a b
  omega

theorem isNan_word' {k : FloatKind} {s : Bool} {r : Nat} (h : r ≤ k.format.infRung) : isNan k (k.format.word s r) = false := by
  unfold isNan Ieee.Format.read Ieee.Format.word
  have hlt := Ieee.Format.infRung_lt k.format
  have hw : 0 < k.format.signWeight := by omega
  have hm : (if s = true then k.format.signWeight + r else r) % k.format.signWeight = r := by
    split
    · rw [Nat.add_mod_left, Nat.mod_eq_of_lt (by omega)]
    · exact Nat.mod_eq_of_lt (by omega)
  simp only [hm]
  split
  · rfl
  · split
    · rfl
    · rw [if_pos (by omega)]; rfl
theorem isNan_nearest' (k : FloatKind) (s : Bool) (m : Nat) (e : Int) : isNan k (k.format.nearest s m e) = false := by
  unfold Ieee.Format.nearest
  split
  · exact isNan_word' (Nat.zero_le _)
  · exact isNan_word' (Nat.min_le_right _ _)

theorem order_eq {k : FloatKind} {x y : Nat} (hx : Wf k x) (hy : Wf k y) (h : k.format.order x y = some .eq) : x = y ∨ ∃ s i t j, k.format.read x = .number s 0 i ∧ k.format.read y = .number t 0 j := by
  have wx := wf_word hx
  have wy := wf_word hy
  cases rx : k.format.read x with
  | nan s t => unfold Ieee.Format.order at h; rw [rx] at h; simp [Ieee.Datum.order] at h
  | infinity s =>
    cases ry : k.format.read y with
    | nan s t => unfold Ieee.Format.order at h; rw [rx, ry] at h; simp [Ieee.Datum.order] at h
    | number t n j => unfold Ieee.Format.order at h; rw [rx, ry] at h; cases s <;> simp [Ieee.Datum.order] at h
    | infinity t =>
      have hst : s = t := by unfold Ieee.Format.order at h; rw [rx, ry] at h; cases s <;> cases t <;> first | rfl | (exact absurd h (by decide))
      obtain ⟨a1, a2⟩ := read_inf rx
      obtain ⟨b1, b2⟩ := read_inf ry
      left
      rw [wx, wy, ← a1, ← b1, a2, b2, hst]
  | number s m i =>
    cases ry : k.format.read y with
    | nan s t => unfold Ieee.Format.order at h; rw [rx, ry] at h; simp [Ieee.Datum.order] at h
    | infinity t => unfold Ieee.Format.order at h; rw [rx, ry] at h; cases t <;> simp [Ieee.Datum.order] at h
    | number t n j =>
      rw [order_num rx ry (b := min i j) (by omega) (by omega)] at h
      obtain ⟨a1, a2, a3, a4⟩ := read_of_rung rx
      obtain ⟨b1, b2, b3, b4⟩ := read_of_rung ry
      have hv : sval s m i (min i j) = sval t n j (min i j) := by
        injection h with h
        rw [compare_int] at h
        split at h
        · cases h
        · split at h
          · assumption
          · cases h
      have key : m * 2 ^ (i - min i j).toNat = n * 2 ^ (j - min i j).toNat → s = t → x = y := by
        intro he hst
        have hr : x % k.format.signWeight = y % k.format.signWeight := by
          apply rung_eq (f := k.format)
          · rw [← a3, ← a4, ← b3, ← b4]; unfold NumLe; omega
          · rw [← a3, ← a4, ← b3, ← b4]; unfold NumLe; rw [Int.min_comm j i]; omega
        rw [wx, wy, ← a1, ← b1, hr, hst]
      unfold sval Ieee.signed at hv
      rw [Nat.shiftLeft_eq, Nat.shiftLeft_eq] at hv
      have z0 : ∀ (a : Nat) (e : Nat), a * 2 ^ e = 0 → a = 0 := by
        intro a e he
        rcases Nat.mul_eq_zero.1 he with h | h
        · exact h
        · exact absurd h (by have := Nat.two_pow_pos e; omega)
      have hs := z0 m (i - min i j).toNat
      have ht := z0 n (j - min i j).toNat
      generalize m * 2 ^ (i - min i j).toNat = a at *
      generalize n * 2 ^ (j - min i j).toNat = b at *
      cases s <;> cases t
      · left; exact key (by simp at hv; omega) rfl
      · simp at hv
        obtain rfl := hs (by omega)
        obtain rfl := ht (by omega)
        exact .inr ⟨_, _, _, _, rfl, rfl⟩
      · simp at hv
        obtain rfl := hs (by omega)
        obtain rfl := ht (by omega)
        exact .inr ⟨_, _, _, _, rfl, rfl⟩
      · left; exact key (by simp at hv; omega) rfl

theorem order_swap (k : FloatKind) (x y : Nat) : k.format.order y x = (k.format.order x y).map Ordering.swap := by
  unfold Ieee.Format.order
  cases k.format.read x with
  | nan s t => cases k.format.read y <;> rfl
  | infinity s =>
    cases k.format.read y with
    | nan s t => rfl
    | number t n j => cases s <;> rfl
    | infinity t => cases s <;> cases t <;> rfl
  | number s m i =>
    cases k.format.read y with
    | nan s t => rfl
    | infinity t => cases t <;> rfl
    | number t n j =>
      simp only [Ieee.Datum.order, Option.map_some, Int.min_comm j i]
      rw [compare_int, compare_int]
      congr 1
      split
      · rw [if_neg (by omega), if_neg (by omega)]; rfl
      · split
        · rw [if_neg (by omega), if_pos (by omega)]; rfl
        · rw [if_pos (by omega)]; rfl

theorem wf_fb (op : BinOp) (k : FloatKind) (x y : Nat) : Wf k (fb op k x y) := by
  unfold fb
  have hn : Wf k (nanOf k) := by cases k <;> (unfold Wf; decide +kernel)
  cases h : floatBits op k x y with
  | none => simp only [Option.getD_none]; rw [cn_nan (isNan_nanOf k)]; exact hn
  | some r =>
    simp only [Option.getD_some]
    unfold cn
    split
    · exact hn
    · exact lt_of_wf (floatBits_wf h)

/-- A difference that is nought is one of equal numbers. -/
theorem sub_zero {k : FloatKind} {x y : Nat} {s : Bool} {i : Int} (h : k.format.read (fb .sub k x y) = .number s 0 i) : k.format.order x y = some .eq := by
  have hnan : ∀ z, isNan k z = true → k.format.read z ≠ .number s 0 i := by
    intro z hz he
    have := num_nan he
    rw [hz] at this; cases this
  have hinf : ∀ g : Bool, k.format.read (cn k (k.format.write (.infinity g))) ≠ .number s 0 i := by
    intro g he
    have : ∀ t, k.format.read (cn k (k.format.write (.infinity g))) = .infinity t → False := by intro t ht; rw [ht] at he; cases he
    exact this g (by cases k <;> cases g <;> decide +kernel)
  unfold fb floatBits Ieee.Format.sub at h
  simp only at h
  cases rx : k.format.read x with
  | nan a b => rw [rx] at h; simp only [Ieee.Datum.sum, Option.map_none, Option.getD_none] at h; rw [cn_nan (isNan_nanOf k)] at h; exact absurd h (hnan _ (isNan_nanOf k))
  | infinity a =>
    rw [rx] at h
    cases ry : k.format.read y with
    | nan c d => rw [ry] at h; simp only [Ieee.Datum.sum, Ieee.Datum.opposite, Option.map_none, Option.getD_none] at h; rw [cn_nan (isNan_nanOf k)] at h; exact absurd h (hnan _ (isNan_nanOf k))
    | infinity c =>
      rw [ry] at h
      simp only [Ieee.Datum.sum, Ieee.Datum.opposite] at h
      split at h
      · exact absurd h (hinf _)
      · simp only [Option.map_none, Option.getD_none] at h; rw [cn_nan (isNan_nanOf k)] at h; exact absurd h (hnan _ (isNan_nanOf k))
    | number c n j => rw [ry] at h; exact absurd h (hinf _)
  | number a m p =>
    rw [rx] at h
    cases ry : k.format.read y with
    | nan c d => rw [ry] at h; simp only [Ieee.Datum.sum, Ieee.Datum.opposite, Option.map_none, Option.getD_none] at h; rw [cn_nan (isNan_nanOf k)] at h; exact absurd h (hnan _ (isNan_nanOf k))
    | infinity c => rw [ry] at h; exact absurd h (hinf _)
    | number c n j =>
      rw [ry] at h
      simp only [Ieee.Datum.sum, Ieee.Datum.opposite, Option.map_some, Option.getD_some, Ieee.Format.write] at h
      rw [order_num rx ry (b := min p j) (by omega) (by omega)]
      have hneg : Ieee.signed (!c) n (j - min p j).toNat = - Ieee.signed c n (j - min p j).toNat := by
        unfold Ieee.signed
        cases c <;> simp
      rw [hneg] at h
      have hp1 := (read_of_rung rx).2.2.2
      have hp2 := (read_of_rung ry).2.2.2
      have g1 := place_ge k.format (x % k.format.signWeight)
      have g2 := place_ge k.format (y % k.format.signWeight)
      rw [← hp1] at g1
      rw [← hp2] at g2
      unfold sval
      generalize Ieee.signed a m (p - min p j).toNat = A at *
      generalize Ieee.signed c n (j - min p j).toNat = B at *
      rw [compare_int]
      rcases Classical.em (A = B) with he | he
      · rw [if_neg (by omega), if_pos he]
      · exfalso
        rw [if_neg (by omega)] at h
        have hT : (A + -B).natAbs ≠ 0 := by omega
        generalize (A + -B).natAbs = T at *
        generalize (decide (A + -B < 0)) = sg at *
        rw [cn_num (isNan_nearest' k sg T (min p j)), nearest_rung] at h
        have h1 : 1 ≤ rungOf k.format T (min p j) := by
          apply rung_ge
          have hb : (1 : Nat) < k.format.binade := by cases k <;> decide +kernel
          have : magOf k.format 1 = 1 := by unfold magOf; rw [if_pos hb]
          rw [this]
          have : placeOf k.format 1 = k.format.leastPlace := by unfold placeOf; rw [if_pos hb]
          rw [this]
          unfold NumLe
          rw [Int.min_eq_left (by omega), Int.sub_self]
          simp only [Int.toNat_zero, Nat.pow_zero, Nat.mul_one]
          exact Nat.mul_pos (by omega) (Nat.two_pow_pos _)
        rcases Nat.lt_or_ge (rungOf k.format T (min p j)) k.format.infRung with h2 | h2
        · rw [Nat.min_eq_left (by omega), read_word h2] at h
          injection h with h3 h4 h5
          have := mag_zero h4
          omega
        · rw [Nat.min_eq_right h2] at h
          exact hinf sg (by rw [show k.format.write (.infinity sg) = k.format.word sg k.format.infRung from rfl, cn_num (by cases k <;> cases sg <;> decide +kernel)]; exact h)

/-- THE LESSER DIFFERENCE. -/
theorem mm_least {k : FloatKind} {lo hi m : Nat} (hlo : fin k lo = true) (hhi : fin k hi = true) (hlt : k.format.order lo hi = some .lt) :
    mm false k (fb .sub k hi m) (fb .sub k m lo) = if (k.format.order (fb .sub k m lo) (fb .sub k hi m) == some .lt) = true then fb .sub k m lo else fb .sub k hi m := by
  rw [order_swap k (fb .sub k hi m) (fb .sub k m lo)]
  have hx := wf_fb .sub k hi m
  have hy := wf_fb .sub k m lo
  unfold mm mmBits
  cases h : k.format.order (fb .sub k hi m) (fb .sub k m lo) with
  | none =>
    simp only [Option.map_none, Option.getD_none]
    rw [cn_nan (isNan_nanOf k)]
    rw [if_neg (by decide)]
    -- m is a not-a-number
    cases hm : isNan k m with
    | true => unfold fb; rw [floatBits_nan_right hm]; simp only [Option.getD_none]; rw [cn_nan (isNan_nanOf k)]
    | false =>
      exfalso
      obtain ⟨a, m1, i1, r1⟩ := (fin_iff k lo).1 hlo
      obtain ⟨b, m2, i2, r2⟩ := (fin_iff k hi).1 hhi
      have n1 : isNan k (fb .sub k hi m) = false := by
        unfold fb floatBits Ieee.Format.sub
        rw [r2]
        cases rm : k.format.read m with
        | nan c d => unfold isNan at hm; rw [rm] at hm; cases hm
        | infinity c => rw [isNan_cn]; simp only [Ieee.Datum.opposite, Ieee.Datum.sum, Option.map_some, Option.getD_some]; cases k <;> cases c <;> decide +kernel
        | number c n j => rw [isNan_cn]; exact isNan_nearest' _ _ _ _
      have n2 : isNan k (fb .sub k m lo) = false := by
        unfold fb floatBits Ieee.Format.sub
        rw [r1]
        cases rm : k.format.read m with
        | nan c d => unfold isNan at hm; rw [rm] at hm; cases hm
        | infinity c => rw [isNan_cn]; simp only [Ieee.Datum.opposite, Ieee.Datum.sum, Option.map_some, Option.getD_some]; cases k <;> cases c <;> decide +kernel
        | number c n j => rw [isNan_cn]; exact isNan_nearest' _ _ _ _
      generalize fb .sub k hi m = X at *
      generalize fb .sub k m lo = Y at *
      unfold Ieee.Format.order at h
      unfold isNan at n1 n2
      cases rX : k.format.read X with
      | nan c d => rw [rX] at n1; cases n1
      | infinity c =>
        cases rY : k.format.read Y with
        | nan c d => rw [rY] at n2; cases n2
        | infinity d => rw [rX, rY] at h; simp [Ieee.Datum.order] at h
        | number d n j => rw [rX, rY] at h; simp [Ieee.Datum.order] at h
      | number c m i =>
        cases rY : k.format.read Y with
        | nan c d => rw [rY] at n2; cases n2
        | infinity d => rw [rX, rY] at h; simp [Ieee.Datum.order] at h
        | number d n j => rw [rX, rY] at h; simp [Ieee.Datum.order] at h
  | some o =>
    cases o with
    | lt => exact cn_fb .sub k hi m
    | gt => exact cn_fb .sub k m lo
    | eq =>
      show cn k (if (k.decode (fb .sub k hi m)).neg = false then fb .sub k m lo else fb .sub k hi m) = fb .sub k hi m
      rcases order_eq hx hy h with he | ⟨s, i, t, j, h1, h2⟩
      · rw [← he]
        rw [show (if (k.decode (fb .sub k hi m)).neg = false then fb .sub k hi m else fb .sub k hi m) = fb .sub k hi m by split <;> rfl, cn_fb]
      · exfalso
        have e1 := sub_zero h1
        have e2 := sub_zero h2
        -- hi = m, m = lo
        obtain ⟨a, m1, i1, r1⟩ := (fin_iff k lo).1 hlo
        obtain ⟨b, m2, i2, r2⟩ := (fin_iff k hi).1 hhi
        cases rm : k.format.read m with
        | nan c d => unfold Ieee.Format.order at e1; rw [r2, rm] at e1; simp [Ieee.Datum.order] at e1
        | infinity c => unfold Ieee.Format.order at e1; rw [r2, rm] at e1; cases c <;> simp [Ieee.Datum.order] at e1
        | number c m3 i3 =>
          have b1 : min i1 (min i2 i3) ≤ i1 := by omega
          have b2 : min i1 (min i2 i3) ≤ i2 := by omega
          have b3 : min i1 (min i2 i3) ≤ i3 := by omega
          rw [order_num r2 rm b2 b3, compare_int] at e1
          rw [order_num rm r1 b3 b1, compare_int] at e2
          rw [order_num r1 r2 b1 b2, compare_int] at hlt
          simp only [Option.some.injEq] at e1 e2 hlt
          split at hlt
          · rename_i g1
            split at e1
            · cases e1
            · split at e1
              · split at e2
                · cases e2
                · split at e2
                  · omega
                  · cases e2
              · cases e1
          · split at hlt <;> cases hlt
end Go.Proofs.Yteabfkgbakoljaa.Fl
