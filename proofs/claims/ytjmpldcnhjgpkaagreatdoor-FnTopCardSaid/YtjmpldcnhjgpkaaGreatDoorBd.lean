/-
  'min' and 'max' of floats as rules of the walk, and the greatest absolute value in two ways.
-/
import Derived.Test.YtjmpldcnhjgpkaaGreatDoorOps
namespace Go.Proofs.YtjmpldcnhjgpkaaGreatDoor.Fl
open Go.RowKit
set_option linter.unusedVariables false

/-- The greater one (mx) or the lesser one of two numbers; none: a not-a-number. -/
def mmBits (mx : Bool) (k : FloatKind) (x y : Nat) : Option Nat :=
  match k.format.order x y with
  | none => none
  | some .lt => some (if mx then y else x)
  | some .gt => some (if mx then x else y)
  | some .eq => some (if (k.decode x).neg = mx then y else x)
def mmR (mx : Bool) (k : FloatKind) (x y : Nat) (w : World) : Nat := (mmBits mx k x y).getD ((Question.nanMinMax k mx x y).cut (w.tape w.drawn (.nanMinMax k mx x y)))
def mmN (mx : Bool) (k : FloatKind) (x y : Nat) : Nat := if (mmBits mx k x y).isSome then 0 else 1
/-- The same, told. -/
def mm (mx : Bool) (k : FloatKind) (x y : Nat) : Nat := cn k ((mmBits mx k x y).getD (nanOf k))
theorem cn_mmR (mx : Bool) (k : FloatKind) (x y : Nat) (w : World) : cn k (mmR mx k x y w) = mm mx k x y := by
  unfold mmR mm
  cases mmBits mx k x y with
  | some r => rfl
  | none => simp only [Option.getD_none]; rw [cn_nan (drawn_minmax k mx x y _).1, cn_nan (isNan_nanOf k)]
theorem cn_mm (mx : Bool) (k : FloatKind) (x y : Nat) : cn k (mm mx k x y) = mm mx k x y := by unfold mm; rw [cn_cn]
theorem order_nanl {k : FloatKind} {x : Nat} (h : isNan k x = true) (y : Nat) : k.format.order x y = none := by
  obtain ⟨s, t, hr⟩ := read_nan h
  unfold Ieee.Format.order
  rw [hr]; rfl
theorem order_nanr {k : FloatKind} {y : Nat} (h : isNan k y = true) (x : Nat) : k.format.order x y = none := by
  obtain ⟨s, t, hr⟩ := read_nan h
  unfold Ieee.Format.order
  rw [hr]
  cases k.format.read x <;> rfl
theorem mm_cnl (mx : Bool) (k : FloatKind) (x y : Nat) : mm mx k (cn k x) y = mm mx k x y := by
  cases h : isNan k x
  · rw [cn_num h]
  · unfold mm mmBits
    rw [order_nanl h, order_nanl (by rw [isNan_cn]; exact h)]
theorem mm_cnr (mx : Bool) (k : FloatKind) (x y : Nat) : mm mx k x (cn k y) = mm mx k x y := by
  cases h : isNan k y
  · rw [cn_num h]
  · unfold mm mmBits
    rw [order_nanr h, order_nanr (by rw [isNan_cn]; exact h)]

section
variable {P : Program}
theorem run_max2_float (k k' : FloatKind) (x y : Nat) (w : World) : (Builtin.max2 (.float k x) (.float k' y)).run P w = .ok (.float k (mmR true k x y w)) (w.drewN (mmN true k x y)) := by
  unfold Builtin.max2 mmR mmN mmBits
  cases h : k.format.order x y with
  | none => simp [h, go_sem, World.drew_is_drewN]
  | some o => cases o <;> simp [h, World.drewN_zero]
theorem run_min2_float (k k' : FloatKind) (x y : Nat) (w : World) : (Builtin.min2 (.float k x) (.float k' y)).run P w = .ok (.float k (mmR false k x y w)) (w.drewN (mmN false k x y)) := by
  unfold Builtin.min2 mmR mmN mmBits
  cases h : k.format.order x y with
  | none => simp [h, go_sem, World.drew_is_drewN]
  | some o => cases o <;> simp [h, World.drewN_zero] <;> cases (k.decode x).neg <;> rfl
@[go_sem] theorem run_max_float2 (ts : Array TypeId) (t : TypeId) (k k' : FloatKind) (x y : Nat) (w : World) : (Builtin.max_ ts t #[.float k x, .float k' y]).run P w = .ok (.float k (mmR true k x y w)) (w.drewN (mmN true k x y)) := by
  simp only [Builtin.max_, List.foldlM_cons, List.foldlM_nil, bind_pure, run_max2_float]
@[go_sem] theorem run_min_float2 (ts : Array TypeId) (t : TypeId) (k k' : FloatKind) (x y : Nat) (w : World) : (Builtin.min_ ts t #[.float k x, .float k' y]).run P w = .ok (.float k (mmR false k x y w)) (w.drewN (mmN false k x y)) := by
  simp only [Builtin.min_, List.foldlM_cons, List.foldlM_nil, bind_pure, run_min2_float]
@[go_sem] theorem run_max_float3 (ts : Array TypeId) (t : TypeId) (k k' k'' : FloatKind) (x y z : Nat) (w : World) : (Builtin.max_ ts t #[.float k x, .float k' y, .float k'' z]).run P w =
    .ok (.float k (mmR true k (mmR true k x y w) z (w.drewN (mmN true k x y)))) (w.drewN (mmN true k x y + mmN true k (mmR true k x y w) z)) := by
  simp only [Builtin.max_, List.foldlM_cons, List.foldlM_nil, bind_pure, Sem.run_bind, run_max2_float, Result.andThen_ok, World.drewN_drewN]
end

theorem read_neg (k : FloatKind) (x : Nat) : k.format.read (Op.negFloat k x) = (k.format.read x).opposite := by
  have h1 : Op.negFloat k x % k.format.signWeight = x % k.format.signWeight := by
    unfold Op.negFloat Ieee.Format.signWeight
    rw [Nat.xor_mod_two_pow, Nat.mod_self, Nat.xor_zero]
  have h2 : Op.negFloat k x / k.format.signWeight % 2 = 1 - x / k.format.signWeight % 2 := by
    unfold Op.negFloat Ieee.Format.signWeight
    rw [Nat.xor_div_two_pow, Nat.div_self (Nat.two_pow_pos _)]
    generalize x / 2 ^ (k.format.exponentBits + k.format.fractionBits) = q
    have := Nat.xor_mod_two_pow (a := q) (b := 1) (n := 1)
    simp only [Nat.pow_one] at this
    rw [this]
    rcases Nat.mod_two_eq_zero_or_one q with h | h <;> rw [h] <;> rfl
  unfold Ieee.Format.read
  simp only [h1, h2]
  have h3 : (1 - x / k.format.signWeight % 2 == 1) = !(x / k.format.signWeight % 2 == 1) := by
    rcases Nat.mod_two_eq_zero_or_one (x / k.format.signWeight) with h | h <;> rw [h] <;> rfl
  rw [h3]
  split
  · rfl
  · split
    · rfl
    · split <;> rfl

theorem signed_false (m u : Nat) : 0 ≤ Ieee.signed false m u := by unfold Ieee.signed; rw [if_neg (by simp)]; exact Int.natCast_nonneg _
theorem signed_true (m u : Nat) : Ieee.signed true m u ≤ 0 := by unfold Ieee.signed; rw [if_pos rfl]; have := Int.natCast_nonneg (m <<< u); omega
theorem ord_pn {k : FloatKind} {x y m n : Nat} {i j : Int} (hx : k.format.read x = .number false m i) (hy : k.format.read y = .number true n j) : k.format.order x y = some .gt ∨ k.format.order x y = some .eq := by
  rw [order_num hx hy (b := min i j) (by omega) (by omega), compare_int]
  have h1 := signed_false m (i - min i j).toNat
  have h2 := signed_true n (j - min i j).toNat
  unfold sval
  split
  · omega
  · split <;> simp
theorem ord_np {k : FloatKind} {x y m n : Nat} {i j : Int} (hx : k.format.read x = .number true m i) (hy : k.format.read y = .number false n j) : k.format.order x y = some .lt ∨ k.format.order x y = some .eq := by
  rw [order_num hx hy (b := min i j) (by omega) (by omega), compare_int]
  have h1 := signed_true m (i - min i j).toNat
  have h2 := signed_false n (j - min i j).toNat
  unfold sval
  split
  · simp
  · split
    · simp
    · omega
theorem num_nan {k : FloatKind} {x : Nat} {s : Bool} {m : Nat} {i : Int} (h : k.format.read x = .number s m i) : isNan k x = false := by unfold isNan; rw [h]; rfl
theorem mm_pn {k : FloatKind} {x y m n : Nat} {i j : Int} (hx : k.format.read x = .number false m i) (hy : k.format.read y = .number true n j) : mm true k x y = x := by
  have hd : k.decode x = .number false m i := hx
  unfold mm mmBits
  rcases ord_pn hx hy with h | h
  · rw [h]; exact cn_num (num_nan hx)
  · rw [h]; simp only [hd, Ieee.Datum.neg, Bool.false_eq_true, if_false, Option.getD_some]; exact cn_num (num_nan hx)
theorem mm_np {k : FloatKind} {x y m n : Nat} {i j : Int} (hx : k.format.read x = .number true m i) (hy : k.format.read y = .number false n j) : mm true k x y = y := by
  have hd : k.decode x = .number true m i := hx
  unfold mm mmBits
  rcases ord_np hx hy with h | h
  · rw [h]; exact cn_num (num_nan hy)
  · rw [h]; simp only [hd, Ieee.Datum.neg, if_true, Option.getD_some]; exact cn_num (num_nan hy)
theorem mm_pp {k : FloatKind} {x y m n : Nat} {i j : Int} (hx : k.format.read x = .number false m i) (hy : k.format.read y = .number false n j) : ∃ m i, k.format.read (mm true k x y) = .number false m i := by
  have ho := order_num hx hy (b := min i j) (by omega) (by omega)
  unfold mm mmBits
  rw [ho]
  generalize compare (sval false m i (min i j)) (sval false n j (min i j)) = o
  cases o
  · simp only [if_true, Option.getD_some]; rw [cn_num (num_nan hy)]; exact ⟨_, _, hy⟩
  · have hd : k.decode x = .number false m i := hx
    simp only [hd, Ieee.Datum.neg, Bool.false_eq_true, if_false, Option.getD_some]; rw [cn_num (num_nan hx)]; exact ⟨_, _, hx⟩
  · simp only [if_true, Option.getD_some]; rw [cn_num (num_nan hx)]; exact ⟨_, _, hx⟩

/-- A number that is at least 0, and has no minus sign. -/
def Pos (k : FloatKind) (x : Nat) : Prop := ∃ m i, k.format.read x = .number false m i
/-- The greatest absolute value in two ways. -/
theorem peak_step {k : FloatKind} {p x : Nat} (hp : Pos k p) (hx : fin k x = true) :
    mm true k p (mm true k x (Op.negFloat k x)) = mm true k (mm true k p x) (Op.negFloat k x) ∧ Pos k (mm true k p (mm true k x (Op.negFloat k x))) := by
  obtain ⟨m, i, hp⟩ := hp
  obtain ⟨s, n, j, hx⟩ := (fin_iff k x).1 hx
  have hn : k.format.read (Op.negFloat k x) = .number (!s) n j := by rw [read_neg, hx]; rfl
  cases s
  · rw [mm_pn hx hn]
    obtain ⟨m', i', hq⟩ := mm_pp hp hx
    rw [mm_pn hq hn]
    exact ⟨rfl, _, _, hq⟩
  · rw [mm_np hx hn, mm_pn hp hx]
    exact ⟨rfl, mm_pp hp hn⟩
theorem pos_zero : Pos .f32 0 := ⟨0, -149, by decide +kernel⟩

/-- The greatest absolute value of numbers. -/
def peakTo (xs : List Nat) : Nat := xs.foldl (fun p x => mm true .f32 p (mm true .f32 x (Op.negFloat .f32 x))) 0
theorem peakTo_snoc (xs : List Nat) (x : Nat) : peakTo (xs ++ [x]) = mm true .f32 (peakTo xs) (mm true .f32 x (Op.negFloat .f32 x)) := by unfold peakTo; rw [List.foldl_append]; rfl
theorem peak_pos (xs : List Nat) : (xs.all (fin .f32) = true) → ∀ p, Pos .f32 p → Pos .f32 (xs.foldl (fun p x => mm true .f32 p (mm true .f32 x (Op.negFloat .f32 x))) p) := by
  induction xs with
  | nil => intro _ p hp; exact hp
  | cons x xs ih =>
    intro h p hp
    simp only [List.all_cons, Bool.and_eq_true] at h
    exact ih h.2 _ (peak_step hp h.1).2
theorem peakTo_snoc' {xs : List Nat} {x : Nat} (h : xs.all (fin .f32) = true) (hx : fin .f32 x = true) : peakTo (xs ++ [x]) = mm true .f32 (mm true .f32 (peakTo xs) x) (Op.negFloat .f32 x) := by
  rw [peakTo_snoc]
  exact (peak_step (peak_pos xs h 0 pos_zero) hx).1
end Go.Proofs.YtjmpldcnhjgpkaaGreatDoor.Fl

/-
  Two ways to the lesser one of two differences.
-/
namespace Go.Proofs.YtjmpldcnhjgpkaaGreatDoor.Fl
open Go.RowKit
set_option linter.unusedVariables false

theorem width_sw (k : FloatKind) : 2 ^ k.format.width = k.format.signWeight * 2 := by
  unfold Ieee.Format.width Ieee.Format.signWeight
  rw [← Nat.pow_succ]
  congr 1
  omega
theorem sw_pos (f : Ieee.Format) : 0 < f.signWeight := Nat.two_pow_pos _
/-- A word is a sign and a rung. -/
theorem wf_word {k : FloatKind} {x : Nat} (h : Wf k x) : x = k.format.word (x / k.format.signWeight % 2 == 1) (x % k.format.signWeight) := by
  unfold Wf at h
  rw [width_sw] at h
  have hp := sw_pos k.format
  have hd := Nat.div_add_mod x k.format.signWeight
  have hq : x / k.format.signWeight < 2 := by rw [Nat.div_lt_iff_lt_mul hp, Nat.mul_comm]; exact h
  unfold Ieee.Format.word
  generalize x % k.format.signWeight = r at *
  generalize x / k.format.signWeight = q at *
  rcases Nat.lt_or_ge q 1 with h1 | h1
  · obtain rfl : q = 0 := by omega
    simp at hd ⊢
    omega
  · obtain rfl : q = 1 := by omega
    simp at hd ⊢
    omega
theorem read_of_rung {k : FloatKind} {x : Nat} {s : Bool} {m : Nat} {i : Int} (h : k.format.read x = .number s m i) :
    s = (x / k.format.signWeight % 2 == 1) ∧ x % k.format.signWeight < k.format.infRung ∧ m = magOf k.format (x % k.format.signWeight) ∧ i = placeOf k.format (x % k.format.signWeight) := by
  have hlt := Ieee.Format.infRung_lt k.format
  have hbi : k.format.binade ≤ k.format.infRung := by cases k <;> decide +kernel
  unfold Ieee.Format.read at h
  unfold magOf placeOf
  simp only at h
  split at h
  · rename_i h1
    injection h with h2 h3 h4
    rw [if_pos h1, if_pos h1]
    exact ⟨h2.symm, by omega, h3.symm, h4.symm⟩
  · split at h
    · rename_i h1 h1'
      injection h with h2 h3 h4
      rw [if_neg h1, if_neg h1]
      exact ⟨h2.symm, h1', h3.symm, h4.symm⟩
    · split at h <;> cases h
theorem place_ge (f : Ieee.Format) (r : Nat) : f.leastPlace ≤ placeOf f r := by unfold placeOf; split <;> omega
theorem read_inf {k : FloatKind} {x : Nat} {s : Bool} (h : k.format.read x = .infinity s) : s = (x / k.format.signWeight % 2 == 1) ∧ x % k.format.signWeight = k.format.infRung := by
  unfold Ieee.Format.read at h
  simp only at h
  split at h
  · cases h
  · split at h
    · cases h
    · split at h
      · rename_i h1; injection h with h2; exact ⟨h2.symm, h1⟩
      · cases h
theorem mag_zero {f : Ieee.Format} {r : Nat} (h : magOf f r = 0) : r = 0 := by
  have := binade_pos f
  unfold magOf at h
  split at h <;> omega

theorem rung_eq {f : Ieee.Format} {r r' : Nat} (h1 : NumLe (magOf f r) (placeOf f r) (magOf f r') (placeOf f r')) (h2 : NumLe (magOf f r') (placeOf f r') (magOf f r) (placeOf f r)) : r = r' := by
  have a := rung_mono f h1
  have b := rung_mono f h2
  rw [rung_read, rung_read] at a b
  omega

theorem isNan_word' {k : FloatKind} {s : Bool} {r : Nat} (h : r ≤ k.format.infRung) : isNan k (k.format.word s r) = false := by
  unfold isNan Ieee.Format.read Ieee.Format.word
  have hlt := Ieee.Format.infRung_lt k.format
  have hw : 0 < k.format.signWeight := by omega
  have hm : (if s = true then k.format.signWeight + r else r) % k.format.signWeight = r := by
    split
    · rw [Nat.add_mod_left, Nat.mod_eq_of_lt (by omega)]
    · exact Nat.mod_eq_of_lt (by omega)
  simp only [hm]
  split
  · rfl
  · split
    · rfl
    · rw [if_pos (by omega)]; rfl
theorem isNan_nearest' (k : FloatKind) (s : Bool) (m : Nat) (e : Int) : isNan k (k.format.nearest s m e) = false := by
  unfold Ieee.Format.nearest
  split
  · exact isNan_word' (Nat.zero_le _)
  · exact isNan_word' (Nat.min_le_right _ _)

theorem order_eq {k : FloatKind} {x y : Nat} (hx : Wf k x) (hy : Wf k y) (h : k.format.order x y = some .eq) : x = y ∨ ∃ s i t j, k.format.read x = .number s 0 i ∧ k.format.read y = .number t 0 j := by
  have wx := wf_word hx
  have wy := wf_word hy
  cases rx : k.format.read x with
  | nan s t => unfold Ieee.Format.order at h; rw [rx] at h; simp [Ieee.Datum.order] at h
  | infinity s =>
    cases ry : k.format.read y with
    | nan s t => unfold Ieee.Format.order at h; rw [rx, ry] at h; simp [Ieee.Datum.order] at h
    | number t n j => unfold Ieee.Format.order at h; rw [rx, ry] at h; cases s <;> simp [Ieee.Datum.order] at h
    | infinity t =>
      have hst : s = t := by unfold Ieee.Format.order at h; rw [rx, ry] at h; cases s <;> cases t <;> first | rfl | (exact absurd h (by decide))
      obtain ⟨a1, a2⟩ := read_inf rx
      obtain ⟨b1, b2⟩ := read_inf ry
      left
      rw [wx, wy, ← a1, ← b1, a2, b2, hst]
  | number s m i =>
    cases ry : k.format.read y with
    | nan s t => unfold Ieee.Format.order at h; rw [rx, ry] at h; simp [Ieee.Datum.order] at h
    | infinity t => unfold Ieee.Format.order at h; rw [rx, ry] at h; cases t <;> simp [Ieee.Datum.order] at h
    | number t n j =>
      rw [order_num rx ry (b := min i j) (by omega) (by omega)] at h
      obtain ⟨a1, a2, a3, a4⟩ := read_of_rung rx
      obtain ⟨b1, b2, b3, b4⟩ := read_of_rung ry
      have hv : sval s m i (min i j) = sval t n j (min i j) := by
        injection h with h
        rw [compare_int] at h
        split at h
        · cases h
        · split at h
          · assumption
          · cases h
      have key : m * 2 ^ (i - min i j).toNat = n * 2 ^ (j - min i j).toNat → s = t → x = y := by
        intro he hst
        have hr : x % k.format.signWeight = y % k.format.signWeight := by
          apply rung_eq (f := k.format)
          · rw [← a3, ← a4, ← b3, ← b4]; unfold NumLe; omega
          · rw [← a3, ← a4, ← b3, ← b4]; unfold NumLe; rw [Int.min_comm j i]; omega
        rw [wx, wy, ← a1, ← b1, hr, hst]
      unfold sval Ieee.signed at hv
      rw [Nat.shiftLeft_eq, Nat.shiftLeft_eq] at hv
      have z0 : ∀ (a : Nat) (e : Nat), a * 2 ^ e = 0 → a = 0 := by
        intro a e he
        rcases Nat.mul_eq_zero.1 he with h | h
        · exact h
        · exact absurd h (by have := Nat.two_pow_pos e; omega)
      have hs := z0 m (i - min i j).toNat
      have ht := z0 n (j - min i j).toNat
      generalize m * 2 ^ (i - min i j).toNat = a at *
      generalize n * 2 ^ (j - min i j).toNat = b at *
      cases s <;> cases t
      · left; exact key (by simp at hv; omega) rfl
      · simp at hv
        obtain rfl := hs (by omega)
        obtain rfl := ht (by omega)
        exact .inr ⟨_, _, _, _, rfl, rfl⟩
      · simp at hv
        obtain rfl := hs (by omega)
        obtain rfl := ht (by omega)
        exact .inr ⟨_, _, _, _, rfl, rfl⟩
      · left; exact key (by simp at hv; omega) rfl

theorem order_swap (k : FloatKind) (x y : Nat) : k.format.order y x = (k.format.order x y).map Ordering.swap := by
  unfold Ieee.Format.order
  cases k.format.read x with
  | nan s t => cases k.format.read y <;> rfl
  | infinity s =>
    cases k.format.read y with
    | nan s t => rfl
    | number t n j => cases s <;> rfl
    | infinity t => cases s <;> cases t <;> rfl
  | number s m i =>
    cases k.format.read y with
    | nan s t => rfl
    | infinity t => cases t <;> rfl
    | number t n j =>
      simp only [Ieee.Datum.order, Option.map_some, Int.min_comm j i]
      rw [compare_int, compare_int]
      congr 1
      split
      · rw [if_neg (by omega), if_neg (by omega)]; rfl
      · split
        · rw [if_neg (by omega), if_pos (by omega)]; rfl
        · rw [if_pos (by omega)]; rfl

theorem wf_fb (op : BinOp) (k : FloatKind) (x y : Nat) : Wf k (fb op k x y) := by
  unfold fb
  have hn : Wf k (nanOf k) := by cases k <;> (unfold Wf; decide +kernel)
  cases h : floatBits op k x y with
  | none => simp only [Option.getD_none]; rw [cn_nan (isNan_nanOf k)]; exact hn
  | some r =>
    simp only [Option.getD_some]
    unfold cn
    split
    · exact hn
    · exact lt_of_wf (floatBits_wf h)

/-- A difference that is nought is one of equal numbers. -/
theorem sub_zero {k : FloatKind} {x y : Nat} {s : Bool} {i : Int} (h : k.format.read (fb .sub k x y) = .number s 0 i) : k.format.order x y = some .eq := by
  have hnan : ∀ z, isNan k z = true → k.format.read z ≠ .number s 0 i := by
    intro z hz he
    have := num_nan he
    rw [hz] at this; cases this
  have hinf : ∀ g : Bool, k.format.read (cn k (k.format.write (.infinity g))) ≠ .number s 0 i := by
    intro g he
    have : ∀ t, k.format.read (cn k (k.format.write (.infinity g))) = .infinity t → False := by intro t ht; rw [ht] at he; cases he
    exact this g (by cases k <;> cases g <;> decide +kernel)
  unfold fb floatBits Ieee.Format.sub at h
  simp only at h
  cases rx : k.format.read x with
  | nan a b => rw [rx] at h; simp only [Ieee.Datum.sum, Option.map_none, Option.getD_none] at h; rw [cn_nan (isNan_nanOf k)] at h; exact absurd h (hnan _ (isNan_nanOf k))
  | infinity a =>
    rw [rx] at h
    cases ry : k.format.read y with
    | nan c d => rw [ry] at h; simp only [Ieee.Datum.sum, Ieee.Datum.opposite, Option.map_none, Option.getD_none] at h; rw [cn_nan (isNan_nanOf k)] at h; exact absurd h (hnan _ (isNan_nanOf k))
    | infinity c =>
      rw [ry] at h
      simp only [Ieee.Datum.sum, Ieee.Datum.opposite] at h
      split at h
      · exact absurd h (hinf _)
      · simp only [Option.map_none, Option.getD_none] at h; rw [cn_nan (isNan_nanOf k)] at h; exact absurd h (hnan _ (isNan_nanOf k))
    | number c n j => rw [ry] at h; exact absurd h (hinf _)
  | number a m p =>
    rw [rx] at h
    cases ry : k.format.read y with
    | nan c d => rw [ry] at h; simp only [Ieee.Datum.sum, Ieee.Datum.opposite, Option.map_none, Option.getD_none] at h; rw [cn_nan (isNan_nanOf k)] at h; exact absurd h (hnan _ (isNan_nanOf k))
    | infinity c => rw [ry] at h; exact absurd h (hinf _)
    | number c n j =>
      rw [ry] at h
      simp only [Ieee.Datum.sum, Ieee.Datum.opposite, Option.map_some, Option.getD_some, Ieee.Format.write] at h
      rw [order_num rx ry (b := min p j) (by omega) (by omega)]
      have hneg : Ieee.signed (!c) n (j - min p j).toNat = - Ieee.signed c n (j - min p j).toNat := by
        unfold Ieee.signed
        cases c <;> simp
      rw [hneg] at h
      have hp1 := (read_of_rung rx).2.2.2
      have hp2 := (read_of_rung ry).2.2.2
      have g1 := place_ge k.format (x % k.format.signWeight)
      have g2 := place_ge k.format (y % k.format.signWeight)
      rw [← hp1] at g1
      rw [← hp2] at g2
      unfold sval
      generalize Ieee.signed a m (p - min p j).toNat = A at *
      generalize Ieee.signed c n (j - min p j).toNat = B at *
      rw [compare_int]
      rcases Classical.em (A = B) with he | he
      · rw [if_neg (by omega), if_pos he]
      · exfalso
        rw [if_neg (by omega)] at h
        have hT : (A + -B).natAbs ≠ 0 := by omega
        generalize (A + -B).natAbs = T at *
        generalize (decide (A + -B < 0)) = sg at *
        rw [cn_num (isNan_nearest' k sg T (min p j)), nearest_rung] at h
        have h1 : 1 ≤ rungOf k.format T (min p j) := by
          apply rung_ge
          have hb : (1 : Nat) < k.format.binade := by cases k <;> decide +kernel
          have : magOf k.format 1 = 1 := by unfold magOf; rw [if_pos hb]
          rw [this]
          have : placeOf k.format 1 = k.format.leastPlace := by unfold placeOf; rw [if_pos hb]
          rw [this]
          unfold NumLe
          rw [Int.min_eq_left (by omega), Int.sub_self]
          simp only [Int.toNat_zero, Nat.pow_zero, Nat.mul_one]
          exact Nat.mul_pos (by omega) (Nat.two_pow_pos _)
        rcases Nat.lt_or_ge (rungOf k.format T (min p j)) k.format.infRung with h2 | h2
        · rw [Nat.min_eq_left (by omega), read_word h2] at h
          injection h with h3 h4 h5
          have := mag_zero h4
          omega
        · rw [Nat.min_eq_right h2] at h
          exact hinf sg (by rw [show k.format.write (.infinity sg) = k.format.word sg k.format.infRung from rfl, cn_num (by cases k <;> cases sg <;> decide +kernel)]; exact h)

/-- THE LESSER DIFFERENCE. -/
theorem mm_least {k : FloatKind} {lo hi m : Nat} (hlo : fin k lo = true) (hhi : fin k hi = true) (hlt : k.format.order lo hi = some .lt) :
    mm false k (fb .sub k hi m) (fb .sub k m lo) = if (k.format.order (fb .sub k m lo) (fb .sub k hi m) == some .lt) = true then fb .sub k m lo else fb .sub k hi m := by
  rw [order_swap k (fb .sub k hi m) (fb .sub k m lo)]
  have hx := wf_fb .sub k hi m
  have hy := wf_fb .sub k m lo
  unfold mm mmBits
  cases h : k.format.order (fb .sub k hi m) (fb .sub k m lo) with
  | none =>
    simp only [Option.map_none, Option.getD_none]
    rw [cn_nan (isNan_nanOf k)]
    rw [if_neg (by decide)]
    -- m is a not-a-number
    cases hm : isNan k m with
    | true => unfold fb; rw [floatBits_nan_right hm]; simp only [Option.getD_none]; rw [cn_nan (isNan_nanOf k)]
    | false =>
      exfalso
      obtain ⟨a, m1, i1, r1⟩ := (fin_iff k lo).1 hlo
      obtain ⟨b, m2, i2, r2⟩ := (fin_iff k hi).1 hhi
      have n1 : isNan k (fb .sub k hi m) = false := by
        unfold fb floatBits Ieee.Format.sub
        rw [r2]
        cases rm : k.format.read m with
        | nan c d => unfold isNan at hm; rw [rm] at hm; cases hm
        | infinity c => rw [isNan_cn]; simp only [Ieee.Datum.opposite, Ieee.Datum.sum, Option.map_some, Option.getD_some]; cases k <;> cases c <;> decide +kernel
        | number c n j => rw [isNan_cn]; exact isNan_nearest' _ _ _ _
      have n2 : isNan k (fb .sub k m lo) = false := by
        unfold fb floatBits Ieee.Format.sub
        rw [r1]
        cases rm : k.format.read m with
        | nan c d => unfold isNan at hm; rw [rm] at hm; cases hm
        | infinity c => rw [isNan_cn]; simp only [Ieee.Datum.opposite, Ieee.Datum.sum, Option.map_some, Option.getD_some]; cases k <;> cases c <;> decide +kernel
        | number c n j => rw [isNan_cn]; exact isNan_nearest' _ _ _ _
      generalize fb .sub k hi m = X at *
      generalize fb .sub k m lo = Y at *
      unfold Ieee.Format.order at h
      unfold isNan at n1 n2
      cases rX : k.format.read X with
      | nan c d => rw [rX] at n1; cases n1
      | infinity c =>
        cases rY : k.format.read Y with
        | nan c d => rw [rY] at n2; cases n2
        | infinity d => rw [rX, rY] at h; simp [Ieee.Datum.order] at h
        | number d n j => rw [rX, rY] at h; simp [Ieee.Datum.order] at h
      | number c m i =>
        cases rY : k.format.read Y with
        | nan c d => rw [rY] at n2; cases n2
        | infinity d => rw [rX, rY] at h; simp [Ieee.Datum.order] at h
        | number d n j => rw [rX, rY] at h; simp [Ieee.Datum.order] at h
  | some o =>
    cases o with
    | lt => exact cn_fb .sub k hi m
    | gt => exact cn_fb .sub k m lo
    | eq =>
      show cn k (if (k.decode (fb .sub k hi m)).neg = false then fb .sub k m lo else fb .sub k hi m) = fb .sub k hi m
      rcases order_eq hx hy h with he | ⟨s, i, t, j, h1, h2⟩
      · rw [← he]
        rw [show (if (k.decode (fb .sub k hi m)).neg = false then fb .sub k hi m else fb .sub k hi m) = fb .sub k hi m by split <;> rfl, cn_fb]
      · exfalso
        have e1 := sub_zero h1
        have e2 := sub_zero h2
        -- hi = m, m = lo
        obtain ⟨a, m1, i1, r1⟩ := (fin_iff k lo).1 hlo
        obtain ⟨b, m2, i2, r2⟩ := (fin_iff k hi).1 hhi
        cases rm : k.format.read m with
        | nan c d => unfold Ieee.Format.order at e1; rw [r2, rm] at e1; simp [Ieee.Datum.order] at e1
        | infinity c => unfold Ieee.Format.order at e1; rw [r2, rm] at e1; cases c <;> simp [Ieee.Datum.order] at e1
        | number c m3 i3 =>
          have b1 : min i1 (min i2 i3) ≤ i1 := by omega
          have b2 : min i1 (min i2 i3) ≤ i2 := by omega
          have b3 : min i1 (min i2 i3) ≤ i3 := by omega
          rw [order_num r2 rm b2 b3, compare_int] at e1
          rw [order_num rm r1 b3 b1, compare_int] at e2
          rw [order_num r1 r2 b1 b2, compare_int] at hlt
          simp only [Option.some.injEq] at e1 e2 hlt
          split at hlt
          · rename_i g1
            split at e1
            · cases e1
            · split at e1
              · split at e2
                · cases e2
                · split at e2
                  · omega
                  · cases e2
              · cases e1
          · split at hlt <;> cases hlt
end Go.Proofs.YtjmpldcnhjgpkaaGreatDoor.Fl

/-
  Sizes of numbers: what '+', '-', '*', '/' give is at most what the sizes of both allow.
-/
namespace Go.Proofs.YtjmpldcnhjgpkaaGreatDoor.Fl
open Go.RowKit
set_option linter.unusedVariables false

/-- What a rung stands for, counted in units of the least one. -/
def vv (k : FloatKind) (r : Nat) : Nat := magOf k.format r * 2 ^ (placeOf k.format r - k.format.leastPlace).toNat
theorem vv_le {k : FloatKind} {r r' : Nat} (h : r ≤ r') : vv k r ≤ vv k r' := by
  have := (numle_of_rung k.format h).at_ (b := k.format.leastPlace) (place_ge _ _) (place_ge _ _)
  exact this
/-- A finite number of at most the rung R. -/
def Bd (k : FloatKind) (R x : Nat) : Prop := R < k.format.infRung ∧ ∃ s r, x = k.format.word s r ∧ r ≤ R
/-- A number that is not negative and of at least the rung L. -/
def Lo (k : FloatKind) (L x : Nat) : Prop := ∃ r, x = r ∧ L ≤ r ∧ r < k.format.infRung
theorem Bd.read {k : FloatKind} {R x : Nat} (h : Bd k R x) : ∃ s r, k.format.read x = .number s (magOf k.format r) (placeOf k.format r) ∧ r ≤ R := by
  obtain ⟨hR, s, r, rfl, hr⟩ := h
  exact ⟨s, r, read_word (by omega), hr⟩
theorem Bd.mono {k : FloatKind} {R R' x : Nat} (h : Bd k R x) (h1 : R ≤ R') (h2 : R' < k.format.infRung) : Bd k R' x := by
  obtain ⟨hR, s, r, rfl, hr⟩ := h
  exact ⟨h2, s, r, rfl, by omega⟩
theorem bd_word {k : FloatKind} {s : Bool} {r R : Nat} (h : r ≤ R) (hR : R < k.format.infRung) : Bd k R (k.format.word s r) := ⟨hR, s, r, rfl, h⟩
theorem bd_nearest {k : FloatKind} {s : Bool} {m : Nat} {e : Int} {R : Nat} (h : rungOf k.format m e ≤ R) (hR : R < k.format.infRung) : Bd k R (cn k (k.format.nearest s m e)) := by
  rw [nearest_rung, Nat.min_eq_left (by omega), cn_num (isNan_word' (by omega))]
  exact bd_word h hR
theorem signed_abs (s : Bool) (m u : Nat) : (Ieee.signed s m u).natAbs = m * 2 ^ u := by
  unfold Ieee.signed
  rw [Nat.shiftLeft_eq]
  split
  · rw [Int.natAbs_neg, Int.natAbs_natCast]
  · rw [Int.natAbs_natCast]
theorem sum_le {k : FloatKind} {s t : Bool} {r q R : Nat} (h : vv k r + vv k q ≤ vv k R) :
    rungOf k.format ((Ieee.signed s (magOf k.format r) (placeOf k.format r - min (placeOf k.format r) (placeOf k.format q)).toNat + Ieee.signed t (magOf k.format q) (placeOf k.format q - min (placeOf k.format r) (placeOf k.format q)).toNat).natAbs) (min (placeOf k.format r) (placeOf k.format q)) ≤ R := by
  have h1 := Int.natAbs_add_le (Ieee.signed s (magOf k.format r) (placeOf k.format r - min (placeOf k.format r) (placeOf k.format q)).toNat) (Ieee.signed t (magOf k.format q) (placeOf k.format q - min (placeOf k.format r) (placeOf k.format q)).toNat)
  rw [signed_abs, signed_abs] at h1
  have pr := place_ge k.format r
  have pq := place_ge k.format q
  have pR := place_ge k.format R
  refine rung_le k.format (NumLe.of (b := k.format.leastPlace) (by omega) pR (Nat.le_trans (Nat.mul_le_mul_right _ h1) ?_))
  unfold vv at h
  rw [Nat.add_mul, Nat.mul_assoc, Nat.mul_assoc, ← Nat.pow_add, ← Nat.pow_add]
  rw [show (placeOf k.format r - min (placeOf k.format r) (placeOf k.format q)).toNat + (min (placeOf k.format r) (placeOf k.format q) - k.format.leastPlace).toNat = (placeOf k.format r - k.format.leastPlace).toNat by omega]
  rw [show (placeOf k.format q - min (placeOf k.format r) (placeOf k.format q)).toNat + (min (placeOf k.format r) (placeOf k.format q) - k.format.leastPlace).toNat = (placeOf k.format q - k.format.leastPlace).toNat by omega]
  exact h
theorem bd_add {k : FloatKind} {Rx Ry R x y : Nat} (hx : Bd k Rx x) (hy : Bd k Ry y) (hR : R < k.format.infRung) (h : vv k Rx + vv k Ry ≤ vv k R) : Bd k R (fb .add k x y) := by
  obtain ⟨s, r, rx, h1⟩ := hx.read
  obtain ⟨t, q, ry, h2⟩ := hy.read
  unfold fb floatBits Ieee.Format.add
  simp only
  rw [rx, ry]
  simp only [Ieee.Datum.sum, Option.map_some, Option.getD_some, Ieee.Format.write]
  exact bd_nearest (sum_le (Nat.le_trans (Nat.add_le_add (vv_le h1) (vv_le h2)) h)) hR
theorem bd_sub {k : FloatKind} {Rx Ry R x y : Nat} (hx : Bd k Rx x) (hy : Bd k Ry y) (hR : R < k.format.infRung) (h : vv k Rx + vv k Ry ≤ vv k R) : Bd k R (fb .sub k x y) := by
  obtain ⟨s, r, rx, h1⟩ := hx.read
  obtain ⟨t, q, ry, h2⟩ := hy.read
  unfold fb floatBits Ieee.Format.sub
  simp only
  rw [rx, ry]
  simp only [Ieee.Datum.sum, Ieee.Datum.opposite, Option.map_some, Option.getD_some, Ieee.Format.write]
  exact bd_nearest (sum_le (Nat.le_trans (Nat.add_le_add (vv_le h1) (vv_le h2)) h)) hR
theorem bd_mul {k : FloatKind} {Rx Ry R x y : Nat} (hx : Bd k Rx x) (hy : Bd k Ry y) (hR : R < k.format.infRung) (h : vv k Rx * vv k Ry ≤ vv k R * 2 ^ (-k.format.leastPlace).toNat) : Bd k R (fb .mul k x y) := by
  obtain ⟨s, r, rx, h1⟩ := hx.read
  obtain ⟨t, q, ry, h2⟩ := hy.read
  have hl : k.format.leastPlace ≤ 0 := by cases k <;> decide +kernel
  have pr := place_ge k.format r
  have pq := place_ge k.format q
  have pR := place_ge k.format R
  unfold fb floatBits Ieee.Format.mul
  simp only
  rw [rx, ry]
  simp only [Ieee.Datum.product, Option.map_some, Option.getD_some, Ieee.Format.write]
  refine bd_nearest (rung_le k.format (NumLe.of (b := k.format.leastPlace + k.format.leastPlace) (by omega) (by omega) ?_)) hR
  have h3 := Nat.le_trans (Nat.mul_le_mul (vv_le h1) (vv_le h2)) h
  unfold vv at h3
  rw [Nat.mul_assoc (magOf k.format R), ← Nat.pow_add, show (placeOf k.format R - k.format.leastPlace).toNat + (-k.format.leastPlace).toNat = (placeOf k.format R - (k.format.leastPlace + k.format.leastPlace)).toNat by omega] at h3
  refine Nat.le_trans (Nat.le_of_eq ?_) h3
  rw [show (placeOf k.format r + placeOf k.format q - (k.format.leastPlace + k.format.leastPlace)).toNat = (placeOf k.format r - k.format.leastPlace).toNat + (placeOf k.format q - k.format.leastPlace).toNat by omega, Nat.pow_add]
  ac_rfl
/-- A quotient, in whole numbers. -/
theorem quo_le {f : Ieee.Format} {m n c d : Nat} {i j p : Int} (hn : n ≠ 0) (hd : c < 2 ^ d) (b : Int) (hi : b ≤ i) (hj : b ≤ j) (hp : b ≤ p) (hb : b ≤ 0) (h : m * 2 ^ (i - b).toNat * 2 ^ (-b).toNat ≤ n * 2 ^ (j - b).toNat * (c * 2 ^ (p - b).toNat)) :
    NumLe (2 * ((m <<< (d + 1 + n.log2 - m.log2)) / n) + ((m <<< (d + 1 + n.log2 - m.log2)) % n != 0).toNat) (i - j - ((d + 1 + n.log2 - m.log2 : Nat) : Int) - 1) c p := by
  rw [Nat.shiftLeft_eq]
  by_cases hm : m = 0
  · subst hm
    rw [Nat.zero_mul, Nat.zero_div, Nat.zero_mod]
    unfold NumLe
    simp
  generalize hmore : d + 1 + n.log2 - m.log2 = more at *
  have l1 := Nat.log2_self_le hm
  have l2 : n < 2 ^ (n.log2 + 1) := Nat.lt_log2_self
  have hD : 2 ^ (d + 1 + n.log2) ≤ m * 2 ^ more := by
    refine Nat.le_trans ?_ (Nat.mul_le_mul_right _ l1)
    rw [← Nat.pow_add]
    exact Nat.pow_le_pow_right (by omega) (by omega)
  have hh : m * 2 ^ (i - b - b).toNat ≤ n * c * 2 ^ (j + p - b - b).toNat := by
    have e1 : m * 2 ^ (i - b).toNat * 2 ^ (-b).toNat = m * 2 ^ (i - b - b).toNat := by rw [Nat.mul_assoc, ← Nat.pow_add]; congr 2; omega
    have e2 : n * 2 ^ (j - b).toNat * (c * 2 ^ (p - b).toNat) = n * c * 2 ^ (j + p - b - b).toNat := by
      rw [show (j + p - b - b).toNat = (j - b).toNat + (p - b).toNat by omega, Nat.pow_add]; ac_rfl
    rw [e1, e2] at h
    exact h
  have hge : i - j - more ≤ p := by
    rcases Int.lt_or_le p (i - j - more) with hlt | hge
    · exfalso
      have e3 : (i - b - b).toNat = (j + p - b - b).toNat + ((i - j - p).toNat) := by omega
      rw [e3, Nat.pow_add, Nat.mul_comm (2 ^ _) (2 ^ _), ← Nat.mul_assoc] at hh
      have h1 := Nat.le_of_mul_le_mul_right hh (Nat.two_pow_pos _)
      have h2 : m * 2 ^ (more + 1) ≤ m * 2 ^ (i - j - p).toNat := Nat.mul_le_mul_left _ (Nat.pow_le_pow_right (by omega) (by omega))
      have h3 : n * c ≤ 2 ^ (n.log2 + 1) * 2 ^ d := Nat.mul_le_mul (by omega) (by omega)
      have h4 : 2 ^ (n.log2 + 1) * 2 ^ d = 2 ^ (d + 1 + n.log2) := by rw [← Nat.pow_add]; congr 1; omega
      have h5 : m * 2 ^ (more + 1) = 2 * (m * 2 ^ more) := by rw [Nat.pow_succ, ← Nat.mul_assoc]; omega
      have h6 : 0 < 2 ^ (d + 1 + n.log2) := Nat.two_pow_pos _
      omega
    · exact hge
  have hDK : m * 2 ^ more ≤ n * (c * 2 ^ (p - (i - j - more)).toNat) := by
    have h1 := Nat.mul_le_mul_right (2 ^ (p - (i - j - more)).toNat) hh
    rw [Nat.mul_assoc, Nat.mul_assoc (n * c), ← Nat.pow_add, ← Nat.pow_add] at h1
    have e4 : (i - b - b).toNat + (p - (i - j - more)).toNat = more + (j + p - b - b).toNat := by omega
    rw [e4, Nat.add_comm (j + p - b - b).toNat, Nat.pow_add, Nat.pow_add, ← Nat.mul_assoc, ← Nat.mul_assoc] at h1
    have h2 := Nat.le_of_mul_le_mul_right h1 (Nat.two_pow_pos _)
    rwa [Nat.mul_assoc] at h2
  refine NumLe.of (b := i - j - more - 1) (by omega) (by omega) ?_
  rw [Int.sub_self, Int.toNat_zero, Nat.pow_zero, Nat.mul_one]
  rw [show (p - (i - j - more - 1)).toNat = (p - (i - j - more)).toNat + 1 by omega, Nat.pow_succ, ← Nat.mul_assoc]
  generalize c * 2 ^ (p - (i - j - more)).toNat = K at *
  generalize m * 2 ^ more = D at *
  have hn0 : 0 < n := by omega
  have hdm := Nat.div_add_mod D n
  have hq : D / n ≤ K := by
    have := Nat.div_le_div_right (c := n) hDK
    rwa [Nat.mul_div_cancel_left _ hn0] at this
  rcases Nat.lt_or_ge (D / n) K with h1 | h1
  · have : (D % n != 0).toNat ≤ 1 := by cases (D % n != 0) <;> decide
    omega
  · have he : D / n = K := by omega
    rw [he] at hdm ⊢
    have : D % n = 0 := by omega
    rw [this]
    simp
    omega
theorem mag_lt' (f : Ieee.Format) (r : Nat) : magOf f r < 2 ^ (f.fractionBits + 1) := by
  have hb := binade_pos f
  have e : 2 ^ (f.fractionBits + 1) = 2 * f.binade := by unfold Ieee.Format.binade; rw [Nat.pow_succ]; omega
  rw [e]
  unfold magOf
  split
  · omega
  · have := Nat.mod_lt r hb; omega
theorem bd_quo {k : FloatKind} {Rx Ly R x y : Nat} (hx : Bd k Rx x) (hy : Lo k Ly y) (hR : R < k.format.infRung) (h0 : vv k Ly ≠ 0) (h : vv k Rx * 2 ^ (-k.format.leastPlace).toNat ≤ vv k Ly * vv k R) : Bd k R (fb .quo k x y) := by
  obtain ⟨s, r, rx, h1⟩ := hx.read
  obtain ⟨q, hyq, hq1, hq2⟩ := hy
  subst hyq
  have ry : k.format.read y = .number false (magOf k.format y) (placeOf k.format y) := by
    have := read_word (k := k) (s := false) hq2
    rwa [show k.format.word false y = y from rfl] at this
  have hv := vv_le (k := k) hq1
  have hn : magOf k.format y ≠ 0 := by
    intro e
    have : vv k y = 0 := by unfold vv; rw [e, Nat.zero_mul]
    omega
  have pr := place_ge k.format r
  have pq := place_ge k.format y
  have pR := place_ge k.format R
  have hl : k.format.leastPlace ≤ 0 := by cases k <;> decide +kernel
  have h3 : vv k r * 2 ^ (-k.format.leastPlace).toNat ≤ vv k y * vv k R :=
    Nat.le_trans (Nat.mul_le_mul_right _ (vv_le h1)) (Nat.le_trans h (Nat.mul_le_mul_right _ hv))
  unfold fb floatBits Ieee.Format.div
  simp only
  rw [rx, ry]
  simp only [Ieee.Datum.quotient, if_neg hn, Option.map_some, Option.getD_some, Ieee.Format.write]
  refine bd_nearest (rung_le k.format ?_) hR
  exact quo_le (f := k.format) hn (mag_lt' k.format R) k.format.leastPlace pr pq pR hl h3
end Go.Proofs.YtjmpldcnhjgpkaaGreatDoor.Fl
