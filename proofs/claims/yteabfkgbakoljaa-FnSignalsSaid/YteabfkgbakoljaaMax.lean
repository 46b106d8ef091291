/-
  'min' and 'max' of floats as rules of the walk, and the greatest absolute value in two ways.
-/
import Derived.Test.YteabfkgbakoljaaRound
import Derived.Test.YteabfkgbakoljaaOps
namespace Go.Proofs.Yteabfkgbakoljaa.Fl
open Go.RowKit
set_option linter.unusedVariables false

/-- The greater one (mx) or the lesser one of two numbers; none: a not-a-number. -/
def mmBits (mx : Bool) (k : FloatKind) (x y : Nat) : Option Nat :=
  match k.format.order x y with
  | none => none
  | some .lt => some (if mx then y else x)
  | some .gt => some (if mx then x else y)
  | some .eq => some (if (k.decode x).neg = mx then y else x)
def mmR (mx : Bool) (k : FloatKind) (x y : Nat) (w : World) : Nat := (mmBits mx k x y).getD ((Question.nanMinMax k mx x y).cut (w.tape w.drawn (.nanMinMax k mx x y)))
def mmN (mx : Bool) (k : FloatKind) (x y : Nat) : Nat := if (mmBits mx k x y).isSome then 0 else 1
/-- The same, told. -/
def mm (mx : Bool) (k : FloatKind) (x y : Nat) : Nat := cn k ((mmBits mx k x y).getD (nanOf k))
theorem cn_mmR (mx : Bool) (k : FloatKind) (x y : Nat) (w : World) : cn k (mmR mx k x y w) = mm mx k x y := by
  unfold mmR mm
  cases mmBits mx k x y with
  | some r => rfl
  | none => simp only [Option.getD_none]; rw [cn_nan (drawn_minmax k mx x y _).1, cn_nan (isNan_nanOf k)]
theorem cn_mm (mx : Bool) (k : FloatKind) (x y : Nat) : cn k (mm mx k x y) = mm mx k x y := by unfold mm; rw [cn_cn]
theorem order_nanl {k : FloatKind} {x : Nat} (h : isNan k x = true) (y : Nat) : k.format.order x y = none := by
  obtain ⟨s, t, hr⟩ := read_nan h
  unfold Ieee.Format.order
  rw [hr]; rfl
theorem order_nanr {k : FloatKind} {y : Nat} (h : isNan k y = true) (x : Nat) : k.format.order x y = none := by
  obtain ⟨s, t, hr⟩ := read_nan h
  unfold Ieee.Format.order
  rw [hr]
  cases k.format.read x <;> rfl
theorem mm_cnl (mx : Bool) (k : FloatKind) (x y : Nat) : mm mx k (cn k x) y = mm mx k x y := by
  cases h : isNan k x
  · rw [cn_num h]
  · unfold mm mmBits
    rw [order_nanl h, order_nanl (by rw [isNan_cn]; exact h)]
theorem mm_cnr (mx : Bool) (k : FloatKind) (x y : Nat) : mm mx k x (cn k y) = mm mx k x y := by
  cases h : isNan k y
  · rw [cn_num h]
  · unfold mm mmBits
    rw [order_nanr h, order_nanr (by rw [isNan_cn]; exact h)]

section
variable {P : Program}
theorem run_max2_float (k k' : FloatKind) (x y : Nat) (w : World) : (Builtin.max2 (.float k x) (.float k' y)).run P w = .ok (.float k (mmR true k x y w)) (w.drewN (mmN true k x y)) := by
  unfold Builtin.max2 mmR mmN mmBits
  cases h : k.format.order x y with
  | none => simp [h, go_sem, World.drew_is_drewN]
  | some o => cases o <;> simp [h, World.drewN_zero]
theorem run_min2_float (k k' : FloatKind) (x y : Nat) (w : World) : (Builtin.min2 (.float k x) (.float k' y)).run P w = .ok (.float k (mmR false k x y w)) (w.drewN (mmN false k x y)) := by
  unfold Builtin.min2 mmR mmN mmBits
  cases h : k.format.order x y with
  | none => simp [h, go_sem, World.drew_is_drewN]
  | some o => cases o <;> simp [h, World.drewN_zero] <;> cases (k.decode x).neg <;> rfl
@[go_sem] theorem run_max_float2 (ts : Array TypeId) (t : TypeId) (k k' : FloatKind) (x y : Nat) (w : World) : (Builtin.max_ ts t #[.float k x, .float k' y]).run P w = .ok (.float k (mmR true k x y w)) (w.drewN (mmN true k x y)) := by
  simp only [Builtin.max_, List.foldlM_cons, List.foldlM_nil, bind_pure, run_max2_float]
@[go_sem] theorem run_min_float2 (ts : Array TypeId) (t : TypeId) (k k' : FloatKind) (x y : Nat) (w : World) : (Builtin.min_ ts t #[.float k x, .float k' y]).run P w = .ok (.float k (mmR false k x y w)) (w.drewN (mmN false k x y)) := by
  simp only [Builtin.min_, List.foldlM_cons, List.foldlM_nil, bind_pure, run_min2_float]
@[go_sem] theorem run_max_float3 (ts : Array TypeId) (t : TypeId) (k k' k'' : FloatKind) (x y z : Nat) (w : World) : (Builtin.max_ ts t #[.float k x, .float k' y, .float k'' z]).run P w =
    .ok (.float k (mmR true k (mmR true k x y w) z (w.drewN (mmN true k x y)))) (w.drewN (mmN true k x y + mmN true k (mmR true k x y w) z)) := by
  simp only [Builtin.max_, List.foldlM_cons, List.foldlM_nil, bind_pure, Sem.run_bind, run_max2_float, Result.andThen_ok, World.drewN_drewN]
end

theorem read_neg (k : FloatKind) (x : Nat) : k.format.read (Op.negFloat k x) = (k.format.read x).opposite := by
  have h1 : Op.negFloat k x % k.format.signWeight = x % k.format.signWeight := by
    unfold Op.negFloat Ieee.Format.signWeight
    rw [Nat.xor_mod_two_pow, Nat.mod_self, Nat.xor_zero]
  have h2 : Op.negFloat k x / k.format.signWeight % 2 = 1 - x / k.format.signWeight % 2 := by
    unfold Op.negFloat Ieee.Format.signWeight
    rw [Nat.xor_div_two_pow, Nat.div_self (Nat.two_pow_pos _)]
    generalize x / 2 ^ (k.format.exponentBits + k.format.fractionBits) = q
    have := Nat.xor_mod_two_pow (a := q) (b := 1) (n := 1)
    simp only [Nat.pow_one] at this
    rw [this]
    rcases Nat.mod_two_eq_zero_or_one q with h | h <;> rw [h] <;> rfl
  unfold Ieee.Format.read
  simp only [h1, h2]
  have h3 : (1 - x / k.format.signWeight % 2 == 1) = !(x / k.format.signWeight % 2 == 1) := by
    rcases Nat.mod_two_eq_zero_or_one (x / k.format.signWeight) with h | h <;> rw [h] <;> rfl
  rw [h3]
  split
  · rfl
  · split
    · rfl
    · split <;> rfl

theorem signed_false (m u : Nat) : 0 ≤ Ieee.signed false m u := by unfold Ieee.signed; rw [if_neg (by simp)]; exact Int.natCast_nonneg _
theorem signed_true (m u : Nat) : Ieee.signed true m u ≤ 0 := by unfold Ieee.signed; rw [if_pos rfl]; have := Int.natCast_nonneg (m <<< u); omega
theorem ord_pn {k : FloatKind} {x y m n : Nat} {i j : Int} (hx : k.format.read x = .number false m i) (hy : k.format.read y = .number true n j) : k.format.order x y = some .gt ∨ k.format.order x y = some .eq := by
  rw [order_num hx hy (b := min i j) (by omega) (by omega), compare_int]
  have h1 := signed_false m (i - min i j).toNat
  have h2 := signed_true n (j - min i j).toNat
  unfold sval
  split
  · omega
  · split <;> simp
theorem ord_np {k : FloatKind} {x y m n : Nat} {i j : Int} (hx : k.format.read x = .number true m i) (hy : k.format.read y = .number false n j) : k.format.order x y = some .lt ∨ k.format.order x y = some .eq := by
  rw [order_num hx hy (b := min i j) (by omega) (by omega), compare_int]
  have h1 := signed_true m (i - min i j).toNat
  have h2 := signed_false n (j - min i j).toNat
  unfold sval
  split
  · simp
  · split
    · simp
    · omega
theorem num_nan {k : FloatKind} {x : Nat} {s : Bool} {m : Nat} {i : Int} (h : k.format.read x = .number s m i) : isNan k x = false := by unfold isNan; rw [h]; rfl
theorem mm_pn {k : FloatKind} {x y m n : Nat} {i j : Int} (hx : k.format.read x = .number false m i) (hy : k.format.read y = .number true n j) : mm true k x y = x := by
  have hd : k.decode x = .number false m i := hx
  unfold mm mmBits
  rcases ord_pn hx hy with h | h
  · rw [h]; exact cn_num (num_nan hx)
  · rw [h]; simp only [hd, Ieee.Datum.neg, Bool.false_eq_true, if_false, Option.getD_some]; exact cn_num (num_nan hx)
theorem mm_np {k : FloatKind} {x y m n : Nat} {i j : Int} (hx : k.format.read x = .number true m i) (hy : k.format.read y = .number false n j) : mm true k x y = y := by
  have hd : k.decode x = .number true m i := hx
  unfold mm mmBits
  rcases ord_np hx hy with h | h
  · rw [h]; exact cn_num (num_nan hy)
  · rw [h]; simp only [hd, Ieee.Datum.neg, if_true, Option.getD_some]; exact cn_num (num_nan hy)
theorem mm_pp {k : FloatKind} {x y m n : Nat} {i j : Int} (hx : k.format.read x = .number false m i) (hy : k.format.read y = .number false n j) : ∃ m i, k.format.read (mm true k x y) = .number false m i := by
  have ho := order_num hx hy (b := min i j) (by omega) (by omega)
  unfold mm mmBits
  rw [ho]
  generalize compare (sval false m i (min i j)) (sval false n j (min i j)) = o
  cases o
  · simp only [if_true, Option.getD_some]; rw [cn_num (num_nan hy)]; exact ⟨_, _, hy⟩
  · have hd : k.decode x = .number false m i := hx
    simp only [hd, Ieee.Datum.neg, Bool.false_eq_true, if_false, Option.getD_some]; rw [cn_num (num_nan hx)]; exact ⟨_, _, hx⟩
  · simp only [if_true, Option.getD_some]; rw [cn_num (num_nan hx)]; exact ⟨_, _, hx⟩

/-- A number that is at least 0, and has no minus sign. -/
def Pos (k : FloatKind) (x : Nat) : Prop := ∃ m i, k.format.read x = .number false m i
/-- The greatest absolute value in two ways. -/
theorem peak_step {k : FloatKind} {p x : Nat} (hp : Pos k p) (hx : fin k x = true) :
    mm true k p (mm true k x (Op.negFloat k x)) = mm true k (mm true k p x) (Op.negFloat k x) ∧ Pos k (mm true k p (mm true k x (Op.negFloat k x))) := by
  obtain ⟨m, i, hp⟩ := hp
  obtain ⟨s, n, j, hx⟩ := (fin_iff k x).1 hx
  have hn : k.format.read (Op.negFloat k x) = .number (!s) n j := by rw [read_neg, hx]; rfl
  cases s
  · rw [mm_pn hx hn]
    obtain ⟨m', i', hq⟩ := mm_pp hp hx
    rw [mm_pn hq hn]
    exact ⟨rfl, _, _, hq⟩
  · rw [mm_np hx hn, mm_pn hp hx]
    exact ⟨rfl, mm_pp hp hn⟩
theorem pos_zero : Pos .f32 0 := ⟨0, -149, by decide +kernel⟩

/-- The greatest absolute value of numbers. -/
def peakTo (xs : List Nat) : Nat := xs.foldl (fun p x => mm true .f32 p (mm true .f32 x (Op.negFloat .f32 x))) 0
theorem peakTo_snoc (xs : List Nat) (x : Nat) : peakTo (xs ++ [x]) = mm true .f32 (peakTo xs) (mm true .f32 x (Op.negFloat .f32 x)) := by unfold peakTo; rw [List.foldl_append]; rfl
theorem peak_pos (xs : List Nat) : (xs.all (fin .f32) = true) → ∀ p, Pos .f32 p → Pos .f32 (xs.foldl (fun p x => mm true .f32 p (mm true .f32 x (Op.negFloat .f32 x))) p) := by
  induction xs with
  | nil => intro _ p hp; exact hp
  | cons x xs ih =>
    intro h p hp
    simp only [List.all_cons, Bool.and_eq_true] at h
    exact ih h.2 _ (peak_step hp h.1).2
theorem peakTo_snoc' {xs : List Nat} {x : Nat} (h : xs.all (fin .f32) = true) (hx : fin .f32 x = true) : peakTo (xs ++ [x]) = mm true .f32 (mm true .f32 (peakTo xs) x) (Op.negFloat .f32 x) := by
  rw [peakTo_snoc]
  exact (peak_step (peak_pos xs h 0 pos_zero) hx).1
end Go.Proofs.Yteabfkgbakoljaa.Fl
