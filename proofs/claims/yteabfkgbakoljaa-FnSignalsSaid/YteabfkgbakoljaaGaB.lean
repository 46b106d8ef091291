/-
  Rates of the bearings that a law draws add up.
-/
import Derived.Test.YteabfkgbakoljaaRtS
import Derived.Test.YteabfkgbakoljaaFour
import Derived.Test.YteabfkgbakoljaaB10L
import Derived.Test.YteabfkgbakoljaaPhZ
import Derived.BigQuiet
import Derived.Deep.QuietTactic
namespace Go.Proofs.Yteabfkgbakoljaa
open Go.RowKit Mem Fl
set_option linter.unusedVariables false
set_option maxRecDepth 100000

theorem l_b10Gap {a b : Nat} {w : World} (h1 : isNan .f64 (fb .sub .f64 b a) = false) (h2 : isNan .f64 (fb .sub .f64 a b) = false) : Calls Try.prog 32 #[.float .f64 a, .float .f64 b] w fun e w' => e = .returned (.float .f64 (gap64 a b)) ∧ ∃ m, w' = w.drewN m := by
  have q1 : ∀ W, flR .sub .f64 b a W = fb .sub .f64 b a := flR_num h1
  have q2 : ∀ W, flR .sub .f64 a b W = fb .sub .f64 a b := flR_num h2
  have HG : Hid (gap64 a b = if (FloatKind.f64.format.order a b == some .lt) = true then fb .sub .f64 b a else fb .sub .f64 a b) := hide rfl
  cases hl : (FloatKind.f64.format.order a b == some .lt)
  all_goals
    rw [hl] at HG
    go_enter Try.func32, Try.ntmps32
    go_wp2
    go_ret
    exact ⟨by rw [HG.out]; first | rfl | rw [q1]; rfl | rw [q2]; rfl, _, rfl⟩
theorem gap_nn {x y : Nat} (hx : fin .f64 x = true) (hy : fin .f64 y = true) (h1 : fv .f64 x - fv .f64 y ≤ 1000000) (h2 : fv .f64 y - fv .f64 x ≤ 1000000) : isNan .f64 (fb .sub .f64 y x) = false ∧ isNan .f64 (fb .sub .f64 x y) = false := by
  have hb := big64b
  exact ⟨fin_nn64 (re_sub hy hx (by grind) (by grind)).1, fin_nn64 (re_sub hx hy (by grind) (by grind)).1⟩
theorem same_self (x : Nat) : sameN x x = true := by unfold sameN; simp
theorem s_SameNumber {x : Nat} {w : World} (wx : Wf .f32 x) : Calls Try.prog 53 #[.float .f32 x, .float .f32 x] w fun e w' => e = .returned (.bool true) ∧ w' = w := by
  go_enter Try.func53, Try.ntmps53
  go_wp2_with (go_at_call 107; refine (s_l01Same wx wx).mono ?_; rintro e w' ⟨rfl, rfl⟩; rw [same_self])
  go_ret
  exact ⟨rfl, rfl⟩
set_option maxHeartbeats 1000000 in
theorem l_b10List2 {A A' : Option Addr} {c c' B B' x y : Nat} {w : World} (h : Reads w B 1 A 2 (fl .f32 [x, y])) (h' : Reads w B' 1 A' 2 (fl .f32 [x, y])) (wx : Wf .f32 x) (wy : Wf .f32 y) :
    Calls Try.prog 39 #[.slice A 2 c, .slice A' 2 c'] w fun e w' => e = .returned (.bool true) ∧ ∃ m, w' = w.drewN m := by
  obtain ⟨ad, u, rfl, _, hu, hc0⟩ := h.map_at (k := 0) (by omega)
  obtain rfl : x = u := by simpa using hu
  obtain ⟨ad1, u1, e1, _, hu1, hc1⟩ := h.map_at (k := 1) (by omega)
  obtain rfl : y = u1 := by simpa using hu1
  obtain ⟨ae, v, rfl, _, hv, hd0⟩ := h'.map_at (k := 0) (by omega)
  obtain rfl : x = v := by simpa using hv
  obtain ⟨ae1, v1, f1, _, hv1, hd1⟩ := h'.map_at (k := 1) (by omega)
  obtain rfl : y = v1 := by simpa using hv1
  injection e1 with e1
  subst e1
  injection f1 with f1
  subst f1
  have HC : Hid (∀ i, i < 2 → ∃ z, Wf .f32 z ∧ w.cell? (ad.add i) = some (.float .f32 z) ∧ w.cell? (ae.add i) = some (.float .f32 z)) := hide (fun i hi => by
    rcases (by omega : i = 0 ∨ i = 1) with rfl | rfl
    · exact ⟨x, wx, hc0, hd0⟩
    · exact ⟨y, wy, hc1, hd1⟩)
  clear hu hu1 hv hv1 hc0 hc1 hd0 hd1 wx wy h h'
  go_enter Try.func39, Try.ntmps39
  go_wp2
  go_loopw [13] (fun v13 wr => ∃ i q : Nat, i ≤ 2 ∧ v13 = .int .i64 (i : Int) ∧ wr = w.drewN q) (fun v13 _ => 2 - (intOf v13).toNat)
  case atStart => exact ⟨0, 0, by omega, rfl, rfl⟩
  case round =>
    obtain ⟨i, q, hi, rfl, rfl⟩ := hrel
    by_cases i2 : i < 2
    · have iI : (i : Int) < 2 := by omega
      obtain ⟨z, wz, k1, k2⟩ := HC.out i i2
      have WZ := hide wz
      clear wz
      have j1 : (w.drewN q).cell? (ad.add i) = some (.float .f32 z) := k1
      have j2 : (w.drewN q).cell? (ae.add i) = some (.float .f32 z) := k2
      obtain ⟨wq, hwq⟩ : ∃ wq, w.drewN q = wq := ⟨_, rfl⟩
      have HWq := hide hwq
      rw [hwq] at j1 j2 ⊢
      clear hwq k1 k2
      go_wp2
      go_quiet ((go_at_call 53; exact Calls.quiet_of_same (s_SameNumber WZ.out)))
      go_wp2
      go_roundw
      case rel => exact ⟨i + 1, _, by omega, by go_num, by rw [← HWq.out, World.drewN_drewN]⟩
      case measure => simp [intOf]; omega
    · have iI : ¬ (i : Int) < 2 := by omega
      go_wp2
      go_ret
      exact ⟨rfl, _, rfl⟩
end Go.Proofs.Yteabfkgbakoljaa
namespace Go.Proofs.Yteabfkgbakoljaa
open Go.RowKit Mem Fl
set_option linter.unusedVariables false
set_option maxRecDepth 100000

def sqW (xs : List Nat) : Nat → Nat
  | 0 => 0
  | k + 1 => fb .add .f64 (sqW xs k) (fb .mul .f64 (wide (xs.getD k 0)) (wide (xs.getD k 0)))
theorem sqV_snoc (x : Nat) : ∀ l : List Nat, sqV (l ++ [x]) = sqV l + fv .f32 x * fv .f32 x
  | [] => by simp [sqV]; grind
  | y :: l => by simp only [List.cons_append, sqV, sqV_snoc x l]; grind
theorem f64_0 : fin .f64 0 = true ∧ fv .f64 0 = 0 := by decide +kernel
theorem sqV_take_le {xs : List Nat} (h : Sg xs) (k : Nat) : 0 ≤ sqV (xs.take k) ∧ sqV (xs.take k) ≤ 21 * 16 := by
  refine ⟨sqV_nn _, ?_⟩
  have := sqV_le (B := 4) (xs := xs.take k) (fun x hx => (qF_gr (h.at_ (List.mem_of_mem_take hx))).2.2.2)
  have hl : (((xs.take k).length : Nat) : Rat) ≤ 21 := nat_21 (by have := h.l2; rw [List.length_take]; omega)
  grind
theorem mul_q {x : Nat} (h : ∃ k, k < 33 ∧ x = qF k) : fin .f64 (wide x) = true ∧ fin .f64 (fb .mul .f64 (wide x) (wide x)) = true ∧ Near (fv .f64 (fb .mul .f64 (wide x) (wide x))) (fv .f32 x * fv .f32 x) (1 / 500000) := by
  obtain ⟨⟨x1, _⟩, _, _, x2, x3⟩ := qF_gr h
  obtain ⟨w1, v1⟩ := re_wide x1
  have p := Rat.mul_nonneg (show 0 ≤ 4 - fv .f32 x by grind) (show 0 ≤ 4 + fv .f32 x by grind)
  have q := sq_of_nn (fv .f32 x)
  obtain ⟨a, b⟩ := f64_mul w1 w1 (by rw [v1]; grind) (by rw [v1]; grind)
  rw [v1] at b
  exact ⟨w1, a, b⟩
theorem sqW_ok {xs : List Nat} (h : Sg xs) : ∀ k, k ≤ xs.length → fin .f64 (sqW xs k) = true ∧ Near (fv .f64 (sqW xs k)) (sqV (xs.take k)) ((k : Rat) * (5 / 1000000))
  | 0, _ => by
    have e0 : ((0 : Nat) : Rat) = 0 := rfl
    refine ⟨f64_0.1, ?_, ?_⟩ <;> simp only [sqW, List.take_zero, sqV] <;> rw [f64_0.2, e0] <;> decide +kernel
  | k + 1, hk => by
    obtain ⟨a, b1, b2⟩ := sqW_ok h k (by omega)
    have hx := getD_mem (show k < xs.length by omega)
    obtain ⟨_, m1, m2, m3⟩ := mul_q (h.at_ hx)
    obtain ⟨t0, t1⟩ := sqV_take_le h k
    obtain ⟨s0, s1⟩ := sqV_take_le h (k + 1)
    have hk21 : (k : Rat) ≤ 21 := nat_21 (by have := h.l2; omega)
    have ek : ((k + 1 : Nat) : Rat) = (k : Rat) + 1 := by rw [Rat.natCast_add]; rfl
    have ht : xs.take (k + 1) = xs.take k ++ [xs.getD k 0] := take_eq (by rw [List.getD_eq_getElem?_getD, List.getElem?_eq_getElem (by omega)]; rfl)
    rw [ht, sqV_snoc] at s0 s1 ⊢
    obtain ⟨c, d1, d2⟩ := f64_add a m1 (by grind) (by grind)
    simp only [sqW]
    rw [ek]
    exact ⟨c, by grind, by grind⟩
theorem c1_64 : fin .f64 4607182418800017408 = true ∧ fv .f64 4607182418800017408 = 1 := by decide +kernel
theorem n64 {n : Nat} (h : n ≤ 100) : fin .f64 (floatOfInt .f64 (n : Int)) = true ∧ fv .f64 (floatOfInt .f64 (n : Int)) = (n : Rat) := by
  have : FloatKind.f64.format.fractionBits = 52 := by decide +kernel
  have := re_int (k := .f64) (n := (n : Int)) (by rw [this]; omega)
  rwa [Rat.intCast_natCast] at this
/-- What the root power is held against. -/
theorem root_chk {xs : List Nat} (h : Sg xs) : fin .f32 (rpR xs) = true ∧ fin .f64 (fb .mul .f64 (wide (rpR xs)) (wide (rpR xs))) = true ∧ fin .f64 (fb .mul .f64 (fb .mul .f64 (wide (rpR xs)) (wide (rpR xs))) (floatOfInt .f64 (xs.length : Int))) = true ∧
    fin .f64 (fb .add .f64 4607182418800017408 (sqW xs xs.length)) = true ∧ fin .f64 (fb .mul .f64 4562254508917369340 (fb .add .f64 4607182418800017408 (sqW xs xs.length))) = true ∧
    isNan .f64 (fb .sub .f64 (sqW xs xs.length) (fb .mul .f64 (fb .mul .f64 (wide (rpR xs)) (wide (rpR xs))) (floatOfInt .f64 (xs.length : Int)))) = false ∧ isNan .f64 (fb .sub .f64 (fb .mul .f64 (fb .mul .f64 (wide (rpR xs)) (wide (rpR xs))) (floatOfInt .f64 (xs.length : Int))) (sqW xs xs.length)) = false ∧
    (FloatKind.f64.format.order (gap64 (fb .mul .f64 (fb .mul .f64 (wide (rpR xs)) (wide (rpR xs))) (floatOfInt .f64 (xs.length : Int))) (sqW xs xs.length)) (fb .mul .f64 4562254508917369340 (fb .add .f64 4607182418800017408 (sqW xs xs.length))) == some .gt) = false := by
  obtain ⟨_, v, hv, v0, v1, r1, r2, ⟨r3, r4⟩, r5⟩ := rp_told h
  obtain ⟨s1, s2, s3⟩ := sqW_ok h xs.length (Nat.le_refl _)
  obtain ⟨t0, t1⟩ := sqV_take_le h xs.length
  rw [List.take_of_length_le (Nat.le_refl _)] at s2 s3 t0 t1
  have n1 := natpos h.l1
  have n2 := nat_21 h.l2
  obtain ⟨k1, k2⟩ := n64 (n := xs.length) (by have := h.l2; omega)
  obtain ⟨w1, w2⟩ := re_wide r1
  have hrr := sq_of_nn (fv .f32 (rpR xs))
  obtain ⟨a1, a2, a3⟩ := f64_mul w1 w1 (by rw [w2]; grind) (by rw [w2]; grind)
  rw [w2] at a2 a3
  generalize fb .mul .f64 (wide (rpR xs)) (wide (rpR xs)) = P at *
  have p1 : fv .f64 P - v ≤ 1 / 36000 := by grind
  have p2 : v - fv .f64 P ≤ 1 / 36000 := by grind
  have q1 := Rat.mul_nonneg (show 0 ≤ 1 / 36000 - (fv .f64 P - v) by grind) (show (0 : Rat) ≤ (xs.length : Rat) by grind)
  have q2 := Rat.mul_nonneg (show 0 ≤ 1 / 36000 - (v - fv .f64 P) by grind) (show (0 : Rat) ≤ (xs.length : Rat) by grind)
  have e1 : fv .f64 P * (xs.length : Rat) - sqV xs ≤ 21 / 36000 := by rw [← hv]; grind
  have e2 : sqV xs - fv .f64 P * (xs.length : Rat) ≤ 21 / 36000 := by rw [← hv]; grind
  clear q1 q2 hrr a2 a3 r3 r4 p1 p2
  obtain ⟨b1, b2, b3⟩ := f64_mul a1 k1 (by rw [k2]; grind) (by rw [k2]; grind)
  rw [k2] at b2 b3
  generalize fb .mul .f64 P (floatOfInt .f64 (xs.length : Int)) = Q at *
  generalize sqW xs xs.length = SQ at *
  obtain ⟨c1, c2⟩ := c1_64
  obtain ⟨d1, d2, d3⟩ := f64_add c1 s1 (by rw [c2]; grind) (by rw [c2]; grind)
  rw [c2] at d2 d3
  generalize fb .add .f64 4607182418800017408 SQ = U at *
  obtain ⟨f1, f2, f3⟩ := c0001'
  have g0 : 0 ≤ fv .f64 U := by grind
  have g1 : fv .f64 U ≤ 400 := by grind
  have g2 := Rat.mul_le_mul_of_nonneg_right f2 g0
  have g3 := Rat.mul_le_mul_of_nonneg_right f3 g0
  obtain ⟨h1, h2, h3⟩ := f64_mul f1 d1 (by grind) (by grind)
  obtain ⟨x1, x2⟩ := gap64_le (d := 7 / 10000) b1 s1 (by grind) (by grind) (by grind)
  obtain ⟨y1, y2⟩ := gap_nn b1 s1 (by grind) (by grind)
  refine ⟨r1, a1, b1, d1, h1, y1, y2, ?_⟩
  rw [ord_gt x1 h1, decide_eq_false_iff_not]
  refine Rat.not_lt.2 ?_
  clear g3
  grind
theorem c999 : fin .f64 4607173411600762667 = true ∧ fv .f64 4607173411600762667 ≤ 99905 / 100000 := by decide +kernel
theorem at_least {x : Nat} (h : fin .f32 x = true) (h1 : 9991 / 10000 ≤ fv .f32 x) : (FloatKind.f64.format.order (wide x) 4607173411600762667 == some .lt) = false := by
  obtain ⟨a, b⟩ := re_wide h
  obtain ⟨c1, c2⟩ := c999
  rw [ord_lt a c1, decide_eq_false_iff_not, b]
  refine Rat.not_lt.2 ?_
  grind
/-- A ratio that is told, and what it is held against. -/
structure Ratio (b : Bool) (x : Nat) : Prop where
  yes : b = true → fin .f32 x = true ∧ (FloatKind.f64.format.order (wide x) 4607173411600762667 == some .lt) = false
theorem ratio_pr {xs : List Nat} (h : Sg xs) {z : Nat} (hz : cn .f32 z = prR xs) : Ratio (prOk xs) z := ⟨fun ho => by
  obtain ⟨a, b⟩ := pr_told h ho
  have : z = prR xs := by
    have hn : isNan .f32 z = false := by
      cases hx : isNan .f32 z
      · rfl
      · rw [cn_nan hx] at hz; rw [← hz] at a; exact absurd a (by decide +kernel)
    rw [← hz, cn_num hn]
  rw [this]
  exact ⟨a, at_least a b⟩⟩
theorem ratio_fr {xs : List Nat} (h : Sg xs) {z : Nat} (hz : cn .f32 z = frR xs) : Ratio (frOk xs) z := ⟨fun ho => by
  obtain ⟨a, b⟩ := fr_told h ho
  have : z = frR xs := by
    have hn : isNan .f32 z = false := by
      cases hx : isNan .f32 z
      · rfl
      · rw [cn_nan hx] at hz; rw [← hz] at a; exact absurd a (by decide +kernel)
    rw [← hz, cn_num hn]
  rw [this]
  exact ⟨a, at_least a b⟩⟩
theorem word_told {z R : Nat} (hz : cn .f32 z = R) (hf : fin .f32 R = true) : z = R := by
  have hn : isNan .f32 z = false := by
    cases hx : isNan .f32 z
    · rfl
    · rw [cn_nan hx] at hz; rw [← hz] at hf; exact absurd hf (by decide +kernel)
  rw [← hz, cn_num hn]
theorem list_told {zs T : List Nat} (h : zs.map (cn .f32) = T) (hf : T.all (fin .f32) = true) : zs = T := by
  subst h
  have : ∀ z ∈ zs, cn .f32 z = z := fun z hz => (word_told rfl (List.all_eq_true.1 hf _ (List.mem_map_of_mem hz))).symm
  exact (List.map_congr_left this).symm ▸ (List.map_id' zs).symm
theorem c_Root {A : Option Addr} {n c : Nat} {xs : List Nat} {w : World} (hs : Sg xs) (h : Reads w w.heap.size 1 A n (fl .f32 xs)) (hn : n ≤ 100) :
    Calls Try.prog 27 #[.slice A n c] w fun e w' => e = .returned (.tuple #[.float .f32 (rpR xs), .bool true]) ∧ Below w.heap.size w w' := by
  refine (i_RootPower h (by unfold maxLen; omega)).mono ?_
  rintro e w' ⟨z, rfl, hz, hb⟩
  obtain ⟨ho, _, _, _, _, r1, _⟩ := rp_told hs
  rw [ho, word_told hz.out r1]
  exact ⟨rfl, hb⟩
theorem c_Mean {A : Option Addr} {n c p : Nat} {xs : List Nat} {w : World} (hs : Sg xs) (h : Reads w w.heap.size 1 A n (fl .f32 xs)) (hn : n ≤ 100) (h1 : 1 ≤ p) (hp : p ≤ n) :
    Calls Try.prog 33 #[.slice A n c, .int .i64 (p : Int)] w fun e w' => ∃ v, e = .returned (.tuple #[v, .bool true]) ∧ w'.ownsRow w.heap.size 27 1 v p (fl .f32 (turnL xs p)) ∧ Below w.heap.size w w' := by
  have hl := h.map_len
  obtain ⟨ho, _⟩ := turn_ok hs h1 (by rw [hl]; exact hp)
  refine (i_TurnMean h (by unfold maxLen; omega)).mono ?_
  rintro e w' ⟨v, zs, rfl, ho2, hz, hb⟩
  have hR : turnR xs (p : Int) = turnL xs p := by unfold turnR; rw [if_pos ho, Int.toNat_natCast]
  have hall : (turnL xs p).all (fin .f32) = true := by
    unfold turnOk at ho
    rw [Int.toNat_natCast] at ho
    simp only [Bool.and_eq_true] at ho
    exact ho.2
  have hz2 := list_told (hz.out.trans hR) hall
  rw [hz2, turnL_len] at ho2
  rw [ho]
  exact ⟨v, rfl, ho2, hb⟩
theorem c_Rest {A : Option Addr} {n c p : Nat} {xs : List Nat} {w : World} (hs : Sg xs) (h : Reads w w.heap.size 1 A n (fl .f32 xs)) (hn : n ≤ 100) (h1 : 1 ≤ p) (hp : p ≤ n) :
    Calls Try.prog 34 #[.slice A n c, .int .i64 (p : Int)] w fun e w' => ∃ v, e = .returned (.tuple #[v, .bool true]) ∧ w'.ownsRow w.heap.size 27 1 v n (fl .f32 (restTo xs p n)) ∧ Below w.heap.size w w' := by
  have hl := h.map_len
  obtain ⟨_, ho⟩ := turn_ok hs h1 (by rw [hl]; exact hp)
  refine (i_TurnRest h (by unfold maxLen; omega)).mono ?_
  rintro e w' ⟨v, zs, rfl, ho2, hz, hb⟩
  have hR : restR xs (p : Int) = restTo xs p n := by unfold restR; rw [if_pos ho, Int.toNat_natCast, hl]
  have hall : (restTo xs p n).all (fin .f32) = true := by
    unfold restOk at ho
    rw [Int.toNat_natCast, hl] at ho
    simp only [Bool.and_eq_true] at ho
    exact ho.2
  have hz2 := list_told (hz.out.trans hR) hall
  rw [hz2, restTo_len] at ho2
  rw [ho]
  exact ⟨v, rfl, ho2, hb⟩
end Go.Proofs.Yteabfkgbakoljaa
namespace Go.Proofs.Yteabfkgbakoljaa
open Go.RowKit Mem Fl
set_option linter.unusedVariables false
set_option maxRecDepth 100000

def midA (k j : Nat) : Nat := fb .add .f64 (wide (qF k)) (wide (qF j))
def midQ (k j : Nat) : Nat := fb .quo .f64 (midA k j) 4611686018427387904
theorem mid_tab2 : ∀ k : Nat, k < 33 → ∀ j : Nat, j < 33 → fin .f64 (midA k j) = true ∧ fin .f64 (midQ k j) = true ∧ isNan .f64 (fb .sub .f64 (midQ k j) (wide (midV k j))) = false ∧ isNan .f64 (fb .sub .f64 (wide (midV k j)) (midQ k j)) = false := by decide +kernel
/-- What places are told. -/
structure Told3 (a b AT MD MA MQ : Nat) : Prop where
  f1 : fin .f32 AT = true
  f2 : fin .f32 MD = true
  eq : (FloatKind.f32.format.order AT a != some .eq) = false
  fa : fin .f64 MA = true
  fq : fin .f64 MQ = true
  ma : fb .add .f64 (wide a) (wide b) = MA
  mq : fb .quo .f64 MA 4611686018427387904 = MQ
  n1 : isNan .f64 (fb .sub .f64 MQ (wide MD)) = false
  n2 : isNan .f64 (fb .sub .f64 (wide MD) MQ) = false
  gp : (FloatKind.f64.format.order (gap64 (wide MD) MQ) 4562254508917369340 == some .gt) = false
theorem place_told {xs : List Nat} (h : Sg xs) {i m : Nat} (hi : i + 1 < xs.length) (hm : m + 1 = xs.length) : ∃ AT MD MA MQ, Told3 (xs.getD i 0) (xs.getD (i + 1) 0) AT MD MA MQ ∧ plOk xs [floatOfInt .f32 (i : Int), hfW i, floatOfInt .f32 (m : Int)] = true ∧ plR xs [floatOfInt .f32 (i : Int), hfW i, floatOfInt .f32 (m : Int)] = [AT, MD, xs.getD m 0] ∧ fin .f32 (xs.getD m 0) = true := by
  have l2 := h.l2
  obtain ⟨k, hk, ek⟩ := h.at_ (getD_mem (show i < xs.length by omega))
  obtain ⟨j, hj, ej⟩ := h.at_ (getD_mem hi)
  obtain ⟨⟨xm, _⟩, _⟩ := qF_gr (h.at_ (getD_mem (show m < xs.length by omega)))
  obtain ⟨t1, t2, t3, t4⟩ := mid_tab k hk j hj
  obtain ⟨u1, u2, u3, u4⟩ := mid_tab2 k hk j hj
  obtain ⟨p1, p2, p3, p4, p5, p6⟩ := place_tab i (by omega)
  obtain ⟨m1, _, _, _, m5, _⟩ := place_tab m (by omega)
  have v1 : plV xs (floatOfInt .f32 (i : Int)) = atV k j := by unfold plV atV; rw [p1, if_pos hi, p3, ek, ej]
  have v2 : plV xs (hfW i) = midV k j := by unfold plV midV; rw [p2, if_pos hi, p4, ek, ej]
  have v3 : plV xs (floatOfInt .f32 (m : Int)) = xs.getD m 0 := by unfold plV; rw [m1, if_neg (by omega)]
  have hT : plTo xs [floatOfInt .f32 (i : Int), hfW i, floatOfInt .f32 (m : Int)] 3 = [atV k j, midV k j, xs.getD m 0] := by
    unfold plTo
    simp only [List.take_succ_cons, List.take_zero, List.map_cons, List.map_nil, v1, v2, v3]
  have hok : plOk xs [floatOfInt .f32 (i : Int), hfW i, floatOfInt .f32 (m : Int)] = true := by
    have e3 : ([floatOfInt .f32 (i : Int), hfW i, floatOfInt .f32 (m : Int)] : List Nat).length = 3 := rfl
    have r1 := inR_tab xs.length (by omega) i (by omega)
    have r2 := inR_tab xs.length (by omega) m (by omega)
    unfold plOk
    rw [sg_sig h, e3, hT]
    have s3 : isSig [floatOfInt .f32 (i : Int), hfW i, floatOfInt .f32 (m : Int)] = true := by
      unfold isSig
      simp [p5, p6, m5]
    rw [s3]
    simp only [List.all_cons, List.all_nil, r1.1, r1.2 hi, r2.1, t1, t2, xm, Bool.and_self]
  have hR : plR xs [floatOfInt .f32 (i : Int), hfW i, floatOfInt .f32 (m : Int)] = [atV k j, midV k j, xs.getD m 0] := by
    unfold plR; rw [if_pos hok]; exact hT
  refine ⟨atV k j, midV k j, midA k j, midQ k j, ⟨t2, t1, ?_, u1, u2, ?_, rfl, u3, u4, t4⟩, hok, hR, xm⟩
  · rw [ek]; exact t3
  · rw [ek, ej]; rfl
theorem c_Places {A A' : Option Addr} {n c c' i m AT MD : Nat} {xs : List Nat} {w : World} (hs : Sg xs) (h : Reads w w.heap.size 1 A n (fl .f32 xs)) (hn : n ≤ 100)
    (h' : Reads w w.heap.size 1 A' 3 (fl .f32 [floatOfInt .f32 (i : Int), hfW i, floatOfInt .f32 (m : Int)])) (ho : plOk xs [floatOfInt .f32 (i : Int), hfW i, floatOfInt .f32 (m : Int)] = true)
    (hR : plR xs [floatOfInt .f32 (i : Int), hfW i, floatOfInt .f32 (m : Int)] = [AT, MD, xs.getD m 0]) (f1 : fin .f32 AT = true) (f2 : fin .f32 MD = true) (f3 : fin .f32 (xs.getD m 0) = true) :
    Calls Try.prog 35 #[.slice A n c, .slice A' 3 c'] w fun e w' => ∃ g c2, e = .returned (.tuple #[.slice (some ⟨g, 0, none⟩) 3 c2, .bool true]) ∧ w'.ownsRow w.heap.size 27 1 (.slice (some ⟨g, 0, none⟩) 3 c2) 3 (fl .f32 [AT, MD, xs.getD m 0]) ∧ Below w.heap.size w w' := by
  refine (i_AtPlaces h (by unfold maxLen; omega) h' (by decide)).mono ?_
  rintro e w' ⟨v, zs, rfl, hown, hz, hb⟩
  have hz2 := list_told (hz.out.trans hR) (by simp only [List.all_cons, List.all_nil, f1, f2, f3]; rfl)
  rw [hz2] at hown
  obtain ⟨g, c2, rfl⟩ := own_addr hown (by simp)
  rw [ho]
  exact ⟨g, c2, rfl, hown, hb⟩
end Go.Proofs.Yteabfkgbakoljaa
namespace Go.Proofs.Yteabfkgbakoljaa
open Go.RowKit Mem Fl
set_option linter.unusedVariables false
set_option maxRecDepth 100000

theorem cos_tab : ∀ a : Nat, a < 9 → fin .f32 (angW a) = true ∧ fin .f32 (phX (angW a)) = true ∧ 0 ≤ fv .f32 (phX (angW a)) ∧ fv .f32 (phX (angW a)) ≤ 1 := by decide +kernel
theorem sh_br : ∀ j : Nat, j < 15 → shB (shW (j + 1)) = true ∧ (FloatKind.f32.format.order (shW (j + 1)) 0 == some .gt) = true ∧ fin .f32 (shW (j + 1)) = true ∧ 1 / 16 ≤ fv .f32 (shW (j + 1)) ∧ fv .f32 (shW (j + 1)) ≤ 1 := by decide +kernel
theorem consts : fin .f32 1065353216 = true ∧ fv .f32 1065353216 = 1 ∧ fin .f32 1056964608 = true ∧ fv .f32 1056964608 = 1 / 2 ∧ fin .f32 1073741824 = true ∧ fv .f32 1073741824 = 2 := by decide +kernel
theorem mul_nr {x y : Nat} (hx : fin .f32 x = true) (hy : fin .f32 y = true) (h1 : fv .f32 x * fv .f32 y ≤ 100) (h2 : -(fv .f32 x * fv .f32 y) ≤ 100) : fin .f32 (fb .mul .f32 x y) = true ∧ Near (fv .f32 (fb .mul .f32 x y)) (fv .f32 x * fv .f32 y) (1 / 100000) := by
  have hb := big12
  have he := e20
  obtain ⟨a, b⟩ := re_mul hx hy (by grind) (by grind)
  have c := b 100 h1 h2
  rw [uu32, lp32] at c
  exact ⟨a, by grind, by grind⟩
theorem add_nr {x y : Nat} (hx : fin .f32 x = true) (hy : fin .f32 y = true) (h1 : fv .f32 x + fv .f32 y ≤ 100) (h2 : -(fv .f32 x + fv .f32 y) ≤ 100) : fin .f32 (fb .add .f32 x y) = true ∧ Near (fv .f32 (fb .add .f32 x y)) (fv .f32 x + fv .f32 y) (1 / 100000) := by
  have hb := big12
  obtain ⟨a, b⟩ := re_add hx hy (by grind) (by grind)
  have c := b 100 h1 h2
  rw [uu32] at c
  exact ⟨a, by grind, by grind⟩
theorem sub_nr {x y : Nat} (hx : fin .f32 x = true) (hy : fin .f32 y = true) (h1 : fv .f32 x - fv .f32 y ≤ 100) (h2 : -(fv .f32 x - fv .f32 y) ≤ 100) : fin .f32 (fb .sub .f32 x y) = true ∧ Near (fv .f32 (fb .sub .f32 x y)) (fv .f32 x - fv .f32 y) (1 / 100000) := by
  have hb := big12
  obtain ⟨a, b⟩ := re_sub hx hy (by grind) (by grind)
  have c := b 100 h1 h2
  rw [uu32] at c
  exact ⟨a, by grind, by grind⟩
theorem br_arith {N c a1 g0 g1 hn a2 g2 : Rat} (n1 : 1 ≤ N) (n16 : N ≤ 16) (c0 : -1 / 1000 ≤ c) (c1 : c ≤ 1 + 1 / 1000) (ha1 : a1 - (1 - c) ≤ 1 / 100000) (ha1' : (1 - c) - a1 ≤ 1 / 100000)
    (hg0 : g0 - 1 / 2 * a1 ≤ 1 / 100000) (hg0' : 1 / 2 * a1 - g0 ≤ 1 / 100000) (hg1 : g1 - N * g0 ≤ 1 / 100000) (hg1' : N * g0 - g1 ≤ 1 / 100000) (hh : hn - 1 / 2 * N ≤ 1 / 100000) (hh' : 1 / 2 * N - hn ≤ 1 / 100000)
    (ha2 : a2 - (1 + c) ≤ 1 / 100000) (ha2' : (1 + c) - a2 ≤ 1 / 100000) (hg2 : g2 - hn * a2 ≤ 1 / 100000) (hg2' : hn * a2 - g2 ≤ 1 / 100000) :
    g1 + g2 - N ≤ 1 / 2000 ∧ N - (g1 + g2) ≤ 1 / 2000 := by
  have t1 := Rat.mul_nonneg (show 0 ≤ 2 / 100000 - (g0 - 1 / 2 * (1 - c)) by grind) (show 0 ≤ N by grind)
  have t2 := Rat.mul_nonneg (show 0 ≤ 2 / 100000 - (1 / 2 * (1 - c) - g0) by grind) (show 0 ≤ N by grind)
  have t3 := Rat.mul_nonneg (show 0 ≤ 1 / 100000 - (hn - 1 / 2 * N) by grind) (show 0 ≤ a2 by grind)
  have t4 := Rat.mul_nonneg (show 0 ≤ 1 / 100000 - (1 / 2 * N - hn) by grind) (show 0 ≤ a2 by grind)
  have t5 := Rat.mul_nonneg (show 0 ≤ 1 / 100000 - (a2 - (1 + c)) by grind) (show 0 ≤ N by grind)
  have t6 := Rat.mul_nonneg (show 0 ≤ 1 / 100000 - ((1 + c) - a2) by grind) (show 0 ≤ N by grind)
  constructor <;> grind
/-- What rates of a bearing are held against. -/
structure Bear (n : Nat) (g0 g1 g2 S P : Nat) : Prop where
  f0 : fin .f32 g0 = true
  f1 : fin .f32 g1 = true
  f2 : fin .f32 g2 = true
  s : fb .add .f64 (wide g1) (wide g2) = S
  fs : fin .f64 S = true
  p : fb .mul .f64 (floatOfInt .f64 (n : Int)) (wide g0) = P
  fp : fin .f64 P = true
  n1 : isNan .f64 (fb .sub .f64 (floatOfInt .f64 (n : Int)) S) = false
  n2 : isNan .f64 (fb .sub .f64 S (floatOfInt .f64 (n : Int))) = false
  n3 : isNan .f64 (fb .sub .f64 P (wide g1)) = false
  n4 : isNan .f64 (fb .sub .f64 (wide g1) P) = false
  k1 : (FloatKind.f64.format.order (gap64 S (floatOfInt .f64 (n : Int))) 4562254508917369340 == some .lt) = true
  k2 : (FloatKind.f64.format.order (gap64 (wide g1) P) 4562254508917369340 == some .lt) = true
theorem bear_ok {b j a : Nat} (hb : b < 16) (hj : j < 15) (ha : a < 9) : ∃ g0 g1 g2 g3 S P : Nat, Bear (b + 1) g0 g1 g2 S P ∧ brO ((b + 1 : Nat) : Int) (shW (j + 1)) (angW a) = true ∧ brR ((b + 1 : Nat) : Int) (shW (j + 1)) (angW a) = [g0, g1, g2, g3] ∧ fin .f32 g3 = true := by
  obtain ⟨fa, fp, p0, p1⟩ := cos_tab a ha
  obtain ⟨q1, q2, fR, R0, R1⟩ := sh_br j hj
  obtain ⟨k1, k2, k3, k4, k5, k6⟩ := consts
  have hin : inB ((b + 1 : Nat) : Int) 1 32 = true := by unfold inB; simp; omega
  obtain ⟨fn, vn⟩ := n_fin (n := b + 1) (by omega)
  have N1 := natpos (show 1 ≤ b + 1 by omega)
  have N16 : ((b + 1 : Nat) : Rat) ≤ 16 := by have := nat_le.2 (show b + 1 ≤ 16 by omega); exact this
  have hV : brV ((b + 1 : Nat) : Int) (shW (j + 1)) (angW a) = [brG (shW (j + 1)) (angW a), fb .mul .f32 (floatOfInt .f32 ((b + 1 : Nat) : Int)) (brG (shW (j + 1)) (angW a)), fb .mul .f32 (fb .mul .f32 1056964608 (floatOfInt .f32 ((b + 1 : Nat) : Int))) (fb .add .f32 1065353216 (brC (shW (j + 1)) (angW a))), fb .quo .f32 (fb .sub .f32 1065353216 (fb .mul .f32 (brC (shW (j + 1)) (angW a)) (brC (shW (j + 1)) (angW a)))) (fb .mul .f32 1073741824 (shW (j + 1)))] := rfl
  have hG : brG (shW (j + 1)) (angW a) = fb .mul .f32 1056964608 (fb .sub .f32 1065353216 (brC (shW (j + 1)) (angW a))) := rfl
  have hC : brC (shW (j + 1)) (angW a) = fb .mul .f32 (shW (j + 1)) (phX (angW a)) := rfl
  generalize shW (j + 1) = R at *
  generalize phX (angW a) = p at *
  have e1 := Rat.mul_nonneg (show 0 ≤ fv .f32 R by grind) p0
  have e2 := Rat.mul_nonneg (show 0 ≤ 1 - fv .f32 R by grind) p0
  obtain ⟨fc, c1, c2⟩ := mul_nr fR fp (by grind) (by grind)
  rw [← hC] at fc c1 c2
  generalize brC R (angW a) = c at *
  have cl : -1 / 1000 ≤ fv .f32 c := by grind
  have cu : fv .f32 c ≤ 1 + 1 / 1000 := by grind
  clear e1 e2 c1 c2
  obtain ⟨f1, a1, a2⟩ := sub_nr k1 fc (by rw [k2]; grind) (by rw [k2]; grind)
  rw [k2] at a1 a2
  obtain ⟨f2, g1, g2⟩ := mul_nr k3 f1 (by rw [k4]; grind) (by rw [k4]; grind)
  rw [← hG] at f2 g1 g2
  rw [k4] at g1 g2
  generalize brG R (angW a) = G0 at *
  generalize fb .sub .f32 1065353216 c = A1 at *
  have g0l : -1 / 100 ≤ fv .f32 G0 := by grind
  have g0u : fv .f32 G0 ≤ 1 := by grind
  have m1 := Rat.mul_nonneg (show 0 ≤ 16 - ((b + 1 : Nat) : Rat) by grind) (show 0 ≤ fv .f32 G0 + 1 / 100 by grind)
  have m2 := Rat.mul_nonneg (show 0 ≤ ((b + 1 : Nat) : Rat) by grind) (show 0 ≤ fv .f32 G0 + 1 / 100 by grind)
  obtain ⟨f3, h1, h2⟩ := mul_nr fn f2 (by rw [vn]; grind) (by rw [vn]; grind)
  rw [vn] at h1 h2
  obtain ⟨f4, i1, i2⟩ := mul_nr k3 fn (by rw [vn, k4]; grind) (by rw [vn, k4]; grind)
  rw [vn, k4] at i1 i2
  obtain ⟨f5, j1, j2⟩ := add_nr k1 fc (by rw [k2]; grind) (by rw [k2]; grind)
  rw [k2] at j1 j2
  generalize fb .mul .f32 (floatOfInt .f32 ((b + 1 : Nat) : Int)) G0 = G1 at *
  generalize fb .mul .f32 1056964608 (floatOfInt .f32 ((b + 1 : Nat) : Int)) = HN at *
  generalize fb .add .f32 1065353216 c = A2 at *
  have m3 := Rat.mul_nonneg (show 0 ≤ 9 - fv .f32 HN by grind) (show 0 ≤ fv .f32 A2 by grind)
  have m4 := Rat.mul_nonneg (show 0 ≤ fv .f32 HN by grind) (show 0 ≤ fv .f32 A2 by grind)
  obtain ⟨f6, l1, l2⟩ := mul_nr f4 f5 (by grind) (by grind)
  generalize fb .mul .f32 HN A2 = G2 at *
  -- the fourth
  have cc := sq_of_nn (fv .f32 c)
  have cc2 := Rat.mul_nonneg (show 0 ≤ 2 - fv .f32 c by grind) (show 0 ≤ 2 + fv .f32 c by grind)
  obtain ⟨f7, o1, o2⟩ := mul_nr fc fc (by grind) (by grind)
  obtain ⟨f8, r1, r2⟩ := sub_nr k1 f7 (by rw [k2]; grind) (by rw [k2]; grind)
  rw [k2] at r1 r2
  obtain ⟨f9, s1, s2⟩ := mul_nr k5 fR (by rw [k6]; grind) (by rw [k6]; grind)
  rw [k6] at s1 s2
  have R2p : 1 / 10 ≤ fv .f32 (fb .mul .f32 1073741824 R) := by grind
  have hR2 : 0 < fv .f32 (fb .mul .f32 1073741824 R) := by grind
  have f10 : fin .f32 (fb .quo .f32 (fb .sub .f32 1065353216 (fb .mul .f32 c c)) (fb .mul .f32 1073741824 R)) = true := by
    have hq := Rat.div_mul_cancel (a := fv .f32 (fb .sub .f32 1065353216 (fb .mul .f32 c c))) (Rat.ne_of_gt hR2)
    have u1 : fv .f32 (fb .sub .f32 1065353216 (fb .mul .f32 c c)) / fv .f32 (fb .mul .f32 1073741824 R) ≤ 1000 := Rat.le_of_mul_le_mul_right (c := fv .f32 (fb .mul .f32 1073741824 R)) (by rw [hq]; grind) hR2
    have u2 : -(fv .f32 (fb .sub .f32 1065353216 (fb .mul .f32 c c)) / fv .f32 (fb .mul .f32 1073741824 R)) ≤ 1000 := Rat.le_of_mul_le_mul_right (c := fv .f32 (fb .mul .f32 1073741824 R)) (by rw [Rat.neg_mul, hq]; grind) hR2
    have hb := big12
    exact (re_quo f8 f9 (Rat.ne_of_gt hR2) (by grind) (by grind)).1
  obtain ⟨G3, hG3⟩ : ∃ G3, fb .quo .f32 (fb .sub .f32 1065353216 (fb .mul .f32 c c)) (fb .mul .f32 1073741824 R) = G3 := ⟨_, rfl⟩
  rw [hG3] at f10 hV
  obtain ⟨SS, hSS⟩ : ∃ SS, fb .add .f64 (wide G1) (wide G2) = SS := ⟨_, rfl⟩
  obtain ⟨PP, hPP⟩ : ∃ PP, fb .mul .f64 (floatOfInt .f64 ((b + 1 : Nat) : Int)) (wide G0) = PP := ⟨_, rfl⟩
  have hbr := br_arith N1 N16 cl cu a1 a2 g1 g2 h1 h2 i1 i2 j1 j2 l1 l2
  obtain ⟨w0, v0⟩ := re_wide f2
  obtain ⟨w1, v1⟩ := re_wide f3
  obtain ⟨w2, v2⟩ := re_wide f6
  obtain ⟨n1, n2⟩ := n64 (n := b + 1) (by omega)
  obtain ⟨x1, x2, x3⟩ := f64_add w1 w2 (by rw [v1, v2]; grind) (by rw [v1, v2]; grind)
  rw [v1, v2] at x2 x3
  rw [hSS] at x1 x2 x3
  obtain ⟨y1, y2, y3⟩ := f64_mul n1 w0 (by rw [n2, v0]; grind) (by rw [n2, v0]; grind)
  rw [n2, v0] at y2 y3
  rw [hPP] at y1 y2 y3
  obtain ⟨t1, t2⟩ := gap64_le (d := 6 / 10000) x1 n1 (by rw [n2]; grind) (by rw [n2]; grind) (by grind)
  obtain ⟨t3, t4⟩ := gap64_le (d := 6 / 10000) w1 y1 (by rw [v1]; grind) (by rw [v1]; grind) (by grind)
  obtain ⟨z1, z2⟩ := gap_nn x1 n1 (by rw [n2]; grind) (by rw [n2]; grind)
  obtain ⟨z3, z4⟩ := gap_nn w1 y1 (by rw [v1]; grind) (by rw [v1]; grind)
  obtain ⟨d1, d2, _⟩ := c0001'
  have hok : brO ((b + 1 : Nat) : Int) R (angW a) = true := by
    unfold brO brIn
    rw [hV, hin, q1, q2, fa]
    simp only [List.all_cons, List.all_nil, f2, f3, f6, f10, Bool.and_self]
  have hRR : brR ((b + 1 : Nat) : Int) R (angW a) = [G0, G1, G2, G3] := by unfold brR; rw [if_pos hok, hV]
  refine ⟨G0, G1, G2, G3, SS, PP, ⟨f2, f3, f6, hSS, x1, hPP, y1, z1, z2, z3, z4, ?_, ?_⟩, hok, hRR, f10⟩
  · rw [ord_lt t1 d1, decide_eq_true_iff]; grind
  · rw [ord_lt t3 d1, decide_eq_true_iff]; grind
theorem c_Bear {n R a g0 g1 g2 g3 : Nat} {w : World} (ho : brO (n : Int) R a = true) (hR : brR (n : Int) R a = [g0, g1, g2, g3]) (f0 : fin .f32 g0 = true) (f1 : fin .f32 g1 = true) (f2 : fin .f32 g2 = true) (f3 : fin .f32 g3 = true) :
    Calls Try.prog 36 #[.int .i64 (n : Int), .float .f32 R, .float .f32 a] w fun e w' => ∃ g c, e = .returned (.tuple #[.slice (some ⟨g, 0, none⟩) 4 c, .bool true]) ∧ w'.ownsRow w.heap.size 27 1 (.slice (some ⟨g, 0, none⟩) 4 c) 4 (fl .f32 [g0, g1, g2, g3]) ∧ Below w.heap.size w w' := by
  refine (i_Br).mono ?_
  rintro e w' ⟨v, zs, rfl, hown, hz, hb⟩
  have hz2 := list_told (hz.out.trans hR) (by simp only [List.all_cons, List.all_nil, f0, f1, f2, f3, Bool.and_self])
  rw [hz2] at hown
  obtain ⟨g, c, rfl⟩ := own_addr hown (by simp)
  rw [ho]
  exact ⟨g, c, rfl, hown, hb⟩
end Go.Proofs.Yteabfkgbakoljaa
