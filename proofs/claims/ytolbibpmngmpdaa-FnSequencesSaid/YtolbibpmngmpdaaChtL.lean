/-
  What the laws of samples choose by bytes.
-/
import Derived.Test.YtolbibpmngmpdaaSrc
import Derived.Test.YtolbibpmngmpdaaChtP
import Derived.BigQuiet
import Derived.Deep.QuietTactic
namespace Go.Proofs.Ytolbibpmngmpdaa
open Go.RowKit Fl Mem
set_option linter.unusedVariables false
set_option maxRecDepth 100000

theorem l_r8Long_no {A A' : Option Addr} {n n' c c' : Nat} {w : World} (h : n ≤ 48) (h' : n' ≤ 48) : Calls Try.prog 7 #[.slice A n c, .slice A' n' c'] w fun e w' => e = .returned (.bool false) ∧ w = w' := by
  have h1 : ¬ (48 : Int) < (n : Int) := by omega
  have h2 : decide ((48 : Int) < (n : Int)) = false := by simpa using h1
  have h3 : decide ((48 : Int) < (n' : Int)) = false := by simp; omega
  clear h h' h1
  go_enter Try.func7, Try.ntmps7
  go_wp2
  go_ret
  exact ⟨rfl, rfl⟩
theorem l_r8Long_yes {A A' : Option Addr} {n n' c c' : Nat} {w : World} (h : 48 < n ∨ 48 < n') : Calls Try.prog 7 #[.slice A n c, .slice A' n' c'] w fun e w' => e = .returned (.bool true) ∧ w = w' := by
  by_cases h1 : 48 < n
  · have h2 : decide ((48 : Int) < (n : Int)) = true := by simp; omega
    clear h h1
    go_enter Try.func7, Try.ntmps7
    go_wp2
    go_ret
    exact ⟨rfl, rfl⟩
  · have h2 : decide ((48 : Int) < (n : Int)) = false := by simp; omega
    have h3 : decide ((48 : Int) < (n' : Int)) = true := by simp; omega
    clear h h1
    go_enter Try.func7, Try.ntmps7
    go_wp2
    go_ret
    exact ⟨rfl, rfl⟩
theorem l_r8At {A : Option Addr} {n c B : Nat} {xs : List Int} {w : World} (h : Reads w B 1 A n (xs.map (Value.int .u8))) (hx : ∀ a ∈ xs, (Lit.int .u8 a).wf = true) (hn : n ≤ 1048576)
    {i N : Int} (hi : 0 ≤ i) (hi2 : i ≤ 100) (hN : 1 ≤ N) (hN2 : N ≤ 1000) :
    Calls Try.prog 8 #[.slice A n c, .int .i64 i, .int .i64 N] w fun e w' => ∃ v : Nat, e = .returned (.int .i64 (v : Int)) ∧ (v : Int) < N ∧ w = w' := by
  by_cases h1 : N ≤ 1
  · go_enter Try.func8, Try.ntmps8
    go_wp2
    go_ret
    exact ⟨0, rfl, by omega, rfl⟩
  · by_cases h2 : i < n
    · obtain ⟨q, rfl⟩ := Int.eq_ofNat_of_zero_le hi
      obtain ⟨ad, x, rfl, hab, hc, hx0, hx1⟩ := src_byte h hx (show q < n by omega)
      go_enter Try.func8, Try.ntmps8
      go_wp2
      go_ret
      have a1 := Int.emod_nonneg x (show N ≠ 0 by omega)
      exact ⟨(x % N).toNat, by rw [Int.toNat_of_nonneg a1]; rfl, by rw [Int.toNat_of_nonneg a1]; exact Int.emod_lt_of_pos _ (by omega), rfl⟩
    · go_enter Try.func8, Try.ntmps8
      go_wp2
      go_ret
      exact ⟨0, rfl, by omega, rfl⟩
theorem l_r8Gap {a b : Nat} {w : World} : Calls Try.prog 12 #[.float .f32 a, .float .f32 b] w fun e w' => ∃ z, e = .returned (.float .f64 z) ∧ cn .f64 z = gapV a b ∧ ∃ m, w' = w.drewN m := by
  have hmx := run_max2_float (P := Try.prog) .f64 .f64
  go_enter Try.func12, Try.ntmps12
  go_wp2
  go_ret
  refine ⟨_, rfl, ?_, _, rfl⟩
  rw [cn_mmR, ← mm_cnl, ← mm_cnr, cn_flR, cn_flR, ← fb_cn, ← fb_cn .sub .f64 (cvR _ _ b _), cn_cvR, cn_cvR, cn_cvR, cn_cvR]
  rfl
theorem qH_num : ∀ k : Nat, k < 17 → isNan .f32 (qH k) = false := by decide +kernel
set_option maxHeartbeats 2000000 in
theorem s_R8Numbers {A : Option Addr} {n c N : Nat} {xs : List Int} {w : World} (h : Reads w w.heap.size 1 A n (xs.map (Value.int .u8))) (hx : ∀ a ∈ xs, (Lit.int .u8 a).wf = true)
    (hn : n ≤ 1048576) (hN : N ≤ 1000) :
    Calls Try.prog 15 #[.slice A n c, .int .i64 (N : Int)] w fun e w' => ∃ v zs, e = .returned v ∧ w'.ownsRow w.heap.size 27 1 v N (fl .f32 zs) ∧ Hid (Of qH 17 zs) ∧ Below w.heap.size w w' := by
  go_enter Try.func15, Try.ntmps15
  go_wp2_with (go_at_call 61; refine s_l00From.mono ?_; rintro e w' ⟨rfl, rfl⟩)
  have bel0 := ((Below.refl w.heap.size w).alloc (Nat.le_refl _) (.cells #[.slice A n c, .int .i64 0, .int .u64 0] 109)).alloc (by simp) (.cells #[] 27)
  go_loopw [1, 6, 7] (fun i v _ wr => ∃ (k : Nat) (zs : List Nat) (s' : Int), k ≤ N ∧ i = .int .i64 ((N : Int) - (k : Int)) ∧ Hid (Of qH 17 zs) ∧ Hid (SrcAt wr w.heap.size A n c k s') ∧ Hid (wr.ownsRow (w.heap.size + 1) 27 1 v k (fl .f32 zs)) ∧ w.heap.size + 2 ≤ wr.heap.size ∧ Below w.heap.size w wr) (fun i _ _ _ => (intOf i).toNat)
  case atStart => exact ⟨0, [], 0, Nat.zero_le _, by simp, hide (fun z hz => by cases hz), hide ((Blk.new w _ _).alloc _), hide (own_emp (by simp) (Nat.le_refl _)), by simp, bel0⟩
  case round =>
    clear bel0
    obtain ⟨k, zs, s', hk, rfl, hzs, Hbk, Hown, hz2, bel⟩ := hrel
    by_cases hlt : k < N
    · have hpos : (0 : Int) < (N : Int) - (k : Int) := by omega
      have hwb : w.heap.size + 1 ≤ wr.heap.size := by omega
      go_wp2_with fail
      refine (s_pick (g := w.heap.size) (B := w.heap.size) Hbk.out (h.below bel) (Nat.le_refl _) hx hn (by omega) (by omega) (by omega)).mono ?_
      rintro e w1 ⟨v, s1, rfl, v1, v2, hb1, hg1⟩
      obtain ⟨vk, rfl⟩ := Int.eq_ofNat_of_zero_le v1
      have hv := qH_num vk (by omega)
      have hq : ∀ W, flR .quo .f32 (floatOfInt .f32 ((vk : Int) - 8)) 1073741824 W = qH vk := flR_num hv
      have hq0 : flN .quo .f32 (floatOfInt .f32 ((vk : Int) - 8)) 1073741824 = 0 := flN_num hv
      have Hown1 := hide (Hown.out.kept hg1 (own_far Hown.out (Nat.lt_succ_self _)))
      have hsz1 : w.heap.size + 1 ≤ w1.heap.size := Nat.le_trans hwb hg1.size
      have hsz2 : w.heap.size + 2 ≤ w1.heap.size := Nat.le_trans hz2 hg1.size
      have bel1 := bel.grown hg1 (by omega) (fun g' hg' => by injection hg' with hg'; omega)
      have Hb1 := hide hb1
      clear hb1 hg1 Hown Hbk bel
      go_wp2_with (at_builtin; refine wpList_append1 rfl (.tmp 20) (.tmp 22) 36 rfl (w.heap.size + 1) 27 (.float .f32 0) _ 4 info_f32 Try.underlying36 rfl rfl _ _ _ rfl Hown1.out rfl rfl (by omega) (by omega) hsz1 ?_)
      intro v' w' hown' hb'
      clear hq hq0
      have HT := hide (snoc_fl hown')
      have Hb2 : Hid (SrcAt w' w.heap.size A n c (k + 1) s1) := hide (Blk.below Hb1.out hb' (Nat.lt_succ_self _))
      have bel2 := bel1.trans (hb'.mono (Nat.le_succ _))
      have hz3 : w.heap.size + 2 ≤ w'.heap.size := Nat.le_trans hsz2 hb'.size
      clear hown' hb' bel1
      go_wp2
      go_roundw
      case rel => exact ⟨k + 1, zs ++ [qH vk], s1, by omega, by go_num, hide (fun z hz => by
          rcases List.mem_append.1 hz with h1 | h1
          · exact hzs.out z h1
          · rw [List.mem_singleton.1 h1]; exact ⟨vk, by omega, rfl⟩), Hb2, HT, hz3, bel2⟩
      case measure => simp [intOf]; omega
    · obtain rfl : k = N := by omega
      go_wp2
      go_ret
      exact ⟨_, zs, rfl, own_up Hown.out (Nat.le_succ _), hzs, bel⟩
theorem mul_abs {x y a b : Rat} (h1 : x ≤ a) (h2 : -a ≤ x) (h3 : y ≤ b) (h4 : -b ≤ y) : x * y ≤ a * b ∧ -(x * y) ≤ a * b := by
  have p1 := Rat.mul_nonneg (show 0 ≤ a - x by grind) (show 0 ≤ b + y by grind)
  have p2 := Rat.mul_nonneg (show 0 ≤ a + x by grind) (show 0 ≤ b - y by grind)
  have p3 := Rat.mul_nonneg (show 0 ≤ a - x by grind) (show 0 ≤ b - y by grind)
  have p4 := Rat.mul_nonneg (show 0 ≤ a + x by grind) (show 0 ≤ b + y by grind)
  constructor <;> grind
/-- What goes out of a lot is finite. -/
theorem out_fin {lot sz ac j : Nat} (h1 : 1 ≤ sz) (h2 : sz ≤ 12) (h3 : sz ≤ lot) (h4 : lot ≤ 40) (ha : ac < 4) (hj : j < 17) : fin .f32 (outV lot sz ac (shW j)) = true := by
  have hc := ac_tab sz (by omega) ac ha j hj
  unfold acChk at hc
  simp only [Bool.and_eq_true, Bool.not_eq_true'] at hc
  obtain ⟨c1, _, c3, c4⟩ := hc
  obtain ⟨⟨s1, s2⟩, s3⟩ := sh_pv hj
  have two : fin .f32 1073741824 = true ∧ fv .f32 1073741824 = 2 := by decide +kernel
  have zero : fin .f32 0 = true := by decide +kernel
  rw [ord_gt c1 two.1, two.2, decide_eq_false_iff_not] at c3
  rw [ord_lt c1 zero, fv_zero, decide_eq_false_iff_not] at c4
  have hb := big32'
  have p1 := Rat.mul_nonneg s2 (Rat.not_lt.1 c4)
  have p2 := Rat.mul_le_mul_of_nonneg_right s3 (Rat.not_lt.1 c4)
  have c3' := Rat.not_lt.1 c3
  obtain ⟨m1, m2⟩ := re_mul s1 c1 (by grind) (by grind)
  have m3 := m2 2 (by grind) (by grind)
  obtain ⟨v, _, v0, v1, q1, q2, q3⟩ := quo_int (m := sz) (t := lot) (by omega) (by omega) (by omega) (by omega)
  have one : fin .f32 1065353216 = true ∧ fv .f32 1065353216 = 1 := by decide +kernel
  obtain ⟨d1, d2⟩ := re_sub one.1 q1 (by rw [one.2]; grind) (by rw [one.2]; grind)
  rw [one.2] at d2
  have d3 := d2 2 (by grind) (by grind)
  have he := eta32'
  rw [uu32'] at m3 d3
  obtain ⟨u1, u2⟩ := mul_abs (x := fv .f32 (fb .mul .f32 (shW j) (acV sz ac (shW j)))) (y := fv .f32 (fb .sub .f32 1065353216 (fb .quo .f32 (floatOfInt .f32 (sz : Int)) (floatOfInt .f32 (lot : Int))))) (a := 3) (b := 3) (by grind) (by grind) (by grind) (by grind)
  exact (re_mul m1 d1 (by grind) (by grind)).1
theorem six_sh {j : Nat} (h : j < 17) : sixT j = shW j ∧ shB (shW j) = true ∧ fin .f32 (shW j) = true := by
  have := sh_chk j h
  unfold shChk at this
  rw [Bool.and_eq_true] at this
  exact ⟨eq_of_beq this.2, this.1, (sh_tab j h).1⟩
/-- The worst share is one of those that were looked at, and none goes out more. -/
theorem ws_told {lot sz ac : Nat} (hf : ∀ k, k < 17 → fin .f32 (outV lot sz ac (sixT k)) = true) : ∀ K : Nat, K < 17 → ∃ kb, kb < 17 ∧ wsT lot sz ac (K + 1) = (sixT kb, outV lot sz ac (sixT kb)) ∧ ∀ k, k ≤ K → fv .f32 (outV lot sz ac (sixT k)) ≤ fv .f32 (outV lot sz ac (sixT kb))
  | 0, h => ⟨0, by omega, wsT_yes (.inl rfl), fun k hk => by rw [show k = 0 by omega]; exact Rat.le_refl⟩
  | K + 1, h => by
    obtain ⟨kb, b1, b2, b3⟩ := ws_told hf K (by omega)
    cases hg : (FloatKind.f32.format.order (outV lot sz ac (sixT (K + 1))) (wsT lot sz ac (K + 1)).2 == some .gt) with
    | true =>
      refine ⟨K + 1, h, wsT_yes (.inr hg), fun k hk => ?_⟩
      rw [b2, ord_gt (hf _ h) (hf _ b1), decide_eq_true_iff] at hg
      rcases Nat.lt_or_ge k (K + 1) with h1 | h1
      · exact Rat.le_trans (b3 k (by omega)) (Rat.le_of_lt hg)
      · rw [show k = K + 1 by omega]; exact Rat.le_refl
    | false =>
      refine ⟨kb, b1, (wsT_no (by omega) hg).trans b2, fun k hk => ?_⟩
      rw [b2, ord_gt (hf _ h) (hf _ b1), decide_eq_false_iff_not] at hg
      rcases Nat.lt_or_ge k (K + 1) with h1 | h1
      · exact b3 k (by omega)
      · rw [show k = K + 1 by omega]; exact Rat.not_lt.1 hg
theorem cv_fin {a : Nat} (h : fin .f32 a = true) : (∀ W : World, cvR .f32 .f64 a W = wide a) ∧ cvN .f32 .f64 a = 0 := by
  obtain ⟨s, m, i, rx, _, _⟩ := fin_read h
  have hc := cvBits_num (show FloatKind.f32.decode a = .number s m i from rx)
  have hw : wide a = FloatKind.f64.encode (.number s m i) := by
    unfold wide
    rw [hc]
    exact cn_num (isNan_nearest' _ _ _ _)
  refine ⟨fun W => ?_, ?_⟩
  · unfold cvR; rw [hc, hw]; rfl
  · unfold cvN; rw [hc]; rfl
theorem fv_bd32 {a : Nat} (h : fin .f32 a = true) : fv .f32 a ≤ p2 128 ∧ -fv .f32 a ≤ p2 128 := by
  obtain ⟨s, m, i, rx, _, _⟩ := fin_read h
  obtain ⟨r1, r2, r3⟩ := read32 (show FloatKind.f32.decode a = .number s m i from rx)
  rw [fv_num rx]
  have c1 : (m : Rat) ≤ ((2 ^ 24 : Nat) : Rat) := nat_le.2 (by omega)
  have c2 := Rat.mul_le_mul_of_nonneg_right c1 (p2_nn i)
  rw [← p2_nat, ← p2_add] at c2
  have c3 := Rat.le_trans c2 (p2_le (show ((24 : Nat) : Int) + i ≤ 128 by omega))
  have hnn : 0 ≤ (m : Rat) * p2 i := Rat.mul_nonneg (Rat.natCast_nonneg) (p2_nn i)
  have hp := p2_nn 128
  rcases sg_cases s with h | h <;> rw [h] <;> constructor <;> grind
theorem gap_sub {a b : Nat} (ha : fin .f32 a = true) (hb : fin .f32 b = true) : fin .f64 (fb .sub .f64 (wide a) (wide b)) = true := by
  obtain ⟨a1, a2⟩ := re_wide ha
  obtain ⟨b1, b2⟩ := re_wide hb
  obtain ⟨u1, u2⟩ := fv_bd32 ha
  obtain ⟨v1, v2⟩ := fv_bd32 hb
  have hp : 2 * p2 128 ≤ big .f64 := by decide +kernel
  exact (re_sub a1 b1 (by rw [a2, b2]; grind) (by rw [a2, b2]; grind)).1
theorem fin_nan64 {x : Nat} (h : fin .f64 x = true) : isNan .f64 x = false := by
  cases hx : isNan .f64 x
  · rfl
  · rw [← fin_cn, cn_nan hx] at h; exact absurd h (by decide +kernel)
theorem gap_nan {a b : Nat} (ha : fin .f32 a = true) (hb : fin .f32 b = true) : isNan .f64 (gapV a b) = false := by
  have h1 := gap_sub ha hb
  have h2 := gap_sub hb ha
  unfold gapV mm mmBits
  rw [re_order h1 h2, isNan_cn]
  have n1 := fin_nan64 h1
  have n2 := fin_nan64 h2
  split
  · rename_i h; cases h
  all_goals (simp only [Option.getD_some]; split <;> assumption)
theorem l_r8GapF {a b : Nat} {w : World} (ha : fin .f32 a = true) (hb : fin .f32 b = true) : Calls Try.prog 12 #[.float .f32 a, .float .f32 b] w fun e w' => e = .returned (.float .f64 (gapV a b)) ∧ ∃ m, w' = w.drewN m := by
  refine l_r8Gap.mono ?_
  rintro e w' ⟨z, rfl, hz, hm⟩
  have : isNan .f64 z = false := by rw [← isNan_cn, hz]; exact gap_nan ha hb
  rw [cn_num this] at hz
  exact ⟨by rw [hz], hm⟩
theorem pwr_fin : ∀ j : Nat, j < 15 → ∀ n : Nat, n < 5 → fin .f32 (pwr (shW (j + 1)) 1065353216 n) = true := by decide +kernel
end Go.Proofs.Ytolbibpmngmpdaa
