/-
  Numbers that are at least nought, and charts: what is far out, and runs on one side: the program's walks.
-/
import Derived.Test.YtolbibpmngmpdaaTold
import Derived.Test.YtolbibpmngmpdaaPeak
import Derived.Test.YtolbibpmngmpdaaAcc
import Derived.Test.YtolbibpmngmpdaaCapP
import Derived.BigGuardPart
namespace Go.Proofs.Ytolbibpmngmpdaa
open Go.RowKit Fl Mem
set_option linter.unusedVariables false
set_option maxRecDepth 100000

def geFN (x c : Nat) : Bool := FloatKind.f32.format.order x c == some .gt || FloatKind.f32.format.order x c == some .eq
def leastFN (x : Nat) : Bool := fin .f32 x && geFN x 0
theorem areNotLess_1N (x : Nat) (w : World) : Calls Try.prog 110 #[.float .f32 x] w fun e w' => e = .returned (.bool (!leastFN x)) ∧ ∃ n, w' = w.drewN n := by
  have hp : Hid (leastFN x = (fin .f32 x && (FloatKind.f32.format.order x 0 == some .gt || FloatKind.f32.format.order x 0 == some .eq))) := hide rfl
  cases hf : fin .f32 x
  all_goals
    go_enter Try.func110, Try.ntmps110
    go_wp2_with (go_at_call 64; refine (i_IsFinite _ _).mono ?_; rintro e w' ⟨rfl, m', rfl⟩)
    go_ret
    exact ⟨ret_bool (by rw [hp.out, hf]; simp), _, rfl⟩

set_option maxHeartbeats 400000 in
theorem indexFunc_areNotLessN (A : Option Addr) (n c : Nat) (xs : List Nat) (B : Nat) (w : World) (h : Reads w B 1 A n (fl .f32 xs)) (hn : n ≤ maxLen) :
    Calls Try.prog 142 #[.slice A n c, .func (.func 110) #[] #[]] w fun e w' => e = .returned (.int .i64 (ixf (fun x => !leastFN x) xs)) ∧ ∃ n, w' = w.drewN n := by
  unfold maxLen at hn
  have Hlen := hide h.map_len
  go_enter Try.func142, Try.ntmps142
  go_wp2
  go_loopw [5, 8] (fun _ i wr => ∃ k m : Nat, k ≤ n ∧ i = .int .i64 k ∧ wr = w.drewN m ∧ Hid ((xs.take k).all (fun y => !!leastFN y) = true)) (fun _ i _ => n - (intOf i).toNat)
  case atStart => exact ⟨0, 0, Nat.zero_le _, rfl, rfl, rfl⟩
  case round =>
    obtain ⟨k, m, hk, rfl, rfl, ha⟩ := hrel
    by_cases hlt : k < n
    · obtain ⟨ad, x, rfl, _, hx, hc⟩ := h.map_at hlt
      have Hx := hide hx
      clear hx
      go_wp2_with (go_at_call 110; refine (areNotLess_1N _ _).mono ?_; rintro e w' ⟨rfl, m', rfl⟩)
      · rename_i h0
        go_ret
        exact ⟨ret_int (ixf_at Hx.out ha.out h0).symm, _, rfl⟩
      · rename_i h0
        go_roundw
        case rel => exact ⟨k + 1, _, by omega, by go_num, rfl, hide (by rw [take_eq Hx.out, List.all_append, ha.out]; simp at h0; simp [h0])⟩
        case measure => simp [intOf]; omega
    · go_wp2
      go_ret
      refine ⟨ret_int (ixf_none ?_).symm, _, rfl⟩
      rw [← ha.out, List.take_of_length_le (by rw [Hlen.out]; omega)]
theorem containsFunc_areNotLessN (A : Option Addr) (n c : Nat) (xs : List Nat) (B : Nat) (w : World) (h : Reads w B 1 A n (fl .f32 xs)) (hn : n ≤ maxLen) :
    Calls Try.prog 109 #[.slice A n c, .func (.func 110) #[] #[]] w fun e w' => e = .returned (.bool (xs.any (fun x => !leastFN x))) ∧ ∃ n, w' = w.drewN n := by
  go_enter Try.func109, Try.ntmps109
  go_wp2_with (go_at_call 142; refine (indexFunc_areNotLessN _ _ _ xs _ _ h hn).mono ?_; rintro e w' ⟨rfl, m', rfl⟩)
  go_ret
  refine ⟨ret_bool ?_, _, rfl⟩
  rw [← ixf_ge]
theorem i_areNotLessN (A : Option Addr) (n c : Nat) (xs : List Nat) (B : Nat) (w : World) (h : Reads w B 1 A n (fl .f32 xs)) (hn : n ≤ maxLen) :
    Calls Try.prog 65 #[.slice A n c] w fun e w' => e = .returned (.bool (xs.all leastFN)) ∧ ∃ n, w' = w.drewN n := by
  go_enter Try.func65, Try.ntmps65
  go_wp2_with (go_at_call 109; refine (containsFunc_areNotLessN _ _ _ xs _ _ h hn).mono ?_; rintro e w' ⟨rfl, m', rfl⟩)
  go_ret
  refine ⟨ret_bool ?_, _, rfl⟩
  rw [List.all_eq_not_any_not]


/-- What is far from the center. -/
def farB (ct wd x : Nat) : Bool := FloatKind.f32.format.order (mm true .f32 (fb .sub .f32 x ct) (Op.negFloat .f32 (fb .sub .f32 x ct))) wd == some .gt
def farTo (ct wd : Nat) (xs : List Nat) : Nat → List Int
  | 0 => []
  | k + 1 => if farB ct wd (xs.getD k 0) = true then farTo ct wd xs k ++ [(k : Int)] else farTo ct wd xs k
theorem far_len (ct wd : Nat) (xs : List Nat) : ∀ k, (farTo ct wd xs k).length ≤ k
  | 0 => Nat.le_refl _
  | k + 1 => by
    have := far_len ct wd xs k
    simp only [farTo]
    split
    · rw [List.length_append]; simp; omega
    · omega
theorem info_i64' : (Try.prog.info? 2).map (fun i => (i.zero, i.size, i.bytes)) = some (some (.int .i64 0), 1, 8) := by kernel_rfl
theorem il_snoc (zs : List Int) (z : Int) : il zs ++ [.int .i64 z] = il (zs ++ [z]) := by simp [il]
set_option maxHeartbeats 4000000 in
theorem i_OutOf {A : Option Addr} {n c ct wd : Nat} {xs : List Nat} {w : World} (h : Reads w w.heap.size 1 A n (fl .f32 xs)) (hn : n ≤ 256) (ht : isToldL xs = true) (hc : fin .f32 ct = true) (hw : leastFN wd = true) (hf : ∀ x ∈ xs, fin .f32 (fb .sub .f32 x ct) = true) :
    Calls Try.prog 16 #[.slice A n c, .float .f32 ct, .float .f32 wd] w fun e w' => ∃ v, e = .returned (.tuple #[v, .bool true]) ∧ w'.ownsRow w.heap.size 2 1 v (farTo ct wd xs n).length (il (farTo ct wd xs n)) ∧ Below w.heap.size w w' := by
  have Hl := hide h.map_len
  have Hf := hide hf
  clear hf
  go_enter Try.func16, Try.ntmps16
  go_wp2_with (first
    | (go_at_call 63; refine (i_isTold _ _ _ xs _ _ h (by simp [maxLen]; omega)).mono ?_; rintro e w' ⟨rfl, m', rfl⟩; rw [ht])
    | (go_at_call 64; refine (i_IsFinite _ _).mono ?_; rintro e w' ⟨rfl, m', rfl⟩; rw [hc])
    | (go_at_call 65; refine (i_areNotLessN _ _ _ [wd] _ _ (reads_new (Value.float .f32) _ _ [wd]) (by simp [maxLen])).mono ?_; rintro e w' ⟨rfl, m', rfl⟩; rw [show [wd].all leastFN = true by simp [hw]]))
  go_loopw [8, 9, 10, 28] (fun v8 _ _ v28 wr => ∃ (k : Nat) (zs : List Int), k ≤ n ∧ v28 = .int .i64 (k : Int) ∧ Hid (zs = farTo ct wd xs k) ∧ Hid (wr.ownsRow w.heap.size 2 1 v8 zs.length (il zs)) ∧ Below w.heap.size w wr) (fun _ _ _ v28 _ => n - (intOf v28).toNat)
  case atStart => exact ⟨0, [], Nat.zero_le _, rfl, hide rfl, hide (own_emp (by simp) (by simp)), (below_drewN ((below_drewN (Below.refl _ _) _).alloc (by simp) _) _).alloc (by simp) _⟩
  case round =>
    obtain ⟨k, zs, hk, rfl, hzs, hown, bel⟩ := hrel
    have hz := bel.size
    by_cases hlt : k < n
    · have kI : (k : Int) < (n : Int) := by omega
      obtain ⟨ad, x, rfl, hab, hx, hcx⟩ := (h.below bel).map_at hlt
      have hfx := Hf.out x (List.mem_of_getElem? hx)
      have hD : ∀ W, flR .sub .f32 x ct W = fb .sub .f32 x ct := flR_num (fin_nan hfx)
      have hD0 : flN .sub .f32 x ct = 0 := flN_num (fin_nan hfx)
      obtain ⟨D, hDD⟩ : ∃ D, fb .sub .f32 x ct = D := ⟨_, rfl⟩
      rw [hDD] at hD
      have hxg : xs.getD k 0 = x := by rw [List.getD_eq_getElem?_getD, hx]; rfl
      have HB : Hid (farB ct wd (xs.getD k 0) = (FloatKind.f32.format.order (mm true .f32 D (Op.negFloat .f32 D)) wd == some .gt)) := hide (by rw [hxg, farB, hDD])
      clear hx hfx hDD hxg
      go_wp2_with fail
      refine (i_absolute _ _).mono ?_
      rintro e w1 ⟨z, rfl, hz1, m1, rfl⟩
      have hg : (FloatKind.f32.format.order z wd == some .gt) = farB ct wd (xs.getD k 0) := by rw [HB.out, ← order_cnl, hz1.out]
      cases hb : farB ct wd (xs.getD k 0) with
      | true =>
        rw [hb] at hg
        have HN : Hid (zs ++ [(k : Int)] = farTo ct wd xs (k + 1)) := hide (by rw [farTo, if_pos hb, hzs.out])
        have hlz : zs.length ≤ 256 := by have := far_len ct wd xs k; rw [hzs.out]; omega
        clear hb HB hD hD0
        go_wp2_with (at_builtin; refine wpList_append1 rfl (.tmp 39) (.tmp 41) 40 rfl w.heap.size 2 (.int .i64 0) _ 8 info_i64' Try.underlying40 rfl rfl _ _ _ rfl (own_drewN hown.out _) rfl rfl (by omega) (by omega) hz ?_)
        intro v9 w9 ho9 hb9
        rw [il_snoc] at ho9
        have HO9 : Hid (w9.ownsRow w.heap.size 2 1 v9 (zs ++ [(k : Int)]).length (il (zs ++ [(k : Int)]))) := hide (by rw [List.length_append]; exact ho9)
        have bel9 := (below_drewN bel _).trans hb9
        clear ho9 hb9 hown bel
        go_wp2
        go_roundw
        case rel => exact ⟨k + 1, _, by omega, by go_num, HN, HO9, bel9⟩
        case measure => simp [intOf]; omega
      | false =>
        rw [hb] at hg
        have HN : Hid (zs = farTo ct wd xs (k + 1)) := hide (by rw [farTo, if_neg (by rw [hb]; simp), hzs.out])
        have HO9 := hide (own_drewN hown.out m1)
        have bel9 := below_drewN bel m1
        clear hb HB hD hD0 hown bel
        go_wp2
        go_roundw
        case rel => exact ⟨k + 1, _, by omega, by go_num, HN, HO9, bel9⟩
        case measure => simp [intOf]; omega
    · obtain rfl : k = n := by omega
      have kI : ¬ (k : Int) < (k : Int) := by omega
      go_wp2
      go_ret2
      exact ⟨_, rfl, by rw [← hzs.out]; exact hown.out, bel⟩
/-- Runs on one side. -/
def upC (ct : Nat) (xs : List Nat) : Nat → Nat
  | 0 => 0
  | k + 1 => if (FloatKind.f32.format.order (xs.getD k 0) ct == some .gt) = true then upC ct xs k + 1 else 0
def dnC (ct : Nat) (xs : List Nat) : Nat → Nat
  | 0 => 0
  | k + 1 => if (FloatKind.f32.format.order (xs.getD k 0) ct == some .lt) = true then dnC ct xs k + 1 else 0
def firstAt (ct long : Nat) (xs : List Nat) : Nat → Int
  | 0 => -1
  | k + 1 => if firstAt ct long xs k < 0 ∧ (long ≤ upC ct xs (k + 1) ∨ long ≤ dnC ct xs (k + 1)) then (k : Int) else firstAt ct long xs k
theorem upC_le (ct : Nat) (xs : List Nat) : ∀ k, upC ct xs k ≤ k
  | 0 => Nat.le_refl _
  | k + 1 => by have := upC_le ct xs k; simp only [upC]; split <;> omega
theorem dnC_le (ct : Nat) (xs : List Nat) : ∀ k, dnC ct xs k ≤ k
  | 0 => Nat.le_refl _
  | k + 1 => by have := dnC_le ct xs k; simp only [dnC]; split <;> omega
theorem first_stay {ct long n : Nat} {xs : List Nat} {k : Nat} (h : 0 ≤ firstAt ct long xs k) : ∀ j, firstAt ct long xs (k + j) = firstAt ct long xs k
  | 0 => rfl
  | j + 1 => by
    have := first_stay (n := n) h j
    rw [← Nat.add_assoc]
    simp only [firstAt]
    rw [if_neg (by omega), this]
set_option maxHeartbeats 4000000 in
theorem i_SameSide {A : Option Addr} {n c ct long : Nat} {xs : List Nat} {w : World} (h : Reads w w.heap.size 1 A n (fl .f32 xs)) (hn : n ≤ 256) (ht : isToldL xs = true) (hc : fin .f32 ct = true) (h1 : 1 ≤ long) (h2 : long ≤ 256) :
    Calls Try.prog 17 #[.slice A n c, .float .f32 ct, .int .i64 long] w fun e w' => e = .returned (.tuple #[.int .i64 (if firstAt ct long xs n < 0 then 0 else firstAt ct long xs n), .bool (decide (0 ≤ firstAt ct long xs n))]) ∧ ∃ m, w' = w.drewN m := by
  obtain ⟨P, hP⟩ : ∃ P : Int, (if firstAt ct long xs n < 0 then 0 else firstAt ct long xs n) = P := ⟨_, rfl⟩
  obtain ⟨B, hB⟩ : ∃ B : Bool, decide (0 ≤ firstAt ct long xs n) = B := ⟨_, rfl⟩
  have HP := hide hP
  have HB := hide hB
  rw [hP, hB]
  clear hP hB
  have hi : inB long 1 256 = true := by unfold inB; simp; omega
  go_enter Try.func17, Try.ntmps17
  go_wp2_with (first
    | (go_at_call 63; refine (i_isTold _ _ _ xs _ _ h (by simp [maxLen]; omega)).mono ?_; rintro e w' ⟨rfl, m', rfl⟩; rw [ht])
    | (go_at_call 64; refine (i_IsFinite _ _).mono ?_; rintro e w' ⟨rfl, m', rfl⟩; rw [hc])
    | (go_at_call 59; refine (i_within _ _ _ _).mono ?_; rintro e w' ⟨rfl, rfl⟩; rw [hi]))
  go_loopw [8, 9, 10, 11, 27] (fun v8 v9 _ _ v27 wr => ∃ (k m : Nat), k ≤ n ∧ v27 = .int .i64 (k : Int) ∧ v8 = .int .i64 (upC ct xs k : Int) ∧ v9 = .int .i64 (dnC ct xs k : Int) ∧ Hid (firstAt ct long xs k = -1) ∧ wr = w.drewN m) (fun _ _ _ _ v27 _ => n - (intOf v27).toNat)
  case atStart => exact ⟨0, _, Nat.zero_le _, rfl, rfl, rfl, hide rfl, rfl⟩
  case round =>
    obtain ⟨k, m, hk, rfl, rfl, rfl, hfa, rfl⟩ := hrel
    by_cases hlt : k < n
    · have kI : (k : Int) < (n : Int) := by omega
      obtain ⟨ad, x, rfl, hab, hx, hcx⟩ := h.map_at hlt
      have hcx' : (w.drewN m).cell? (ad.add k) = some (.float .f32 x) := hcx
      have hxg : xs.getD k 0 = x := by rw [List.getD_eq_getElem?_getD, hx]; rfl
      have hU := upC_le ct xs k
      have hD := dnC_le ct xs k
      obtain ⟨u, hu⟩ : ∃ u, upC ct xs k = u := ⟨_, rfl⟩
      obtain ⟨d, hd⟩ : ∃ d, dnC ct xs k = d := ⟨_, rfl⟩
      have HU : Hid (upC ct xs (k + 1) = if (FloatKind.f32.format.order x ct == some .gt) = true then u + 1 else 0) := hide (by rw [upC, hxg, hu])
      have HD : Hid (dnC ct xs (k + 1) = if (FloatKind.f32.format.order x ct == some .lt) = true then d + 1 else 0) := hide (by rw [dnC, hxg, hd])
      rw [hu] at hU ⊢
      rw [hd] at hD ⊢
      have HF : Hid (firstAt ct long xs (k + 1) = if (long ≤ upC ct xs (k + 1) ∨ long ≤ dnC ct xs (k + 1)) then (k : Int) else -1) := hide (by
        rw [firstAt, hfa.out]
        by_cases h : long ≤ upC ct xs (k + 1) ∨ long ≤ dnC ct xs (k + 1)
        · rw [if_pos ⟨by omega, h⟩, if_pos h]
        · rw [if_neg (fun e => h e.2), if_neg h])
      clear hx hxg hu hd hfa hcx
      cases hg : (FloatKind.f32.format.order x ct == some .gt) <;> cases hl : (FloatKind.f32.format.order x ct == some .lt)
      case true.true => (exfalso; have h1 := eq_of_beq hg; have h2 := eq_of_beq hl; rw [h1] at h2; cases h2)
      all_goals
        rw [hg] at HU
        rw [hl] at HD
        simp only [if_true, if_false, Bool.false_eq_true] at HU HD
        go_wp2
        all_goals first
          | (go_ret2
             have e0 := HF.out
             rw [if_pos (by rw [HU.out, HD.out]; omega)] at e0
             have e3 := first_stay (n := n) (by omega : 0 ≤ firstAt ct long xs (k + 1)) (n - (k + 1))
             rw [show k + 1 + (n - (k + 1)) = n by omega, e0] at e3
             have e1 := HP.out
             have e2 := HB.out
             rw [e3] at e1 e2
             rw [if_neg (by omega)] at e1
             rw [decide_eq_true (by omega)] at e2
             subst e1 e2
             exact ⟨rfl, _, rfl⟩)
          | (have e0 := HF.out
             rw [if_neg (by rw [HU.out, HD.out]; omega)] at e0
             refine ⟨⟨k + 1, _, by omega, by go_num, by rw [HU.out]; rfl, by rw [HD.out]; rfl, hide e0, rfl⟩, ?_⟩
             simp [intOf]; omega)
    · obtain rfl : k = n := by omega
      have kI : ¬ (k : Int) < (k : Int) := by omega
      go_wp2
      go_ret2
      have e1 := HP.out
      have e2 := HB.out
      rw [hfa.out] at e1 e2
      subst e1 e2
      exact ⟨rfl, _, rfl⟩
end Go.Proofs.Ytolbibpmngmpdaa
