/-
  Numbers that are at least nought, and charts: what is far out, and runs on one side: the program's walks.
-/
import Derived.Test.YtjmpldcnhjgpkaaGreatDoorSeqB
import Derived.Test.YtjmpldcnhjgpkaaGreatDoorFourP
import Derived.Test.YtjmpldcnhjgpkaaGreatDoorChc
import Derived.Test.YtjmpldcnhjgpkaaGreatDoorChP
import Derived.Test.YtjmpldcnhjgpkaaGreatDoorSrc
import Derived.Test.YtjmpldcnhjgpkaaGreatDoorBd
import Derived.Test.YtjmpldcnhjgpkaaGreatDoorBelW
import Derived.Test.YtjmpldcnhjgpkaaGreatDoorValid
import Derived.Test.YtjmpldcnhjgpkaaGreatDoorDkB
import Derived.Test.YtjmpldcnhjgpkaaGreatDoorReadL
import Derived.BigGuardPart
import Derived.Maps.OwnOps
import Derived.StringKeys
namespace Go.Proofs.YtjmpldcnhjgpkaaGreatDoor
open Go.RowKit Fl Mem
set_option linter.unusedVariables false
set_option maxRecDepth 100000

def geFN (x c : Nat) : Bool := FloatKind.f32.format.order x c == some .gt || FloatKind.f32.format.order x c == some .eq
def leastFN (x : Nat) : Bool := fin .f32 x && geFN x 0
theorem areNotLess_1N (x : Nat) (w : World) : Calls Tryz.prog 107 #[.float .f32 x] w fun e w' => e = .returned (.bool (!leastFN x)) ∧ ∃ n, w' = w.drewN n := by
  have hp : Hid (leastFN x = (fin .f32 x && (FloatKind.f32.format.order x 0 == some .gt || FloatKind.f32.format.order x 0 == some .eq))) := hide rfl
  cases hf : fin .f32 x
  all_goals
    go_enter Tryz.func107, Tryz.ntmps107
    go_wp2_with (go_at_call 83; refine (i_IsFinite _ _).mono ?_; rintro e w' ⟨rfl, m', rfl⟩)
    go_ret
    exact ⟨ret_bool (by rw [hp.out, hf]; simp), _, rfl⟩

set_option maxHeartbeats 400000 in
theorem indexFunc_areNotLessN (A : Option Addr) (n c : Nat) (xs : List Nat) (B : Nat) (w : World) (h : Reads w B 1 A n (fl .f32 xs)) (hn : n ≤ maxLen) :
    Calls Tryz.prog 129 #[.slice A n c, .func (.func 107) #[] #[]] w fun e w' => e = .returned (.int .i64 (ixf (fun x => !leastFN x) xs)) ∧ ∃ n, w' = w.drewN n := by
  unfold maxLen at hn
  have Hlen := hide h.map_len
  go_enter Tryz.func129, Tryz.ntmps129
  go_wp2
  go_loopw [5, 8] (fun _ i wr => ∃ k m : Nat, k ≤ n ∧ i = .int .i64 k ∧ wr = w.drewN m ∧ Hid ((xs.take k).all (fun y => !!leastFN y) = true)) (fun _ i _ => n - (intOf i).toNat)
  case atStart => exact ⟨0, 0, Nat.zero_le _, rfl, rfl, rfl⟩
  case round =>
    obtain ⟨k, m, hk, rfl, rfl, ha⟩ := hrel
    by_cases hlt : k < n
    · obtain ⟨ad, x, rfl, _, hx, hc⟩ := h.map_at hlt
      have Hx := hide hx
      clear hx
      go_wp2_with (go_at_call 107; refine (areNotLess_1N _ _).mono ?_; rintro e w' ⟨rfl, m', rfl⟩)
      · rename_i h0
        go_ret
        exact ⟨ret_int (ixf_at Hx.out ha.out h0).symm, _, rfl⟩
      · rename_i h0
        go_roundw
        case rel => exact ⟨k + 1, _, by omega, by go_num, rfl, hide (by rw [take_eq Hx.out, List.all_append, ha.out]; simp at h0; simp [h0])⟩
        case measure => simp [intOf]; omega
    · go_wp2
      go_ret
      refine ⟨ret_int (ixf_none ?_).symm, _, rfl⟩
      rw [← ha.out, List.take_of_length_le (by rw [Hlen.out]; omega)]
theorem containsFunc_areNotLessN (A : Option Addr) (n c : Nat) (xs : List Nat) (B : Nat) (w : World) (h : Reads w B 1 A n (fl .f32 xs)) (hn : n ≤ maxLen) :
    Calls Tryz.prog 105 #[.slice A n c, .func (.func 107) #[] #[]] w fun e w' => e = .returned (.bool (xs.any (fun x => !leastFN x))) ∧ ∃ n, w' = w.drewN n := by
  go_enter Tryz.func105, Tryz.ntmps105
  go_wp2_with (go_at_call 129; refine (indexFunc_areNotLessN _ _ _ xs _ _ h hn).mono ?_; rintro e w' ⟨rfl, m', rfl⟩)
  go_ret
  refine ⟨ret_bool ?_, _, rfl⟩
  rw [← ixf_ge]
theorem i_areNotLessN (A : Option Addr) (n c : Nat) (xs : List Nat) (B : Nat) (w : World) (h : Reads w B 1 A n (fl .f32 xs)) (hn : n ≤ maxLen) :
    Calls Tryz.prog 73 #[.slice A n c] w fun e w' => e = .returned (.bool (xs.all leastFN)) ∧ ∃ n, w' = w.drewN n := by
  go_enter Tryz.func73, Tryz.ntmps73
  go_wp2_with (go_at_call 105; refine (containsFunc_areNotLessN _ _ _ xs _ _ h hn).mono ?_; rintro e w' ⟨rfl, m', rfl⟩)
  go_ret
  refine ⟨ret_bool ?_, _, rfl⟩
  rw [List.all_eq_not_any_not]


/-- What is far from the center. -/
def farB (ct wd x : Nat) : Bool := FloatKind.f32.format.order (mm true .f32 (fb .sub .f32 x ct) (Op.negFloat .f32 (fb .sub .f32 x ct))) wd == some .gt
def farTo (ct wd : Nat) (xs : List Nat) : Nat → List Int
  | 0 => []
  | k + 1 => if farB ct wd (xs.getD k 0) = true then farTo ct wd xs k ++ [(k : Int)] else farTo ct wd xs k
theorem far_len (ct wd : Nat) (xs : List Nat) : ∀ k, (farTo ct wd xs k).length ≤ k
  | 0 => Nat.le_refl _
  | k + 1 => by
    have := far_len ct wd xs k
    simp only [farTo]
    split
    · rw [List.length_append]; simp; omega
    · omega
theorem info_i64' : (Tryz.prog.info? 2).map (fun i => (i.zero, i.size, i.bytes)) = some (some (.int .i64 0), 1, 8) := by kernel_rfl
theorem il_snoc (zs : List Int) (z : Int) : il zs ++ [.int .i64 z] = il (zs ++ [z]) := by simp [il]
/-- Runs on one side. -/
def upC (ct : Nat) (xs : List Nat) : Nat → Nat
  | 0 => 0
  | k + 1 => if (FloatKind.f32.format.order (xs.getD k 0) ct == some .gt) = true then upC ct xs k + 1 else 0
def dnC (ct : Nat) (xs : List Nat) : Nat → Nat
  | 0 => 0
  | k + 1 => if (FloatKind.f32.format.order (xs.getD k 0) ct == some .lt) = true then dnC ct xs k + 1 else 0
def firstAt (ct long : Nat) (xs : List Nat) : Nat → Int
  | 0 => -1
  | k + 1 => if firstAt ct long xs k < 0 ∧ (long ≤ upC ct xs (k + 1) ∨ long ≤ dnC ct xs (k + 1)) then (k : Int) else firstAt ct long xs k
theorem upC_le (ct : Nat) (xs : List Nat) : ∀ k, upC ct xs k ≤ k
  | 0 => Nat.le_refl _
  | k + 1 => by have := upC_le ct xs k; simp only [upC]; split <;> omega
theorem dnC_le (ct : Nat) (xs : List Nat) : ∀ k, dnC ct xs k ≤ k
  | 0 => Nat.le_refl _
  | k + 1 => by have := dnC_le ct xs k; simp only [dnC]; split <;> omega
theorem first_stay {ct long n : Nat} {xs : List Nat} {k : Nat} (h : 0 ≤ firstAt ct long xs k) : ∀ j, firstAt ct long xs (k + j) = firstAt ct long xs k
  | 0 => rfl
  | j + 1 => by
    have := first_stay (n := n) h j
    rw [← Nat.add_assoc]
    simp only [firstAt]
    rw [if_neg (by omega), this]
end Go.Proofs.YtjmpldcnhjgpkaaGreatDoor

/-
  The exponential of 32 bits, powers, and LawSurvives: the program's walks.
-/
namespace Go.Proofs.YtjmpldcnhjgpkaaGreatDoor
open Go.RowKit Mem Fl
set_option linter.unusedVariables false
set_option maxRecDepth 100000

theorem k12_zero : (4622945017495814144 : Nat) = floatOfInt .f64 (12 - ((0 : Nat) : Int)) := by decide +kernel
theorem k12_ge : ∀ j : Nat, j < 13 → (FloatKind.f64.format.order (floatOfInt .f64 (12 - ((j : Nat) : Int))) 4607182418800017408 == some .gt || FloatKind.f64.format.order (floatOfInt .f64 (12 - ((j : Nat) : Int))) 4607182418800017408 == some .eq) = decide (j < 12) := by decide +kernel
theorem k12_next : ∀ j : Nat, j < 12 → fb .sub .f64 (floatOfInt .f64 (12 - ((j : Nat) : Int))) 4607182418800017408 = floatOfInt .f64 (12 - ((j + 1 : Nat) : Int)) ∧ isNan .f64 (floatOfInt .f64 (12 - ((j + 1 : Nat) : Int))) = false := by decide +kernel
theorem k12_step {j : Nat} (h : j < 12) (W : World) : flR .sub .f64 (floatOfInt .f64 (12 - ((j : Nat) : Int))) 4607182418800017408 W = floatOfInt .f64 (12 - ((j + 1 : Nat) : Int)) :=
  flR_bd (k12_next j h).1 (k12_next j h).2 W
theorem k12_dec : ∀ j : Nat, j < 12 → kM (floatOfInt .f64 (12 - ((j + 1 : Nat) : Int))) < kM (floatOfInt .f64 (12 - ((j : Nat) : Int))) := by decide +kernel
theorem ex_t {x : Nat} (hx : fin .f32 x = true) (W1 W2 : World) : cn .f64 (flR .quo .f64 (cvR .f32 .f64 x W1) 4643211215818981376 W2) = exT x := by rw [cn_flR, cvR_fin hx]; rfl
theorem ex_p0 (T : Nat) : cn .f64 4607182418800017408 = exP T 0 := by
  have : cn .f64 4607182418800017408 = 4607182418800017408 := by decide +kernel
  exact this
theorem ex_p {T t p j : Nat} (ht : cn .f64 t = T) (hp : cn .f64 p = exP T j) (W1 W2 W3 : World) :
    cn .f64 (flR .add .f64 4607182418800017408 (flR .quo .f64 (flR .mul .f64 t p W1) (floatOfInt .f64 (12 - (j : Int))) W2) W3) = exP T (j + 1) := by
  have h1 : fb .mul .f64 t p = fb .mul .f64 T (exP T j) := by rw [← fb_cn .mul .f64 t p, ht, hp]
  have h2 : fb .quo .f64 (flR .mul .f64 t p W1) (floatOfInt .f64 (12 - (j : Int))) = fb .quo .f64 (fb .mul .f64 T (exP T j)) (floatOfInt .f64 (12 - (j : Int))) := by rw [← fb_cnl, cn_flR, h1]
  rw [cn_flR, ← fb_cnr, cn_flR, h2]
  rfl
theorem ex_s {P p j : Nat} (hp : cn .f64 p = exS P j) (W : World) : cn .f64 (flR .mul .f64 p p W) = exS P (j + 1) := by rw [cn_flR, ← fb_cn, hp]; rfl
theorem ex_end {z S : Nat} (h : cn .f64 z = S) (hok : narOk S) (hf : fin .f32 (nar S) = true) (W : World) : cvR .f64 .f32 z W = nar S := by
  have := nar_t h hok W
  rw [← this]
  have h2 : isNan .f32 (cvR .f64 .f32 z W) = false := by
    cases hx : isNan .f32 (cvR .f64 .f32 z W)
    · rfl
    · rw [cn_nan hx] at this; rw [← this] at hf; exact absurd hf (by decide +kernel)
  exact (cn_num h2).symm
theorem e200 : fin .f32 1128792064 = true ∧ fv .f32 1128792064 = 200 ∧ fin .f32 3276275712 = true ∧ fv .f32 3276275712 = -200 := by decide +kernel
set_option maxHeartbeats 4000000 in
theorem i_ExpNumber {x : Nat} {w : World} (hx : fin .f32 x = true) (h2 : fv .f32 x ≤ 60) :
    Calls Tryz.prog 86 #[.float .f32 x] w fun e w' => e = .returned (.float .f32 (expN x)) ∧ ∃ m, w' = w.drewN m := by
  obtain ⟨a1, a2, a3, a4⟩ := e200
  have g1 := ord_gt hx a1
  have g2 := ord_lt hx a3
  rw [a2, decide_eq_false (by grind)] at g1
  rw [a4] at g2
  by_cases hlt : fv .f32 x < -200
  · rw [decide_eq_true hlt] at g2
    have HE : Hid (expN x = 0) := hide (if_pos hlt)
    clear hlt a1 a2 a3 a4 hx h2
    go_enter Tryz.func86, Tryz.ntmps86
    go_wp2
    go_ret
    exact ⟨by rw [HE.out]; rfl, 0, rfl⟩
  · rw [decide_eq_false hlt] at g2
    obtain ⟨b1, b2, b3, _, _⟩ := exp_told hx (by grind) h2
    have HE : Hid (expN x = nar (exW x)) := hide (if_neg hlt)
    have HT := hide (ex_t hx)
    have HF : Hid (∀ (z : Nat) (W : World), cn .f64 z = exS (exP (exT x) 12) 8 → cvR .f64 .f32 z W = nar (exW x)) := hide (fun z W hz => ex_end hz b2 b3 W)
    clear hlt a1 a2 a3 a4 hx h2 b1 b2 b3
    go_enter Tryz.func86, Tryz.ntmps86
    go_wp2
    clear g1 g2
    go_loopw [4, 5] (fun p kv wr => ∃ (j pz m : Nat), j ≤ 12 ∧ kv = .float .f64 (floatOfInt .f64 (12 - ((j : Nat) : Int))) ∧ p = .float .f64 pz ∧ Hid (cn .f64 pz = exP (exT x) j) ∧ wr = w.drewN m) (fun _ kv _ => kM (bitsOf kv))
    case atStart => exact ⟨0, _, _, by omega, congrArg _ k12_zero, rfl, hide (ex_p0 _), rfl⟩
    case round =>
      obtain ⟨j, pz, m, hj, rfl, rfl, hp, rfl⟩ := hrel
      have hg := k12_ge j (by omega)
      by_cases hj3 : j < 12
      · rw [decide_eq_true hj3] at hg
        have HK := hide (@k12_step j hj3)
        have HM := hide (k12_dec j hj3)
        go_wp2
        go_roundw
        case rel => exact ⟨j + 1, _, _, by omega, by rw [HK.out], rfl, hide (ex_p (HT.out _ _) hp.out _ _ _), rfl⟩
        case measure =>
          rw [HK.out]
          exact HM.out
      · rw [decide_eq_false hj3] at hg
        have HJ : Hid (j = 12) := hide (by omega)
        have hp' : Hid (cn .f64 pz = exP (exT x) 12) := hide (by rw [← HJ.out]; exact hp.out)
        clear hj hj3 hp HJ
        go_wp2
        clear hg
        go_loopw [4, 27] (fun p iv wr => ∃ (j pz m : Nat), j ≤ 8 ∧ iv = .int .i64 (j : Int) ∧ p = .float .f64 pz ∧ Hid (cn .f64 pz = exS (exP (exT x) 12) j) ∧ wr = w.drewN m) (fun _ i _ => 8 - (intOf i).toNat)
        case atStart => exact ⟨0, _, _, by omega, rfl, rfl, hide hp'.out, rfl⟩
        case round =>
          obtain ⟨j, qz, m', hj, rfl, rfl, hq, rfl⟩ := hrel
          by_cases hj3 : j < 8
          · have hjI : (j : Int) < 8 := by omega
            go_wp2
            go_roundw
            case rel => exact ⟨j + 1, _, _, by omega, by go_num, rfl, hide (ex_s hq.out _), rfl⟩
            case measure => simp [intOf]; omega
          · obtain rfl : j = 8 := by omega
            go_wp2
            go_ret
            exact ⟨by rw [HE.out, ← HF.out _ _ hq.out]; rfl, _, rfl⟩
set_option maxHeartbeats 4000000 in
theorem i_powered {x y : Nat} {w : World} (hw : Wf .f32 x) (hf : fin .f32 x = true) (h1 : 1 / 128 < fv .f32 x) (h2 : fv .f32 x < 16) (hy : fin .f32 y = true) (y0 : 0 ≤ fv .f32 y) (y3 : fv .f32 y ≤ 3) :
    Calls Tryz.prog 87 #[.float .f32 x, .float .f32 y] w fun e w' => e = .returned (.float .f32 (powN x y)) ∧ ∃ m, w' = w.drewN m := by
  obtain ⟨n1, n2, l1, l2, l3⟩ := Ex.logNm hw hf h1 h2
  obtain ⟨p1, p2, p3, _, _⟩ := powN_told hw hf h1 h2 hy y0 y3
  have g1 := ord_eq hf Ex.f00.2
  rw [Ex.f00.1, decide_eq_false (by grind)] at g1
  have HL := fun W => i_LogNumber (x := x) (w := W) n1 n2
  replace HL := hide HL
  have HX := hide (fun W => i_ExpNumber (w := W) p1 p2)
  have HM : Hid (∀ z W, cn .f32 z = logN x → flR .mul .f32 y z W = fb .mul .f32 y (logN x)) := hide (fun z W hz => by
    have e : fb .mul .f32 y z = fb .mul .f32 y (logN x) := by rw [← fb_cnr, hz]
    exact flR_bd e (fin_n32 p1) W)
  have HP : Hid (expN (fb .mul .f32 y (logN x)) = powN x y) := hide rfl
  clear hw hf h1 h2 hy y0 y3 n1 n2 l1 l2 l3 p1 p2 p3
  go_enter Tryz.func87, Tryz.ntmps87
  go_wp2_with (first | (go_at_call 122; refine (HL.out _).mono ?_; rintro e w' ⟨z, rfl, hz, m, rfl⟩) | (go_at_call 86; rw [HM.out _ _ hz.out]; refine (HX.out _).mono ?_; rintro e w' ⟨rfl, m2, rfl⟩))
  go_ret
  exact ⟨by rw [← HP.out]; rfl, _, rfl⟩
end Go.Proofs.YtjmpldcnhjgpkaaGreatDoor

/-
  LawSurvives: the program's walk.
-/
namespace Go.Proofs.YtjmpldcnhjgpkaaGreatDoor
open Go.RowKit Mem Fl
set_option linter.unusedVariables false
set_option maxRecDepth 100000

set_option maxHeartbeats 4000000 in
theorem i_survives {kd : Int} {sh sc t : Nat} {w : World} (h : LawD kd sh sc t) :
    Calls Tryz.prog 46 #[.agg #[.int .i64 kd, .float .f32 sh, .float .f32 sc], .float .f32 t] w fun e w' => e = .returned (.float .f32 (survN kd sh sc t)) ∧ Below w.heap.size w w' := by
  obtain ⟨x1, x2, x3⟩ := h.quo
  obtain ⟨⟨a1, a2⟩, ⟨b1, b2⟩, c1, d1, e1, _⟩ := h.told
  have hX : survX sc t = fb .quo .f32 t sc := rfl
  have wx : Wf .f32 (survX sc t) := by rw [hX]; exact wf_fb _ _ _ _
  have hp := powN_told wx x1 x2 x3 h.hf (by have := h.h0; grind) h.h3
  have HQ : ∀ W, flR .quo .f32 t sc W = survX sc t := fun W => flR_num (fin_n32 x1) W
  have HPw := hide (fun W => i_powered (w := W) wx x1 x2 x3 h.hf (by have := h.h0; grind) h.h3)
  have HS1 : ∀ W, flR .sub .f32 0 (survX sc t) W = fb .sub .f32 0 (survX sc t) := fun W => flR_num (fin_n32 a1) W
  have HS2 : ∀ W, flR .sub .f32 0 (powN (survX sc t) sh) W = fb .sub .f32 0 (powN (survX sc t) sh) := fun W => flR_num (fin_n32 b1) W
  have HS3 : ∀ W, flR .add .f32 1065353216 (powN (survX sc t) sh) W = fb .add .f32 1065353216 (powN (survX sc t) sh) := fun W => flR_num (fin_n32 c1) W
  have HS4 : ∀ W, flR .quo .f32 1065353216 (fb .add .f32 1065353216 (powN (survX sc t) sh)) W = fb .quo .f32 1065353216 (fb .add .f32 1065353216 (powN (survX sc t) sh)) := fun W => flR_num (fin_n32 d1) W
  have HS5 : ∀ W, flR .sub .f32 1065353216 (survX sc t) W = fb .sub .f32 1065353216 (survX sc t) := fun W => flR_num (fin_n32 e1) W
  have HX1 := hide (fun W => i_ExpNumber (w := W) a1 a2)
  have HX2 := hide (fun W => i_ExpNumber (w := W) b1 b2)
  have k0 := h.k0
  have k3 := h.k3
  have hg : (FloatKind.f32.format.order (fb .quo .f32 t sc) 1065353216 == some .gt) = decide (1 < fv .f32 (survX sc t)) := by
    have := ord_gt x1 one32.1
    rw [one32.2] at this
    exact this
  obtain ⟨Z, hZ⟩ : ∃ Z, survN kd sh sc t = Z := ⟨_, rfl⟩
  rw [hZ]
  unfold survN at hZ
  replace HR := hide hZ
  clear hZ
  generalize powN (survX sc t) sh = P at *
  generalize survX sc t = X at *
  clear a1 a2 b1 b2 c1 d1 e1 hp wx hX x1 x2 x3 h
  replace HS1 := hide HS1
  replace HS2 := hide HS2
  replace HS3 := hide HS3
  replace HS4 := hide HS4
  replace HS5 := hide HS5
  replace HQ := hide HQ
  obtain rfl | rfl | rfl | rfl : kd = 0 ∨ kd = 1 ∨ kd = 2 ∨ kd = 3 := by omega
  · clear HPw HX2 k0 k3 hg
    go_enter Tryz.func46, Tryz.ntmps46
    go_wp2_with (go_at_call 86; rw [HQ.out, HS1.out]; refine (HX1.out _).mono ?_; rintro e w' ⟨rfl, m, rfl⟩)
    go_ret
    exact ⟨congrArg (fun z => Ending.returned (.float .f32 z)) HR.out, (by repeat (first | exact Below.refl _ _ | exact below_drewN (by assumption) _ | refine below_drewN ?_ _ | refine Below.alloc ?_ (by first | (simp; done) | (simp; omega)) _ | assumption))⟩
  · clear HX1 k0 k3 hg
    go_enter Tryz.func46, Tryz.ntmps46
    go_wp2_with (first | (go_at_call 87; rw [HQ.out]; refine (HPw.out _).mono ?_; rintro e w' ⟨rfl, m, rfl⟩) | (go_at_call 86; rw [HS2.out]; refine (HX2.out _).mono ?_; rintro e w' ⟨rfl, m, rfl⟩))
    go_ret
    exact ⟨congrArg (fun z => Ending.returned (.float .f32 z)) HR.out, (by repeat (first | exact Below.refl _ _ | exact below_drewN (by assumption) _ | refine below_drewN ?_ _ | refine Below.alloc ?_ (by first | (simp; done) | (simp; omega)) _ | assumption))⟩
  · clear HX1 HX2 k0 k3 hg
    go_enter Tryz.func46, Tryz.ntmps46
    go_wp2_with (go_at_call 87; rw [HQ.out]; refine (HPw.out _).mono ?_; rintro e w' ⟨rfl, m, rfl⟩)
    go_ret
    refine ⟨Eq.trans ?_ (congrArg (fun z => Ending.returned (.float .f32 z)) HR.out), (by repeat (first | exact Below.refl _ _ | exact below_drewN (by assumption) _ | refine below_drewN ?_ _ | refine Below.alloc ?_ (by first | (simp; done) | (simp; omega)) _ | assumption))⟩
    show _ = Ending.returned (.float .f32 (fb .quo .f32 1065353216 (fb .add .f32 1065353216 P)))
    rw [← HS4.out, ← HS3.out]; rfl
  · clear HX1 HX2 k0 k3 HPw HS1 HS2 HS3 HS4
    have HR' : Hid ((if 1 < fv .f32 X then 0 else fb .sub .f32 1065353216 X) = Z) := HR
    clear HR
    by_cases hx : 1 < fv .f32 X
    · rw [decide_eq_true hx] at hg
      have HE : Hid (0 = Z) := hide (by rw [← HR'.out, if_pos hx])
      clear hx HR'
      go_enter Tryz.func46, Tryz.ntmps46
      go_wp2
      go_ret
      exact ⟨congrArg (fun z => Ending.returned (.float .f32 z)) HE.out, (by repeat (first | exact Below.refl _ _ | exact below_drewN (by assumption) _ | refine below_drewN ?_ _ | refine Below.alloc ?_ (by first | (simp; done) | (simp; omega)) _ | assumption))⟩
    · rw [decide_eq_false hx] at hg
      have HE : Hid (fb .sub .f32 1065353216 X = Z) := hide (by rw [← HR'.out, if_neg hx])
      clear hx HR'
      go_enter Tryz.func46, Tryz.ntmps46
      go_wp2
      go_ret
      refine ⟨?_, (by repeat (first | exact Below.refl _ _ | exact below_drewN (by assumption) _ | refine below_drewN ?_ _ | refine Below.alloc ?_ (by first | (simp; done) | (simp; omega)) _ | assumption))⟩
      rw [← HE.out, ← HS5.out, ← HQ.out]; rfl
theorem i_areNotLess1 (w : World) (e : TypeId) (a g : Nat) (hg : g = w.heap.size) :
    Calls Tryz.prog 73 #[.slice (some ⟨g, 0, none⟩) 1 1] (w.alloc (.cells #[.float .f32 a] e)) fun r w' => r = .returned (.bool (leastFN a)) ∧ ∃ n, w' = (w.alloc (.cells #[.float .f32 a] e)).drewN n := by
  subst hg
  refine (i_areNotLessN _ _ _ [a] _ _ (reads_new (Value.float .f32) w e [a]) (by simp [maxLen])).mono ?_
  rintro r w' ⟨rfl, h⟩
  exact ⟨by simp, h⟩
theorem i_isTime {kd : Int} {sh sc t : Nat} {w : World} (hl : lawOk kd sh sc = true) (ht : leastFN t = true) :
    Calls Tryz.prog 45 #[.agg #[.int .i64 kd, .float .f32 sh, .float .f32 sc], .float .f32 t] w fun e w' => e = .returned (.bool true) ∧ Below w.heap.size w w' := by
  have HV := hide (fun W => i_ValidLaw (kd := kd) (sh := sh) (sc := sc) (w := W))
  rw [hl] at HV
  have hb0 : Below w.heap.size w (w.alloc (.cells #[.int .i64 kd, .float .f32 sh, .float .f32 sc] 27)) := (Below.refl _ _).alloc (Nat.le_refl _) _
  have HB0 := hide hb0
  clear hb0
  go_enter Tryz.func45, Tryz.ntmps45
  go_wp2_with (first | (go_at_call 30; refine (HV.out _).mono ?_; rintro e w1 ⟨rfl, hb⟩; have HB := hide (HB0.out.trans (hb.mono (by simp))); clear hb) | (go_at_call 73; refine (i_areNotLess1 _ _ _ _ (by simp)).mono ?_; rw [ht]; rintro e w' ⟨rfl, m, rfl⟩))
  go_ret
  exact ⟨rfl, below_drewN (HB.out.alloc HB.out.size _) _⟩
theorem i_LawSurvives {kd : Int} {sh sc t : Nat} {w : World} (hl : lawOk kd sh sc = true) (ht : leastFN t = true) (h : LawD kd sh sc t) :
    Calls Tryz.prog 19 #[.agg #[.int .i64 kd, .float .f32 sh, .float .f32 sc], .float .f32 t] w fun e w' => e = .returned (.tuple #[.float .f32 (survN kd sh sc t), .bool true]) ∧ Below w.heap.size w w' := by
  have HI := hide (fun W => i_isTime (w := W) hl ht)
  have HS := hide (fun W => i_survives (w := W) h)
  have HF := hide (fun W => i_ifFinite (x := survN kd sh sc t) (w := W))
  rw [h.told.2.2.2.2.2, if_pos rfl] at HF
  clear h hl ht
  generalize survN kd sh sc t = Z at *
  go_enter Tryz.func19, Tryz.ntmps19
  go_wp2_with (first | (go_at_call 45; refine (HI.out _).mono ?_; rintro e w1 ⟨rfl, hb1⟩; have hB1 := (Blk.new w 27 #[.int .i64 kd, .float .f32 sh, .float .f32 sc]).below hb1 (by simp); have c0 : w1.cell? ⟨w.heap.size, 0, none⟩ = some (.int .i64 kd) := hB1.cell 0; have c1 : w1.cell? ⟨w.heap.size, 1, none⟩ = some (.float .f32 sh) := hB1.cell 1; have c2 : w1.cell? ⟨w.heap.size, 2, none⟩ = some (.float .f32 sc) := hB1.cell 2; clear hB1) | (go_at_call 46; refine (HS.out _).mono ?_; rintro e w2 ⟨rfl, hb2⟩) | (go_at_call 43; refine (HF.out _).mono ?_; rintro e w3 ⟨rfl, m, rfl⟩))
  go_ret2
  have hb0 : Below w.heap.size w w1 := ((Below.refl w.heap.size w).alloc (Nat.le_refl _) _).trans (hb1.mono (by simp))
  exact ⟨rfl, below_drewN (hb0.trans (hb2.mono hb0.size)) _⟩
end Go.Proofs.YtjmpldcnhjgpkaaGreatDoor

/-
  Desks: what a line of a word and a text does.
-/
namespace Go.Proofs.YtjmpldcnhjgpkaaGreatDoor
open Go.RowKit Mem Fl Go.Shelf
set_option linter.unusedVariables false
set_option maxRecDepth 100000

theorem below_row {B : Nat} {w : World} (h : B ≤ w.heap.size) (p : Addr) (u : Value) : B ≤ (w.setCell p u).heap.size := by rw [World.size_setCell]; exact h
theorem wt_lives {lo g : Nat} {D : Dk} {t : ByteArray} {l : List (Nat × Bool)} {w : World} (h : DkAt w lo g D) (G : Gl w) (ht : t.size ≤ 1048576) (hv : livesV t = some l) (h1l : 1 ≤ l.length) (hl48 : l.length ≤ 48) :
    Calls Tryz.prog 118 #[.pointer (some ⟨g, 0, none⟩), .string ⟨#[108, 105, 118, 101, 115]⟩, .string t] w (Did lo g { D with lv := l } ⟨#[111, 107]⟩ true true w) := by
  obtain ⟨LA, ln, lc, RA, rn, rc, h1, h2⟩ := h
  have hl := h1.lt
  obtain ⟨b1, m1⟩ := G.m1
  obtain ⟨b2, m2⟩ := G.m2
  have HC := hide (i_ReadLives (w := w) ht m1 m2 G.er G.db)
  rw [hv] at HC
  have H1 := hide h1
  have H2 := hide h2
  clear h1 h2 G m1 m2
  go_enter Tryz.func118, Tryz.ntmps118
  go_wp2_with (go_at_call 146; refine HC.out.mono ?_; rintro e w1 ⟨⟨A, n', c', rfl, hO, rfl⟩, hb⟩; have HB1 := hide (H1.out.below hb hl); have c0 : w1.cell? ⟨g, 0, none⟩ = some (.slice LA ln lc) := HB1.out.cell 0; have f0 : w1.frozen? ⟨g, 0, none⟩ = false := HB1.out.frozen 0)
  go_ret3
  have hz := hb.size
  have e1 : lvL (some l) = l := rfl
  rw [e1] at hO
  refine ⟨rfl, ⟨A, l.length, c', RA, rn, rc, HB1.out.set_ 0 _, ⟨?_, ?_, by omega, by omega, H2.out.r1, H2.out.r2, H2.out.rc, fun ad e => ⟨(own_lo (base' := lo) hO ⟨by omega, by have := H2.out.lo_le; omega⟩ e).1, ((own_lo (base' := lo) hO ⟨by omega, by have := H2.out.lo_le; omega⟩ e).2).setCell _ _⟩, fun ad e => ⟨(H2.out.ra ad e).1, ((H2.out.ra ad e).2.kept (hb.block ad.block (by have := (H2.out.ra ad e).2.lt; omega))).setCell _ _⟩⟩⟩, only_setCell (only_of_below hb (some g)) (.inl rfl) _⟩
  · exact Reads.of_own (own_put hO hl _)
  · have := ((H2.out.r.below (hb.mono (by omega))).setCell (p := ⟨g, 0, none⟩) (Nat.le_refl _) (.slice A l.length c')).more (B' := (w1.setCell ⟨g, 0, none⟩ (.slice A l.length c')).heap.size) (by rw [World.size_setCell]; omega)
    exact this
theorem wt_law {lo g : Nat} {D : Dk} {t : ByteArray} {n : Int} {x y : Nat} {w : World} (h : DkAt w lo g D) (G : Gl w) (ht : t.size ≤ 1048576) (hv : lawV t = some (n, x, y)) :
    Calls Tryz.prog 118 #[.pointer (some ⟨g, 0, none⟩), .string ⟨#[108, 97, 119]⟩, .string t] w (Did lo g { D with kd := n, sh := x, sc := y } ⟨#[111, 107]⟩ true true w) := by
  obtain ⟨LA, ln, lc, RA, rn, rc, h1, h2⟩ := h
  have hl := h1.lt
  obtain ⟨b1, m1⟩ := G.m1
  obtain ⟨b2, m2⟩ := G.m2
  have HC := hide (i_ReadLaw (w := w) ht m1 m2 G.er G.pw G.db)
  rw [hv, show lawRes (some (n, x, y)) = .tuple #[.agg #[.int .i64 n, .float .f32 x, .float .f32 y], .bool true] from rfl] at HC
  have H1 := hide h1
  have H2 := hide h2
  clear h1 h2 G m1 m2
  go_enter Tryz.func118, Tryz.ntmps118
  go_wp2_with (go_at_call 147; refine HC.out.mono ?_; rintro e w1 ⟨rfl, hb⟩; have HB1 := hide (H1.out.below hb hl); have c1 : w1.cell? ⟨g, 1, none⟩ = some (.int .i64 D.kd) := HB1.out.cell 1; have f1 : w1.frozen? ⟨g, 1, none⟩ = false := HB1.out.frozen 1; have c2 : w1.cell? ⟨g, 2, none⟩ = some (.float .f32 D.sh) := HB1.out.cell 2; have f2 : w1.frozen? ⟨g, 2, none⟩ = false := HB1.out.frozen 2; have c3 : w1.cell? ⟨g, 3, none⟩ = some (.float .f32 D.sc) := HB1.out.cell 3; have f3 : w1.frozen? ⟨g, 3, none⟩ = false := HB1.out.frozen 3)
  go_ret3
  have hz := hb.size
  refine ⟨rfl, ⟨LA, ln, lc, RA, rn, rc, ((HB1.out.set_ 1 _).set_ 2 _).set_ 3 _, ⟨?_, ?_, H2.out.l1, H2.out.l2, H2.out.r1, H2.out.r2, H2.out.rc, fun ad e => ⟨(H2.out.la ad e).1, ((((H2.out.la ad e).2.kept (hb.block ad.block (by have := (H2.out.la ad e).2.lt; omega))).setCell _ _).setCell _ _).setCell _ _⟩, fun ad e => ⟨(H2.out.ra ad e).1, ((((H2.out.ra ad e).2.kept (hb.block ad.block (by have := (H2.out.ra ad e).2.lt; omega))).setCell _ _).setCell _ _).setCell _ _⟩⟩⟩, only_setCell (only_setCell (only_setCell (only_of_below hb (some g)) (.inl rfl) _) (.inl rfl) _) (.inl rfl) _⟩
  · exact ((((H2.out.l.below (hb.mono (by omega))).setCell (p := ⟨g, 1, none⟩) (Nat.le_refl _) _).setCell (p := ⟨g, 2, none⟩) (Nat.le_refl _) _).setCell (p := ⟨g, 3, none⟩) (Nat.le_refl _) _).more (below_row (below_row (below_row (by omega) _ _) _ _) _ _)
  · exact ((((H2.out.r.below (hb.mono (by omega))).setCell (p := ⟨g, 1, none⟩) (Nat.le_refl _) _).setCell (p := ⟨g, 2, none⟩) (Nat.le_refl _) _).setCell (p := ⟨g, 3, none⟩) (Nat.le_refl _) _).more (below_row (below_row (below_row (by omega) _ _) _ _) _ _)
theorem wt_plan {lo g : Nat} {D : Dk} {t : ByteArray} {a b : Int} {w : World} (h : DkAt w lo g D) (G : Gl w) (ht : t.size ≤ 1048576) (hv : planV t = some (a, b)) :
    Calls Tryz.prog 118 #[.pointer (some ⟨g, 0, none⟩), .string ⟨#[112, 108, 97, 110]⟩, .string t] w (Did lo g { D with sz := a, ac := b } ⟨#[111, 107]⟩ true true w) := by
  obtain ⟨LA, ln, lc, RA, rn, rc, h1, h2⟩ := h
  have hl := h1.lt
  obtain ⟨b1, m1⟩ := G.m1
  have HC := hide (i_ReadPlan (w := w) ht m1 G.er G.pw)
  rw [hv, show planRes (some (a, b)) = .tuple #[.agg #[.int .i64 a, .int .i64 b], .bool true] from rfl] at HC
  have H1 := hide h1
  have H2 := hide h2
  clear h1 h2 G m1
  go_enter Tryz.func118, Tryz.ntmps118
  go_wp2_with (go_at_call 149; refine HC.out.mono ?_; rintro e w1 ⟨rfl, hb⟩; have HB1 := hide (H1.out.below hb hl); have c1 : w1.cell? ⟨g, 6, none⟩ = some (.int .i64 D.sz) := HB1.out.cell 6; have f1 : w1.frozen? ⟨g, 6, none⟩ = false := HB1.out.frozen 6; have c2 : w1.cell? ⟨g, 7, none⟩ = some (.int .i64 D.ac) := HB1.out.cell 7; have f2 : w1.frozen? ⟨g, 7, none⟩ = false := HB1.out.frozen 7)
  go_ret3
  have hz := hb.size
  refine ⟨rfl, ⟨LA, ln, lc, RA, rn, rc, (HB1.out.set_ 6 _).set_ 7 _, ⟨?_, ?_, H2.out.l1, H2.out.l2, H2.out.r1, H2.out.r2, H2.out.rc, fun ad e => ⟨(H2.out.la ad e).1, (((H2.out.la ad e).2.kept (hb.block ad.block (by have := (H2.out.la ad e).2.lt; omega))).setCell _ _).setCell _ _⟩, fun ad e => ⟨(H2.out.ra ad e).1, (((H2.out.ra ad e).2.kept (hb.block ad.block (by have := (H2.out.ra ad e).2.lt; omega))).setCell _ _).setCell _ _⟩⟩⟩, only_setCell (only_setCell (only_of_below hb (some g)) (.inl rfl) _) (.inl rfl) _⟩
  · exact (((H2.out.l.below (hb.mono (by omega))).setCell (p := ⟨g, 6, none⟩) (Nat.le_refl _) _).setCell (p := ⟨g, 7, none⟩) (Nat.le_refl _) _).more (below_row (below_row (by omega) _ _) _ _)
  · exact (((H2.out.r.below (hb.mono (by omega))).setCell (p := ⟨g, 6, none⟩) (Nat.le_refl _) _).setCell (p := ⟨g, 7, none⟩) (Nat.le_refl _) _).more (below_row (below_row (by omega) _ _) _ _)
theorem wt_chain {lo g : Nat} {D : Dk} {t : ByteArray} {n : Int} {xs : List Nat} {w : World} (h : DkAt w lo g D) (G : Gl w) (ht : t.size ≤ 1048576) (hh : headV t = some (n, xs)) (hv : chainV t = some (n, xs)) (h1x : 1 ≤ xs.length) (hx64 : xs.length ≤ 64) :
    Calls Tryz.prog 118 #[.pointer (some ⟨g, 0, none⟩), .string ⟨#[99, 104, 97, 105, 110]⟩, .string t] w (Did lo g { D with st := n, rs := xs } ⟨#[111, 107]⟩ true true w) := by
  obtain ⟨LA, ln, lc, RA, rn, rc, h1, h2⟩ := h
  have hl := h1.lt
  obtain ⟨b1, m1⟩ := G.m1
  obtain ⟨b2, m2⟩ := G.m2
  have HC := hide (i_ReadChain_some (w := w) ht m1 m2 G.er G.pw G.db hh)
  rw [hv] at HC
  have H1 := hide h1
  have H2 := hide h2
  clear h1 h2 G m1 m2
  go_enter Tryz.func118, Tryz.ntmps118
  go_wp2_with (go_at_call 148; refine HC.out.mono ?_; rintro e w1 ⟨⟨n', A, n2, c', rfl, hO, rfl, rfl⟩, hb⟩; have HB1 := hide (H1.out.below hb hl); have c1 : w1.cell? ⟨g, 4, none⟩ = some (.int .i64 D.st) := HB1.out.cell 4; have f1 : w1.frozen? ⟨g, 4, none⟩ = false := HB1.out.frozen 4; have c2 : w1.cell? ⟨g, 5, none⟩ = some (.slice RA rn rc) := HB1.out.cell 5; have f2 : w1.frozen? ⟨g, 5, none⟩ = false := HB1.out.frozen 5)
  go_ret3
  have hz := hb.size
  have e1 : ∀ m : Int, chL (some (m, xs)) = xs := fun _ => rfl
  rw [e1] at hO
  have hcap : xs.length ≤ c' := by
    rcases hO with ⟨_, ⟨_, h0⟩ | ⟨gg, cap, cur, hv2, hb2, hh2, hc2, _⟩⟩
    · omega
    · injection hv2 with _ _ e3; omega
  refine ⟨rfl, ⟨LA, ln, lc, A, xs.length, c', (HB1.out.set_ 4 _).set_ 5 _, ⟨?_, ?_, H2.out.l1, H2.out.l2, by omega, by omega, hcap, fun ad e => ⟨(H2.out.la ad e).1, (((H2.out.la ad e).2.kept (hb.block ad.block (by have := (H2.out.la ad e).2.lt; omega))).setCell _ _).setCell _ _⟩, fun ad e => ⟨(own_lo (base' := lo) hO ⟨by omega, by have := H2.out.lo_le; omega⟩ e).1, (((own_lo (base' := lo) hO ⟨by omega, by have := H2.out.lo_le; omega⟩ e).2).setCell _ _).setCell _ _⟩⟩⟩, only_setCell (only_setCell (only_of_below hb (some g)) (.inl rfl) _) (.inl rfl) _⟩
  · exact (((H2.out.l.below (hb.mono (by omega))).setCell (p := ⟨g, 4, none⟩) (Nat.le_refl _) _).setCell (p := ⟨g, 5, none⟩) (Nat.le_refl _) _).more (below_row (below_row (by omega) _ _) _ _)
  · exact Reads.of_own (own_put (own_put hO hl _) hl _)
end Go.Proofs.YtjmpldcnhjgpkaaGreatDoor

/-
  Desks: a line that asks how many survive a time: a map of functions.
-/
namespace Go.Proofs.YtjmpldcnhjgpkaaGreatDoor
open Go.RowKit Mem Fl Go.Shelf Go.Maps Go.WideMaps
set_option linter.unusedVariables false
set_option maxRecDepth 100000

/-- A function as an element: read as itself. -/
def fnR (v : Value) : Option (DataW Value × List MemPlace) := some (.held v, [])
theorem law_str : Keyed Tryz.prog 9 := string_keyed Tryz.underlying9
abbrev kSur : ByteArray := ⟨#[115, 117, 114, 118, 105, 118, 101, 115]⟩
abbrev kHaz : ByteArray := ⟨#[104, 97, 122, 97, 114, 100]⟩
abbrev kTim : ByteArray := ⟨#[116, 105, 109, 101]⟩
abbrev fnV (f : FuncId) : Value := .func (.func f) #[] #[]
/-- The map of three functions. -/
theorem map3 (w : World) : ∃ w2 w3 w4, (Instr.mapUpdate 203 (.map (some w.heap.size)) (.string kSur) (fnV 19)).run Tryz.prog (w.alloc (.map #[] 0)) = .ok () w2 ∧
    (Instr.mapUpdate 203 (.map (some w.heap.size)) (.string kHaz) (fnV 153)).run Tryz.prog w2 = .ok () w3 ∧
    (Instr.mapUpdate 203 (.map (some w.heap.size)) (.string kTim) (fnV 154)).run Tryz.prog w3 = .ok () w4 ∧
    Below w.heap.size w w4 ∧ ∀ q : BelW w4, (Instr.lookup 203 (.map (some w.heap.size)) (.string kSur) false).run Tryz.prog q.v = .ok (fnV 19) q.v := by
  have ho0 := World.ownsMap_made (H := Value) w Tryz.prog 9 fnR
  obtain ⟨w2, r2, o2, g2⟩ := ho0.update law_str Tryz.underlying203 (by decide) (keyOf_string_mk Tryz.underlying9 (by decide : kSur.size ≤ maxLen)) (show fnR (fnV 19) = some (.held _, []) from rfl)
  obtain ⟨w3, r3, o3, g3⟩ := o2.update law_str Tryz.underlying203 (by decide) (keyOf_string_mk Tryz.underlying9 (by decide : kHaz.size ≤ maxLen)) (show fnR (fnV 153) = some (.held _, []) from rfl)
  obtain ⟨w4, r4, o4, g4⟩ := o3.update law_str Tryz.underlying203 (by decide) (keyOf_string_mk Tryz.underlying9 (by decide : kTim.size ≤ maxLen)) (show fnR (fnV 154) = some (.held _, []) from rfl)
  refine ⟨w2, w3, w4, r2, r3, r4, ?_, ?_⟩
  · have b1 : Below w.heap.size w (w.alloc (.map #[] 0)) := (Below.refl _ _).alloc (Nat.le_refl _) _
    have b2 := b1.trans (below_of_only g2 (by simp))
    have b3 := b2.trans (below_of_only g3 (by have := g2.size; simp at this; omega))
    exact b3.trans (below_of_only g4 (by have := g2.size; have := g3.size; simp at *; omega))
  · intro q
    have oq := o4.kept (only_of_below q.h none) (by simp)
    obtain ⟨v, ps, hr, hv⟩ := oq.lookup law_str Tryz.underlying203 (z := .nilFunc) (by kernel_rfl) (zd := .held (.nilFunc)) (zp := []) rfl (keyOf_string_mk Tryz.underlying9 (by decide : kSur.size ≤ maxLen))
    rw [hr]
    have e : fnR v = some (.held (fnV 19), ps) := by
      rw [hv]; kernel_rfl
    unfold fnR at e
    injection e with e
    injection e with e _
    injection e with e
    rw [e]
theorem wf_near32 (s : Bool) (m : Nat) (i : Int) : Wf .f32 (cn .f32 (FloatKind.f32.format.nearest s m i)) := by
  rw [nearest_rung, cn_num (isNan_word' (Nat.min_le_right _ _))]
  have h1 : FloatKind.f32.format.infRung = 2139095040 := f32_inf
  have h2 := Nat.min_le_right (rungOf FloatKind.f32.format m i) FloatKind.f32.format.infRung
  generalize min (rungOf FloatKind.f32.format m i) FloatKind.f32.format.infRung = r at *
  have h3 : FloatKind.f32.format.signWeight = 2147483648 := by decide +kernel
  show FloatKind.f32.format.word s r < 4294967296
  unfold Ieee.Format.word
  rw [h3]
  split <;> omega
theorem wf_nar {x : Nat} (hx : fin .f64 x = true) : Wf .f32 (nar x) := by
  obtain ⟨s, m, i, rx, li, lm⟩ := fin_read hx
  have hd : FloatKind.f64.decode x = .number s m i := rx
  unfold nar cvBits
  rw [hd]
  simp only [reduceCtorEq, if_false]
  split
  · have : Wf .f32 (cn .f32 (nanOf .f32)) := by unfold Wf; decide +kernel
    exact this
  · exact wf_near32 s m i
theorem expN_wf {x : Nat} (hx : fin .f32 x = true) (h2 : fv .f32 x ≤ 60) : Wf .f32 (expN x) := by
  unfold expN
  split
  · show (0 : Nat) < _; decide
  · obtain ⟨a, _⟩ := exp_told hx (by grind) h2
    exact wf_nar a
theorem survN_wf {kd : Int} {sh sc t : Nat} (h : LawD kd sh sc t) : Wf .f32 (survN kd sh sc t) := by
  obtain ⟨⟨a1, a2⟩, ⟨b1, b2⟩, _⟩ := h.told
  unfold survN
  split
  · exact expN_wf a1 a2
  split
  · exact expN_wf b1 b2
  split
  · exact wf_fb _ _ _ _
  split
  · show (0 : Nat) < _; decide
  · exact wf_fb _ _ _ _
theorem ws_survives {lo g : Nat} {D : Dk} {t : ByteArray} {x : Nat} {w : World} (h : DkAt w lo g D) (G : Gl w) (ht : t.size ≤ 1048576) (hv : numsV t = some [x]) (hG : Good D) (hD : LawD D.kd D.sh D.sc x) (hx : leastFN x = true) :
    Calls Tryz.prog 118 #[.pointer (some ⟨g, 0, none⟩), .string ⟨#[115, 117, 114, 118, 105, 118, 101, 115]⟩, .string t] w (Did lo g D (numT [survN D.kd D.sh D.sc x]) true true w) := by
  have HE : Hid (∀ w', Below w.heap.size w w' → DkTo w' lo g D) := hide (fun w' hb => h.to hb)
  obtain ⟨LA, ln, lc, RA, rn, rc, h1, h2⟩ := h
  have hl := h1.lt
  obtain ⟨b2, m2⟩ := G.m2
  have HC := hide (i_ReadNumbers (w := w) ht m2 G.er G.db)
  rw [hv] at HC
  have H1 := hide h1
  have HG := hide G
  have HS := hide (fun W => i_LawSurvives (w := W) hG.kw hx hD)
  have HSW : Hid (Wf .f32 (survN D.kd D.sh D.sc x)) := hide (survN_wf hD)
  clear h1 h2 G m2 hG hD hx
  have hmm := @run_makeMap Tryz.prog
  go_enter Tryz.func118, Tryz.ntmps118
  go_wp2_with (go_at_call 152; refine HC.out.mono ?_; rintro e w1 ⟨⟨v, rfl, hO, hlt⟩, hb⟩; have HV : Hid (∃ A c, v = .slice A 1 c ∧ w1.ownsRow w.heap.size 25 1 (.slice A 1 c) 1 (fl .f32 [x])) := hide (by obtain ⟨A, c, rfl⟩ := own_shape hO; exact ⟨A, c, rfl, hO⟩); clear hO; obtain ⟨A, c, rfl, hO⟩ := HV.out; replace hO := hide hO; clear HV; obtain ⟨w2, w3, w4, q2, q3, q4, hbm, HL⟩ := map3 w1; simp only [kSur, kHaz, kTim, fnV] at q2 q3 q4 HL)
  have hb4 : Below w.heap.size w w4 := hb.trans (hbm.mono hb.size)
  have HB4 := hide hb4
  have HO4 := hide (own_below hO.out hbm)
  clear q2 q3 q4 hmm HC
  have HG4 := HG.out.below hb4
  have D1 : ∀ q : BelW w4, q.v.cell? ⟨g, 1, none⟩ = some (.int .i64 D.kd) := cell_bel (by have := hb4.size; simp; omega) ((hb4.cell (p := ⟨g, 1, none⟩) hl).trans (H1.out.cell 1))
  have D2 : ∀ q : BelW w4, q.v.cell? ⟨g, 2, none⟩ = some (.float .f32 D.sh) := cell_bel (by have := hb4.size; simp; omega) ((hb4.cell (p := ⟨g, 2, none⟩) hl).trans (H1.out.cell 2))
  have D3 : ∀ q : BelW w4, q.v.cell? ⟨g, 3, none⟩ = some (.float .f32 D.sc) := cell_bel (by have := hb4.size; simp; omega) ((hb4.cell (p := ⟨g, 3, none⟩) hl).trans (H1.out.cell 3))
  obtain ⟨ad, hA, had, hcA⟩ := (Reads.of_own HO4.out).2 (by decide)
  subst hA
  have D4 : ∀ q : BelW w4, q.v.cell? ad = some (.float .f32 x) := cell_bel had (by have := hcA 0 _ rfl; simpa [Addr.add] using this)
  have HO := hide (fun q : BelW w4 => i_oneText (w := q.v) HSW.out (HG4.below q.h).db)
  clear hbm hb HG HG4 hcA had hb4 HO4 hO hlt hv ht H1
  refine wp_region_quiet_bel (by kernel_rfl) (by kernel_rfl) ?_
  repeat (go_big_quiet_step (((first | (go_at_call 19; exact Calls.bel_of (HS.out _)) | (go_at_call 140; exact Calls.bel_of (HO.out _))))))
  refine wpQuiet_nil ?_
  intro w9 hw'
  obtain ⟨p, rfl⟩ := hw'
  have hqb := p.h
  generalize p.v = wq at hqb ⊢
  clear p
  go_wp2
  go_ret3
  have hb9 := HB4.out.trans (hqb.mono HB4.out.size)
  exact ⟨rfl, HE.out _ hb9, only_of_below hb9 _⟩
end Go.Proofs.YtjmpldcnhjgpkaaGreatDoor
