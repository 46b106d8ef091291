/-
  BearingRates: both sides.
-/
import Derived.Test.YtolbibpmngmpdaaPhZ
import Derived.Test.YtolbibpmngmpdaaChP
import Derived.Test.YtolbibpmngmpdaaMean
import Derived.Test.YtolbibpmngmpdaaDesk
namespace Go.Proofs.Ytolbibpmngmpdaa
open Go.RowKit Mem Fl
set_option linter.unusedVariables false
set_option maxRecDepth 100000

theorem wide_word {a : Nat} (h : fin .f32 a = true) : ∃ s r, wide a = FloatKind.f64.format.word s r ∧ r < 9218868437227405312 := by
  obtain ⟨s, m, e, hr⟩ := (fin_iff .f32 a).1 h
  obtain ⟨hm, h1, h2⟩ := read32 hr
  obtain ⟨r, hw, hi⟩ := nearest64_lt s m e hm h1 h2
  refine ⟨s, r, ?_, by rw [d64_inf] at hi; exact hi⟩
  unfold wide
  rw [cvBits_num hr]
  show cn .f64 (FloatKind.f64.format.nearest s m e) = _
  rw [hw, cn_num (isNan_word' (Nat.le_of_lt hi))]
theorem cvR_fin {a : Nat} (h : fin .f32 a = true) (w : World) : cvR .f32 .f64 a w = wide a := by
  obtain ⟨s, r, hw, hr⟩ := wide_word h
  exact exact_word (cn_cvR a w) (by rw [hw]; exact isNan_word' (by rw [d64_inf]; omega))
/-- The real part of the point at some turns, told. -/
def phX (a : Nat) : Nat := if 4841369599423283200 ≤ wide a % 9223372036854775808 then 1065353216 else phRe (wide a)
theorem i_Ph {a : Nat} {w : World} (h : fin .f32 a = true) : Calls Try.prog 85 #[.float .f64 (wide a)] w fun e w' => ∃ x y, e = .returned (.complex .f32 x y) ∧ Hid (cn .f32 x = phX a) ∧ ∃ m, w' = w.drewN m := by
  obtain ⟨s, r, hw, hr⟩ := wide_word h
  have hm := (word_mod (s := s) hr).1
  rw [← hw] at hm
  by_cases hb : 4841369599423283200 ≤ r
  · have hX : phX a = 1065353216 := by unfold phX; rw [hm, if_pos hb]
    refine (i_PhasorOf_big hw hb hr).mono ?_
    rintro e w' ⟨rfl, h1⟩
    exact ⟨_, _, rfl, hide (by rw [hX]; decide +kernel), h1⟩
  · have hX : phX a = phRe (wide a) := by unfold phX; rw [hm, if_neg hb]
    refine (i_PhasorOf hw (by omega)).mono ?_
    rintro e w' ⟨x, y, rfl, h1, _, h2⟩
    exact ⟨_, _, rfl, hide (by rw [hX]; exact h1.out), h2⟩
theorem s_Ph {a : Nat} {w : World} (h : fin .f32 a = true) : Calls Try.prog 140 #[.float .f64 (wide a)] w fun e w' => ∃ x y, e = .returned (.complex .f32 x y) ∧ Hid (cn .f32 x = phX a) ∧ ∃ m, w' = w.drewN m := by
  obtain ⟨s, r, hw, hr⟩ := wide_word h
  have hm := (word_mod (s := s) hr).1
  rw [← hw] at hm
  by_cases hb : 4841369599423283200 ≤ r
  · have hX : phX a = 1065353216 := by unfold phX; rw [hm, if_pos hb]
    refine (s_l01Phasor_big hw hb hr).mono ?_
    rintro e w' ⟨rfl, h1⟩
    exact ⟨_, _, rfl, hide (by rw [hX]; decide +kernel), h1⟩
  · have hX : phX a = phRe (wide a) := by unfold phX; rw [hm, if_neg hb]
    refine (s_l01Phasor hw (by omega)).mono ?_
    rintro e w' ⟨x, y, rfl, h1, _, h2⟩
    exact ⟨_, _, rfl, hide (by rw [hX]; exact h1.out), h2⟩
def brC (R a : Nat) : Nat := fb .mul .f32 R (phX a)
def brG (R a : Nat) : Nat := fb .mul .f32 1056964608 (fb .sub .f32 1065353216 (brC R a))
def brV (n : Int) (R a : Nat) : List Nat := [brG R a, fb .mul .f32 (floatOfInt .f32 n) (brG R a), fb .mul .f32 (fb .mul .f32 1056964608 (floatOfInt .f32 n)) (fb .add .f32 1065353216 (brC R a)), fb .quo .f32 (fb .sub .f32 1065353216 (fb .mul .f32 (brC R a) (brC R a))) (fb .mul .f32 1073741824 R)]
def brIn (n : Int) (R a : Nat) : Bool := (inB n 1 32 && shB R) && ((FloatKind.f32.format.order R 0 == some .gt) && fin .f32 a)
def brO (n : Int) (R a : Nat) : Bool := brIn n R a && (brV n R a).all (fin .f32)
def brR (n : Int) (R a : Nat) : List Nat := if brO n R a = true then brV n R a else []
theorem brR_len (n : Int) (R a : Nat) : (brR n R a).length ≤ 1000 := by
  unfold brR; split
  · simp [brV]
  · simp
def BrR (base : Nat) (n : Int) (R a : Nat) (e : Ending) (w' : World) : Prop := ∃ v zs, e = .returned (.tuple #[v, .bool (brO n R a)]) ∧ w'.ownsRow base 27 1 v zs.length (fl .f32 zs) ∧ Hid (zs.map (cn .f32) = brR n R a)
theorem BrR.no {base : Nat} {n : Int} {R a : Nat} {w' : World} (h : brO n R a = false) : BrR base n R a (.returned (.tuple #[.slice none 0 0, .bool false])) w' := by
  unfold BrR brR; rw [h, if_neg (by simp)]; exact ⟨_, [], rfl, own_nil _ _ _ _, hide rfl⟩
theorem BrR.yes {base : Nat} {n : Int} {R a : Nat} {w' : World} {v : Value} {zs : List Nat} (h : brO n R a = true) (ho : w'.ownsRow base 27 1 v zs.length (fl .f32 zs)) (hz : zs.map (cn .f32) = brV n R a) : BrR base n R a (.returned (.tuple #[v, .bool true])) w' := by
  unfold BrR brR; rw [h, if_pos rfl]; exact ⟨_, zs, rfl, ho, hide hz⟩
theorem c_told {R re X : Nat} (h : cn .f32 re = X) (w : World) : cn .f32 (flR .mul .f32 R re w) = fb .mul .f32 R X := by rw [cn_flR, ← fb_cnr, h]
theorem g_told {z C : Nat} (h : cn .f32 z = C) (w1 w2 : World) : cn .f32 (flR .mul .f32 1056964608 (flR .sub .f32 1065353216 z w1) w2) = fb .mul .f32 1056964608 (fb .sub .f32 1065353216 C) := by
  rw [cn_flR, ← fb_cnr, cn_flR, ← fb_cnr .sub, h]
theorem br_told {n : Int} {R a zc cg : Nat} (hc : cn .f32 zc = brC R a) (hg : cn .f32 cg = brG R a) (w1 w2 w3 w4 w5 w6 w7 w8 : World) :
    [cg, flR .mul .f32 (floatOfInt .f32 n) cg w1, flR .mul .f32 (flR .mul .f32 1056964608 (floatOfInt .f32 n) w2) (flR .add .f32 1065353216 zc w3) w4, flR .quo .f32 (flR .sub .f32 1065353216 (flR .mul .f32 zc zc w5) w6) (flR .mul .f32 1073741824 R w7) w8].map (cn .f32) = brV n R a := by
  have e2 : cn .f32 (flR .mul .f32 (floatOfInt .f32 n) cg w1) = fb .mul .f32 (floatOfInt .f32 n) (brG R a) := by rw [cn_flR, ← fb_cnr, hg]
  have e3 : cn .f32 (flR .mul .f32 (flR .mul .f32 1056964608 (floatOfInt .f32 n) w2) (flR .add .f32 1065353216 zc w3) w4) = fb .mul .f32 (fb .mul .f32 1056964608 (floatOfInt .f32 n)) (fb .add .f32 1065353216 (brC R a)) := by
    rw [cn_flR, ← fb_cn, cn_flR, cn_flR, ← fb_cnr .add, hc]
  have e4 : cn .f32 (flR .quo .f32 (flR .sub .f32 1065353216 (flR .mul .f32 zc zc w5) w6) (flR .mul .f32 1073741824 R w7) w8) = fb .quo .f32 (fb .sub .f32 1065353216 (fb .mul .f32 (brC R a) (brC R a))) (fb .mul .f32 1073741824 R) := by
    rw [cn_flR, ← fb_cn, cn_flR, cn_flR, ← fb_cnr .sub, cn_flR, ← fb_cn .mul .f32 zc zc, hc]
  simp only [List.map_cons, List.map_nil, hg, e2, e3, e4]
  rfl
theorem i_ifAll4 {w : World} {e : TypeId} {a b c d g : Nat} (hg : g = w.heap.size) {T : List Nat} {O : Bool} (ht : [a, b, c, d].map (cn .f32) = T) (hO : T.all (fin .f32) = O) :
    Calls Try.prog 60 #[.slice (some ⟨g, 0, none⟩) 4 4] (w.alloc (.cells #[.float .f32 a, .float .f32 b, .float .f32 c, .float .f32 d] e)) fun r w' => r = .returned (.tuple #[if O = true then .slice (some ⟨g, 0, none⟩) 4 4 else .slice none 0 0, .bool O]) ∧ Hid ([a, b, c, d].map (cn .f32) = T) ∧ ∃ m, w' = (w.alloc (.cells #[.float .f32 a, .float .f32 b, .float .f32 c, .float .f32 d] e)).drewN m := by
  subst hg
  refine (i_ifAll (xs := [a, b, c, d]) (reads_new (Value.float .f32) w e [a, b, c, d]) (by simp [maxLen])).mono ?_
  rintro r w' ⟨rfl, h⟩
  rw [allfin_toldC ht, hO]
  exact ⟨rfl, hide ht, h⟩
theorem own4 {W : World} {g base : Nat} {t : TypeId} {a b c d M : Nat} (hg : g = W.heap.size) (hb : base ≤ g) : ((W.alloc (.cells #[.float .f32 a, .float .f32 b, .float .f32 c, .float .f32 d] t)).drewN M).ownsRow base t 1 (.slice (some ⟨g, 0, none⟩) 4 4) [a, b, c, d].length (fl .f32 [a, b, c, d]) :=
  own_drewN (own_of_blk (xs := fl .f32 [a, b, c, d]) (blk_new' W g t _ hg) hb rfl (by simp [maxLen])) M
theorem sh_zero {R : Nat} (h : shB R = true) : (FloatKind.f32.format.order R 0 == some .gt) = !(FloatKind.f32.format.order R 0 == some .eq) := by
  unfold shB at h
  rw [Bool.and_eq_true] at h
  have h1 := h.1
  cases ho : FloatKind.f32.format.order R 0 with
  | none => rw [ho] at h1; cases h1
  | some o =>
    rw [ho] at h1
    cases o
    · cases h1
    · rfl
    · rfl
set_option maxHeartbeats 4000000 in
theorem i_BearingRates_yes {n : Int} {R a : Nat} {w : World} (h1 : inB n 1 32 = true) (h2 : shB R = true) (h3 : (FloatKind.f32.format.order R 0 == some .eq) = false) (h3' : (FloatKind.f32.format.order R 0 == some .gt) = true) (h4 : fin .f32 a = true) :
    Calls Try.prog 36 #[.int .i64 n, .float .f32 R, .float .f32 a] w fun e w' => BrR w.heap.size n R a e w' ∧ Below w.heap.size w w' := by
  have HO : Hid (brO n R a = (brV n R a).all (fin .f32)) := hide (by unfold brO brIn; rw [h1, h2, h3', h4]; simp)
  have HC := hide (cvR_fin h4)
  have HP : ∀ W, _ := fun W => i_Ph (w := W) h4
  replace HP := hide HP
  have hin := inB_iff.1 h1
  cases hf : (brV n R a).all (fin .f32) with
  | true =>
    have HF := hide hf
    go_enter Try.func36, Try.ntmps36
    go_wp2_with (first
      | (go_at_call 59; refine (i_within _ _ _ _).mono ?_; rintro e w' ⟨rfl, rfl⟩; rw [h1])
      | (go_at_call 55; refine i_isShare.mono ?_; rintro e w' ⟨rfl, rfl⟩; rw [h2])
      | (go_at_call 64; refine (i_IsFinite _ _).mono ?_; rintro e w' ⟨rfl, m1, rfl⟩; rw [h4])
      | (go_at_call 85; rw [HC.out]; refine (HP.out _).mono ?_; rintro e w' ⟨x, y, rfl, hx, m2, rfl⟩)
      | (go_at_call 60; refine (i_ifAll4 (by simp) (br_told (a := a) (c_told hx.out _) (g_told (c_told hx.out _) _ _) _ _ _ _ _ _ _ _) HF.out).mono ?_; rintro e w' ⟨rfl, ht, m3, rfl⟩))
    go_ret2
    exact ⟨BrR.yes (by rw [HO.out, HF.out]) (own4 (by simp) (Nat.le_refl _)) ht.out, below_drewN ((below_drewN (Below.refl _ _) _).alloc (by simp) _) _⟩
  | false =>
    have HF := hide hf
    go_enter Try.func36, Try.ntmps36
    go_wp2_with (first
      | (go_at_call 59; refine (i_within _ _ _ _).mono ?_; rintro e w' ⟨rfl, rfl⟩; rw [h1])
      | (go_at_call 55; refine i_isShare.mono ?_; rintro e w' ⟨rfl, rfl⟩; rw [h2])
      | (go_at_call 64; refine (i_IsFinite _ _).mono ?_; rintro e w' ⟨rfl, m1, rfl⟩; rw [h4])
      | (go_at_call 85; rw [HC.out]; refine (HP.out _).mono ?_; rintro e w' ⟨x, y, rfl, hx, m2, rfl⟩)
      | (go_at_call 60; refine (i_ifAll4 (by simp) (br_told (a := a) (c_told hx.out _) (g_told (c_told hx.out _) _ _) _ _ _ _ _ _ _ _) HF.out).mono ?_; rintro e w' ⟨rfl, ht, m3, rfl⟩))
    go_ret2
    exact ⟨BrR.no (by rw [HO.out, HF.out]), below_drewN ((below_drewN (Below.refl _ _) _).alloc (by simp) _) _⟩
set_option maxHeartbeats 2000000 in
theorem i_BearingRates {n : Int} {R a : Nat} {w : World} :
    Calls Try.prog 36 #[.int .i64 n, .float .f32 R, .float .f32 a] w fun e w' => BrR w.heap.size n R a e w' ∧ Below w.heap.size w w' := by
  cases h1 : inB n 1 32 with
  | false =>
    have HN : Hid (brO n R a = false) := hide (by unfold brO brIn; rw [h1]; rfl)
    go_enter Try.func36, Try.ntmps36
    go_wp2_with (first
      | (go_at_call 59; refine (i_within _ _ _ _).mono ?_; rintro e w' ⟨rfl, rfl⟩; rw [h1])
      | (go_at_call 55; refine i_isShare.mono ?_; rintro e w' ⟨rfl, rfl⟩; rw [h2])
      | (go_at_call 64; refine (i_IsFinite _ _).mono ?_; rintro e w' ⟨rfl, m1, rfl⟩; rw [h4]))
    go_ret2
    exact ⟨BrR.no HN.out, by first | exact Below.refl _ _ | exact below_drewN (Below.refl _ _) _⟩
  | true =>
    cases h2 : shB R with
    | false =>
      have HN : Hid (brO n R a = false) := hide (by unfold brO brIn; rw [h1, h2]; rfl)
      go_enter Try.func36, Try.ntmps36
      go_wp2_with (first
        | (go_at_call 59; refine (i_within _ _ _ _).mono ?_; rintro e w' ⟨rfl, rfl⟩; rw [h1])
        | (go_at_call 55; refine i_isShare.mono ?_; rintro e w' ⟨rfl, rfl⟩; rw [h2])
        | (go_at_call 64; refine (i_IsFinite _ _).mono ?_; rintro e w' ⟨rfl, m1, rfl⟩; rw [h4]))
      go_ret2
      exact ⟨BrR.no HN.out, by first | exact Below.refl _ _ | exact below_drewN (Below.refl _ _) _⟩
    | true =>
      have hz := sh_zero h2
      cases h3 : (FloatKind.f32.format.order R 0 == some .eq) with
      | true =>
        have HN : Hid (brO n R a = false) := hide (by unfold brO brIn; rw [h1, h2, hz, h3]; rfl)
        clear hz
        go_enter Try.func36, Try.ntmps36
        go_wp2_with (first
          | (go_at_call 59; refine (i_within _ _ _ _).mono ?_; rintro e w' ⟨rfl, rfl⟩; rw [h1])
          | (go_at_call 55; refine i_isShare.mono ?_; rintro e w' ⟨rfl, rfl⟩; rw [h2])
          | (go_at_call 64; refine (i_IsFinite _ _).mono ?_; rintro e w' ⟨rfl, m1, rfl⟩; rw [h4]))
        go_ret2
        exact ⟨BrR.no HN.out, by first | exact Below.refl _ _ | exact below_drewN (Below.refl _ _) _⟩
      | false =>
        rw [h3] at hz
        cases h4 : fin .f32 a with
        | false =>
          have HN : Hid (brO n R a = false) := hide (by unfold brO brIn; rw [h1, h2, hz, h4]; rfl)
          clear hz
          go_enter Try.func36, Try.ntmps36
          go_wp2_with (first
            | (go_at_call 59; refine (i_within _ _ _ _).mono ?_; rintro e w' ⟨rfl, rfl⟩; rw [h1])
            | (go_at_call 55; refine i_isShare.mono ?_; rintro e w' ⟨rfl, rfl⟩; rw [h2])
            | (go_at_call 64; refine (i_IsFinite _ _).mono ?_; rintro e w' ⟨rfl, m1, rfl⟩; rw [h4]))
          go_ret2
          exact ⟨BrR.no HN.out, by first | exact Below.refl _ _ | exact below_drewN (Below.refl _ _) _⟩
        | true => exact i_BearingRates_yes h1 h2 h3 hz h4
end Go.Proofs.Ytolbibpmngmpdaa

/-
  BearingRates: the reference's side; the law takes both.
-/
namespace Go.Proofs.Ytolbibpmngmpdaa
open Go.RowKit Mem Fl
set_option linter.unusedVariables false
set_option maxRecDepth 100000

theorem own3 {W : World} {g base : Nat} {t : TypeId} {a b c : Nat} (hg : g = W.heap.size) (hb : base ≤ g) {M : Nat} : ((W.alloc (.cells #[.float .f32 a, .float .f32 b, .float .f32 c] t)).drewN M).ownsRow base t 1 (.slice (some ⟨g, 0, none⟩) 3 3) 3 (fl .f32 [a, b, c]) :=
  own_drewN (own_of_blk (xs := fl .f32 [a, b, c]) (blk_new' W g t _ hg) hb rfl (by simp [maxLen])) M
theorem i_Br {n : Int} {R a : Nat} {w : World} :
    Calls Try.prog 36 #[.int .i64 n, .float .f32 R, .float .f32 a] w fun e w' => ∃ v zs, e = .returned (.tuple #[v, .bool (brO n R a)]) ∧ w'.ownsRow w.heap.size 27 1 v zs.length (fl .f32 zs) ∧ Hid (zs.map (cn .f32) = brR n R a) ∧ Below w.heap.size w w' :=
  i_BearingRates.mono fun e w' ⟨⟨v, zs, h1, h2, h3⟩, hb⟩ => ⟨v, zs, h1, h2, h3, hb⟩
end Go.Proofs.Ytolbibpmngmpdaa
