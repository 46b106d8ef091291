/-
  BearingRates: the reference's side; the law takes both.
-/
import Derived.Test.YthfdgffgihjglaaBrg
namespace Go.Proofs.Ythfdgffgihjglaa
open Go.RowKit Mem Fl
set_option linter.unusedVariables false
set_option maxRecDepth 100000

theorem own3 {W : World} {g base : Nat} {t : TypeId} {a b c : Nat} (hg : g = W.heap.size) (hb : base ≤ g) {M : Nat} : ((W.alloc (.cells #[.float .f32 a, .float .f32 b, .float .f32 c] t)).drewN M).ownsRow base t 1 (.slice (some ⟨g, 0, none⟩) 3 3) 3 (fl .f32 [a, b, c]) :=
  own_drewN (own_of_blk (xs := fl .f32 [a, b, c]) (blk_new' W g t _ hg) hb rfl (by simp [maxLen])) M
set_option maxHeartbeats 4000000 in
theorem s_BearingRates_yes {n : Int} {R a : Nat} {w : World} (h1 : inB n 1 32 = true) (h2 : shB R = true) (h3 : (FloatKind.f32.format.order R 0 == some .gt) = true) (h4 : fin .f32 a = true) :
    Calls Try.prog 27 #[.int .i64 n, .float .f32 R, .float .f32 a] w fun e w' => BrR w.heap.size n R a e w' ∧ Below w.heap.size w w' := by
  have HO : Hid (brO n R a = (brV n R a).all (fin .f32)) := hide (by unfold brO brIn; rw [h1, h2, h3, h4]; simp)
  have HC := hide (cvR_fin h4)
  have HP : ∀ W, _ := fun W => s_Ph (w := W) h4
  replace HP := hide HP
  have hin := inB_iff.1 h1
  go_enter Try.func27, Try.ntmps27
  go_wp2_with (first
    | (go_at_call 57; refine (s_l00In _ _ _ _).mono ?_; rintro e w' ⟨rfl, rfl⟩; rw [h1])
    | (go_at_call 56; refine s_l02Share.mono ?_; rintro e w' ⟨rfl, rfl⟩; rw [h2])
    | (go_at_call 76; refine (s_l01Finite _ _).mono ?_; rintro e w' ⟨rfl, m1, rfl⟩; rw [h4])
    | (go_at_call 77; rw [HC.out]; refine (HP.out _).mono ?_; rintro e w' ⟨x, y, rfl, hx, m2, rfl⟩)
    | (at_builtin; refine wpList_append1 rfl (.tmp 51) (.tmp 59) 29 rfl w.heap.size 23 (.float .f32 0) _ 4 info_f32 Try.underlying29 rfl rfl _ _ _ rfl (own3 (by simp) (Nat.le_refl _)) (by simp [Act.eval]) rfl (by omega) (by omega) (by simp) ?_; intro v' w' hown' hb'))
  obtain ⟨A4, c4, rfl⟩ := own_shape hown'
  obtain ⟨zs, hzs, hzl, hzt⟩ : ∃ zs : List Nat, w'.ownsRow w.heap.size 23 1 (.slice A4 (3 + 1) c4) (3 + 1) (fl .f32 zs) ∧ zs.length = 3 + 1 ∧ zs.map (cn .f32) = brV n R a := ⟨[_, _, _, _], hown', rfl, br_told (a := a) (c_told hx.out _) (g_told (c_told hx.out _) _ _) _ _ _ _ _ _ _ _⟩
  have bel : Below w.heap.size w w' := (below_drewN ((below_drewN (Below.refl _ _) _).alloc (by simp) _) _).trans hb'
  have HT := hide hzt
  have hfa := allfin_toldC hzt
  clear hown' hb' hzt hin
  cases hf : zs.all (fin .f32) with
  | true =>
    go_wp2_with (go_at_call 78; refine (s_l02Finite _ _ _ zs _ _ (Reads.of_own hzs) (by simp [maxLen])).mono ?_; rintro e w' ⟨rfl, m3, rfl⟩; rw [hf])
    go_ret2
    exact ⟨BrR.yes (by rw [HO.out, ← hfa, hf]) (by rw [hzl]; exact own_drewN hzs _) HT.out, below_drewN bel _⟩
  | false =>
    go_wp2_with (go_at_call 78; refine (s_l02Finite _ _ _ zs _ _ (Reads.of_own hzs) (by simp [maxLen])).mono ?_; rintro e w' ⟨rfl, m3, rfl⟩; rw [hf])
    go_ret2
    exact ⟨BrR.no (by rw [HO.out, ← hfa, hf]), below_drewN bel _⟩
set_option maxHeartbeats 2000000 in
theorem s_BearingRates {n : Int} {R a : Nat} {w : World} :
    Calls Try.prog 27 #[.int .i64 n, .float .f32 R, .float .f32 a] w fun e w' => BrR w.heap.size n R a e w' ∧ Below w.heap.size w w' := by
  cases h1 : inB n 1 32 with
  | false =>
    have HN : Hid (brO n R a = false) := hide (by unfold brO brIn; rw [h1]; rfl)
    go_enter Try.func27, Try.ntmps27
    go_wp2_with (first
      | (go_at_call 57; refine (s_l00In _ _ _ _).mono ?_; rintro e w' ⟨rfl, rfl⟩; rw [h1])
      | (go_at_call 56; refine s_l02Share.mono ?_; rintro e w' ⟨rfl, rfl⟩; rw [h2])
      | (go_at_call 76; refine (s_l01Finite _ _).mono ?_; rintro e w' ⟨rfl, m1, rfl⟩; rw [h4]))
    go_ret2
    exact ⟨BrR.no HN.out, by first | exact Below.refl _ _ | exact below_drewN (Below.refl _ _) _⟩
  | true =>
    cases h2 : shB R with
    | false =>
      have HN : Hid (brO n R a = false) := hide (by unfold brO brIn; rw [h1, h2]; rfl)
      go_enter Try.func27, Try.ntmps27
      go_wp2_with (first
        | (go_at_call 57; refine (s_l00In _ _ _ _).mono ?_; rintro e w' ⟨rfl, rfl⟩; rw [h1])
        | (go_at_call 56; refine s_l02Share.mono ?_; rintro e w' ⟨rfl, rfl⟩; rw [h2])
        | (go_at_call 76; refine (s_l01Finite _ _).mono ?_; rintro e w' ⟨rfl, m1, rfl⟩; rw [h4]))
      go_ret2
      exact ⟨BrR.no HN.out, by first | exact Below.refl _ _ | exact below_drewN (Below.refl _ _) _⟩
    | true =>
      cases h3 : (FloatKind.f32.format.order R 0 == some .gt) with
      | false =>
        have HN : Hid (brO n R a = false) := hide (by unfold brO brIn; rw [h1, h2, h3]; rfl)
        go_enter Try.func27, Try.ntmps27
        go_wp2_with (first
          | (go_at_call 57; refine (s_l00In _ _ _ _).mono ?_; rintro e w' ⟨rfl, rfl⟩; rw [h1])
          | (go_at_call 56; refine s_l02Share.mono ?_; rintro e w' ⟨rfl, rfl⟩; rw [h2])
          | (go_at_call 76; refine (s_l01Finite _ _).mono ?_; rintro e w' ⟨rfl, m1, rfl⟩; rw [h4]))
        go_ret2
        exact ⟨BrR.no HN.out, by first | exact Below.refl _ _ | exact below_drewN (Below.refl _ _) _⟩
      | true =>
        cases h4 : fin .f32 a with
        | false =>
          have HN : Hid (brO n R a = false) := hide (by unfold brO brIn; rw [h1, h2, h3, h4]; rfl)
          go_enter Try.func27, Try.ntmps27
          go_wp2_with (first
            | (go_at_call 57; refine (s_l00In _ _ _ _).mono ?_; rintro e w' ⟨rfl, rfl⟩; rw [h1])
            | (go_at_call 56; refine s_l02Share.mono ?_; rintro e w' ⟨rfl, rfl⟩; rw [h2])
            | (go_at_call 76; refine (s_l01Finite _ _).mono ?_; rintro e w' ⟨rfl, m1, rfl⟩; rw [h4]))
          go_ret2
          exact ⟨BrR.no HN.out, by first | exact Below.refl _ _ | exact below_drewN (Below.refl _ _) _⟩
        | true => exact s_BearingRates_yes h1 h2 h3 h4
theorem s_Br {n : Int} {R a : Nat} {w : World} :
    Calls Try.prog 27 #[.int .i64 n, .float .f32 R, .float .f32 a] w fun e w' => ∃ v zs, e = .returned (.tuple #[v, .bool (brO n R a)]) ∧ w'.ownsRow w.heap.size 23 1 v zs.length (fl .f32 zs) ∧ Hid (zs.map (cn .f32) = brR n R a) ∧ Below w.heap.size w w' :=
  s_BearingRates.mono fun e w' ⟨⟨v, zs, h1, h2, h3⟩, hb⟩ => ⟨v, zs, h1, h2, h3, hb⟩
theorem i_Br {n : Int} {R a : Nat} {w : World} :
    Calls Try.prog 28 #[.int .i64 n, .float .f32 R, .float .f32 a] w fun e w' => ∃ v zs, e = .returned (.tuple #[v, .bool (brO n R a)]) ∧ w'.ownsRow w.heap.size 23 1 v zs.length (fl .f32 zs) ∧ Hid (zs.map (cn .f32) = brR n R a) ∧ Below w.heap.size w w' :=
  i_BearingRates.mono fun e w' ⟨⟨v, zs, h1, h2, h3⟩, hb⟩ => ⟨v, zs, h1, h2, h3, hb⟩
end Go.Proofs.Ythfdgffgihjglaa
