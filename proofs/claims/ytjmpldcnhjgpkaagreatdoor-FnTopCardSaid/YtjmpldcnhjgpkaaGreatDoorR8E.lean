/-
  The desks that the law draws: the walk of drawn chains.
-/
import Derived.Test.YtjmpldcnhjgpkaaGreatDoorR8D
namespace Go.Proofs.YtjmpldcnhjgpkaaGreatDoor
open Go.RowKit Fl Mem
set_option linter.unusedVariables false
set_option maxRecDepth 100000
set_option maxHeartbeats 16000000 in
theorem r8_sides {A : Option Addr} {n c g q B m : Nat} {s : Int} {xs : List Int} {w : World} (hb : SrcAt w g A n c q s) (h : Reads w B 1 A n (xs.map (Value.int .u8))) (hB : B ≤ g) (hx : ∀ a ∈ xs, (Lit.int .u8 a).wf = true)
    (hn : n ≤ 1048576) (hq0 : q ≤ 1000) (h1 : 1 ≤ m) (h4 : m ≤ 4) :
    Calls Tryz.prog 102 #[.pointer (some ⟨g, 0, none⟩), .int .i64 (m : Int)] w fun e w' => ∃ (v : Value) (zs : List Nat) (q' : Nat) (s' : Int), e = .returned (.agg #[.int .i64 (m : Int), v]) ∧ w'.ownsRow w.heap.size 25 1 v (m * m) (fl .f32 zs) ∧ Hid (P8 m zs) ∧ q' ≤ q + 32 ∧ SrcAt w' g A n c q' s' ∧ w.grownBy w' (some g) := by
  have hgs := hb.lt
  have hrd : ∀ W, w.grownBy W (some g) → Reads W B 1 A n (xs.map (Value.int .u8)) := fun W hW => h.grown hW (by omega) (fun g' hg' => by injection hg' with hg'; omega)
  have HRd := hide hrd
  have HB0 := hide hb
  clear hrd hb h
  go_enter Tryz.func102, Tryz.ntmps102
  go_wp2
  go_loopw [6] (fun iv wr => ∃ (i q' : Nat) (s' : Int) (zs : List Nat) (v : Value), i ≤ m ∧ iv = .int .i64 (i : Int) ∧ Hid (zs.length = i * m) ∧ Hid (P8 m zs) ∧ Hid (q' ≤ q + 2 * (i * m)) ∧ Hid (SrcAt wr g A n c q' s') ∧ Hid (Blk wr (w.heap.size + 1) 30 #[.int .i64 (m : Int), v]) ∧ Hid (Blk wr w.heap.size 30 #[.int .i64 0, .slice none 0 0]) ∧ Hid (wr.ownsRow (w.heap.size + 2) 25 1 v (i * m) (fl .f32 zs)) ∧ Hid (w.grownBy wr (some g)) ∧ w.heap.size + 2 ≤ wr.heap.size) (fun i _ => m - (intOf i).toNat)
  case atStart =>
    exact ⟨0, q, s, [], .slice none 0 0, Nat.zero_le _, rfl, hide (by simp), hide (fun t x hx => by simp at hx), hide (by omega), hide ((HB0.out.alloc _).alloc _), hide (blk_new' _ _ _ _ (by simp)), hide ((Blk.new w _ _).alloc _), hide (by rw [Nat.zero_mul]; exact own_nil _ _ _ _), hide (only_alloc (only_alloc (World.grownBy.refl _ _) _) _), by simp⟩
  case round =>
    clear HB0
    obtain ⟨i, q', s', zs, v, hi, rfl, HL, HP, HQ, HS, HN, HZ, HO, HG, hz⟩ := hrel
    rename World => wr
    by_cases hlt : i < m
    · have hiI : (i : Int) < (m : Int) := by omega
      have him : i * m ≤ 12 := by have := Nat.mul_le_mul (show i ≤ 3 by omega) h4; omega
      have Him := hide him
      clear him
      go_wp2
      go_loopw [7] (fun kv wr => ∃ (k q' : Nat) (s' : Int) (zs : List Nat) (v : Value), k ≤ m ∧ kv = .int .i64 (k : Int) ∧ Hid (zs.length = i * m + k) ∧ Hid (P8 m zs) ∧ Hid (q' ≤ q + 2 * (i * m + k)) ∧ Hid (SrcAt wr g A n c q' s') ∧ Hid (Blk wr (w.heap.size + 1) 30 #[.int .i64 (m : Int), v]) ∧ Hid (Blk wr w.heap.size 30 #[.int .i64 0, .slice none 0 0]) ∧ Hid (wr.ownsRow (w.heap.size + 2) 25 1 v (i * m + k) (fl .f32 zs)) ∧ Hid (w.grownBy wr (some g)) ∧ w.heap.size + 2 ≤ wr.heap.size) (fun i _ => m - (intOf i).toNat)
      case atStart => exact ⟨0, q', s', zs, v, Nat.zero_le _, rfl, HL, HP, HQ, HS, HN, HZ, HO, HG, hz⟩
      case round =>
        clear HL HP HQ HS HN HZ HO HG hz
        obtain ⟨k, q', s', zs, v, hk, rfl, HL, HP, HQ, HS, HN, HZ, HO, HG, hz⟩ := hrel
        by_cases hlk : k < m
        · have hkI : (k : Int) < (m : Int) := by omega
          have hmI : ¬ (m : Int) = 0 := by omega
          have hmI2 : ((m : Int) == 0) = false := by simp; omega
          have hPk := hide (fun (W : World) (q1 : Nat) (s1 : Int) (hS : SrcAt W g A n c q1 s1) (hG : w.grownBy W (some g)) (hq : q1 ≤ 10000) => r8_pick (m := 8) hS (HRd.out _ hG) hB hx hn (by omega) (by decide) (by decide))
          have hOn := hide (r8_one (m := 3) HS.out (HRd.out _ HG.out) hB hx hn (by have := HQ.out; have := Him.out; omega) (by decide) (by decide))
          have e1 : ((i : Int) + 1) % (m : Int) = (((i + 1) % m : Nat) : Int) := by rw [Int.natCast_emod]; rfl
          by_cases hkm : k = (i + 1) % m
          · have hkmI : ((k : Int) == ((i : Int) + 1) % (m : Int)) = true := by rw [e1, hkm]; simp
            have Hkm := hide hkm
            clear e1 hkm
            by_cases hik : i = k
            · have hik' := hik.symm
              clear hik
              subst hik'
              have Hik : Hid (k = k) := hide rfl
              go_wp2_with fail
              refine (hPk.out _ q' s' HS.out HG.out (by have := HQ.out; have := Him.out; omega)).mono ?_
              rintro e w5 ⟨j, q5, s5, rfl, hj, hq5', hb5, hgw⟩
              have hj8 : j < 8 := by omega
              have t5 := r8r_tab j hj8
              have e5 : ∀ W, flR .quo .f32 (floatOfInt .f32 ((1 : Int) + (j : Int))) 1082130432 W = r8r j := flR_num t5.1
              have e5' : flN .quo .f32 (floatOfInt .f32 ((1 : Int) + (j : Int))) 1082130432 = 0 := flN_num t5.1
              have hx0 : r8r j ≠ 0 := by intro e; have := t5.2.2.2.2; rw [e] at this; revert this; have e9 : fv .f32 0 = 0 := by decide +kernel
                                         rw [e9]; have : (0 : Rat) < ((j + 1 : Nat) : Rat) := Rat.natCast_pos.2 (by omega)
                                         intro e8; grind
              clear t5
              have HN5 := hide (HN.out.grown hgw (by intro e; injection e with e; omega))
              have HZ5 := hide (HZ.out.grown hgw (by intro e; injection e with e; omega))
              have HO5 := hide (HO.out.kept hgw (own_far HO.out (by omega)))
              have hg5 := only_trans HG.out hgw
              have hz5 : w.heap.size + 2 ≤ w5.heap.size := Nat.le_trans hz (hgw).size
              have hq5 : Hid (q5 ≤ q' + 2) := hide (by omega)
              have HSn := hide (HP.out.snoc (x := 0) (by omega) hlk HL.out ⟨.inl rfl, fun _ => rfl, fun _ hne => absurd rfl hne⟩)
              clear hx0 hgw HN HZ HO HG HS hPk hOn
              have n1 : w5.cell? ⟨w.heap.size + 1, 1, none⟩ = some v := HN5.out.cell 1
              go_wp2_with (at_builtin; go_loud (refine wpList_append1 rfl (.tmp 40) (.tmp 42) 28 rfl (w.heap.size + 2) 25 (.float .f32 0) _ 4 info_f32 Tryz.underlying28 rfl rfl _ _ _ rfl HO5.out rfl rfl (by have := Him.out; omega) (by omega) hz5 ?_); intro v' w' hown' hb'; obtain ⟨Av, cv, rfl⟩ := own_shape hown'; have HN6 := hide (HN5.out.below hb' (by omega)); have n2 : w'.cell? ⟨w.heap.size + 1, 1, none⟩ = some v := HN6.out.cell 1; have nf2 : w'.frozen? ⟨w.heap.size + 1, 1, none⟩ = false := HN6.out.frozen 1)
              have HZ6 := hide ((HZ5.out.below hb' (by omega)).far (p := ⟨w.heap.size + 1, 1, none⟩) (by simp) (.slice Av (k * m + k + 1) cv))
              have HS6 : Hid (SrcAt (w'.setCell ⟨w.heap.size + 1, 1, none⟩ (.slice Av (k * m + k + 1) cv)) g A n c q5 s5) := hide ((Blk.below hb5 hb' (by omega)).far (by show g ≠ w.heap.size + 1; omega) _)
              have HG6 : Hid (w.grownBy (w'.setCell ⟨w.heap.size + 1, 1, none⟩ (.slice Av (k * m + k + 1) cv)) (some g)) := hide (only_setCell (only_below hg5 hb' (by omega)) (.inr (by show w.heap.size ≤ w.heap.size + 1; omega)) _)
              have HO6 := hide (own_put (p := ⟨w.heap.size + 1, 1, none⟩) (snoc_fl hown') (by show w.heap.size + 1 < _; omega) (.slice Av (k * m + k + 1) cv))
              have HN7 := hide (HN6.out.set_ 1 (.slice Av (k * m + k + 1) cv))
              have hz6 : w.heap.size + 2 ≤ (w'.setCell ⟨w.heap.size + 1, 1, none⟩ (.slice Av (k * m + k + 1) cv)).heap.size := by rw [World.size_setCell]; exact Nat.le_trans hz5 hb'.size
              have HQ6 : Hid (q5 ≤ q + 2 * (k * m + (k + 1))) := hide (by have := HQ.out; have := hq5.out; omega)
              have HL6 : Hid ((zs ++ [0]).length = k * m + (k + 1)) := hide (by rw [List.length_append, HL.out]; rfl)
              clear HN5 HO5 HZ5 hb5 hg5 hown' hb' HN6 n1 n2 nf2 HL HQ hq5
              go_wp2
              go_roundw
              case rel => exact ⟨k + 1, q5, s5, zs ++ [0], (.slice Av (k * m + k + 1) cv), by omega, by go_num, HL6, HSn, HQ6, HS6, HN7, HZ6, HO6, HG6, hz6⟩
              case measure => simp [intOf]; omega
            · have hikI : ((i : Int) == (k : Int)) = false := by simp; omega
              have Hik := hide hik
              clear hik
              go_wp2_with fail
              refine (hPk.out _ q' s' HS.out HG.out (by have := HQ.out; have := Him.out; omega)).mono ?_
              rintro e w5 ⟨j, q5, s5, rfl, hj, hq5', hb5, hgw⟩
              have hj8 : j < 8 := by omega
              have t5 := r8r_tab j hj8
              have e5 : ∀ W, flR .quo .f32 (floatOfInt .f32 ((1 : Int) + (j : Int))) 1082130432 W = r8r j := flR_num t5.1
              have e5' : flN .quo .f32 (floatOfInt .f32 ((1 : Int) + (j : Int))) 1082130432 = 0 := flN_num t5.1
              have hx0 : r8r j ≠ 0 := by intro e; have := t5.2.2.2.2; rw [e] at this; revert this; have e9 : fv .f32 0 = 0 := by decide +kernel
                                         rw [e9]; have : (0 : Rat) < ((j + 1 : Nat) : Rat) := Rat.natCast_pos.2 (by omega)
                                         intro e8; grind
              clear t5
              have HN5 := hide (HN.out.grown hgw (by intro e; injection e with e; omega))
              have HZ5 := hide (HZ.out.grown hgw (by intro e; injection e with e; omega))
              have HO5 := hide (HO.out.kept hgw (own_far HO.out (by omega)))
              have hg5 := only_trans HG.out hgw
              have hz5 : w.heap.size + 2 ≤ w5.heap.size := Nat.le_trans hz (hgw).size
              have hq5 : Hid (q5 ≤ q' + 2) := hide (by omega)
              have HSn := hide (HP.out.snoc (x := r8r j) (by omega) hlk HL.out ⟨.inr ⟨j, hj8, rfl⟩, fun e => absurd e Hik.out, fun _ _ => hx0⟩)
              clear hx0 hgw HN HZ HO HG HS hPk hOn
              have n1 : w5.cell? ⟨w.heap.size + 1, 1, none⟩ = some v := HN5.out.cell 1
              go_wp2_with (at_builtin; go_loud (refine wpList_append1 rfl (.tmp 40) (.tmp 42) 28 rfl (w.heap.size + 2) 25 (.float .f32 0) _ 4 info_f32 Tryz.underlying28 rfl rfl _ _ _ rfl HO5.out rfl rfl (by have := Him.out; omega) (by omega) hz5 ?_); intro v' w' hown' hb'; obtain ⟨Av, cv, rfl⟩ := own_shape hown'; have HN6 := hide (HN5.out.below hb' (by omega)); have n2 : w'.cell? ⟨w.heap.size + 1, 1, none⟩ = some v := HN6.out.cell 1; have nf2 : w'.frozen? ⟨w.heap.size + 1, 1, none⟩ = false := HN6.out.frozen 1)
              have HZ6 := hide ((HZ5.out.below hb' (by omega)).far (p := ⟨w.heap.size + 1, 1, none⟩) (by simp) (.slice Av (i * m + k + 1) cv))
              have HS6 : Hid (SrcAt (w'.setCell ⟨w.heap.size + 1, 1, none⟩ (.slice Av (i * m + k + 1) cv)) g A n c q5 s5) := hide ((Blk.below hb5 hb' (by omega)).far (by show g ≠ w.heap.size + 1; omega) _)
              have HG6 : Hid (w.grownBy (w'.setCell ⟨w.heap.size + 1, 1, none⟩ (.slice Av (i * m + k + 1) cv)) (some g)) := hide (only_setCell (only_below hg5 hb' (by omega)) (.inr (by show w.heap.size ≤ w.heap.size + 1; omega)) _)
              have HO6 := hide (own_put (p := ⟨w.heap.size + 1, 1, none⟩) (snoc_fl hown') (by show w.heap.size + 1 < _; omega) (.slice Av (i * m + k + 1) cv))
              have HN7 := hide (HN6.out.set_ 1 (.slice Av (i * m + k + 1) cv))
              have hz6 : w.heap.size + 2 ≤ (w'.setCell ⟨w.heap.size + 1, 1, none⟩ (.slice Av (i * m + k + 1) cv)).heap.size := by rw [World.size_setCell]; exact Nat.le_trans hz5 hb'.size
              have HQ6 : Hid (q5 ≤ q + 2 * (i * m + (k + 1))) := hide (by have := HQ.out; have := hq5.out; omega)
              have HL6 : Hid ((zs ++ [r8r j]).length = i * m + (k + 1)) := hide (by rw [List.length_append, HL.out]; rfl)
              clear HN5 HO5 HZ5 hb5 hg5 hown' hb' HN6 n1 n2 nf2 HL HQ hq5
              go_wp2
              go_roundw
              case rel => exact ⟨k + 1, q5, s5, zs ++ [r8r j], (.slice Av (i * m + k + 1) cv), by omega, by go_num, HL6, HSn, HQ6, HS6, HN7, HZ6, HO6, HG6, hz6⟩
              case measure => simp [intOf]; omega
          · have hkmI : ((k : Int) == ((i : Int) + 1) % (m : Int)) = false := by rw [e1]; simp only [beq_eq_false_iff_ne, ne_eq]; omega
            have Hkm := hide hkm
            clear e1 hkm
            by_cases hik : i = k
            · have hik' := hik.symm
              clear hik
              subst hik'
              have Hik : Hid (k = k) := hide rfl
              go_wp2_with fail
              refine hOn.out.mono ?_
              rintro e w4 ⟨b, q4, s4, rfl, hq4, hb4, hgv⟩
              have HN5 := hide (HN.out.grown hgv (by intro e; injection e with e; omega))
              have HZ5 := hide (HZ.out.grown hgv (by intro e; injection e with e; omega))
              have HO5 := hide (HO.out.kept hgv (own_far HO.out (by omega)))
              have hg5 := only_trans HG.out hgv
              have hz5 : w.heap.size + 2 ≤ w4.heap.size := Nat.le_trans hz (hgv).size
              cases b
              · obtain ⟨w5, hw5⟩ : ∃ w5, w5 = w4 := ⟨_, rfl⟩
                subst hw5
                obtain ⟨q5, hq5e⟩ : ∃ q5, q5 = q4 := ⟨_, rfl⟩
                subst hq5e
                obtain ⟨s5, hs5e⟩ : ∃ s5, s5 = s4 := ⟨_, rfl⟩
                subst hs5e
                have hb5 := hb4
                have hq5 : Hid (q5 ≤ q' + 2) := hide (by omega)
                have HSn := hide (HP.out.snoc (x := 0) (by omega) hlk HL.out ⟨.inl rfl, fun _ => rfl, fun e _ => absurd e Hkm.out⟩)
                clear hb4 hgv HN HZ HO HG HS hPk hOn
                have n1 : w5.cell? ⟨w.heap.size + 1, 1, none⟩ = some v := HN5.out.cell 1
                go_wp2_with (at_builtin; go_loud (refine wpList_append1 rfl (.tmp 40) (.tmp 42) 28 rfl (w.heap.size + 2) 25 (.float .f32 0) _ 4 info_f32 Tryz.underlying28 rfl rfl _ _ _ rfl HO5.out rfl rfl (by have := Him.out; omega) (by omega) hz5 ?_); intro v' w' hown' hb'; obtain ⟨Av, cv, rfl⟩ := own_shape hown'; have HN6 := hide (HN5.out.below hb' (by omega)); have n2 : w'.cell? ⟨w.heap.size + 1, 1, none⟩ = some v := HN6.out.cell 1; have nf2 : w'.frozen? ⟨w.heap.size + 1, 1, none⟩ = false := HN6.out.frozen 1)
                have HZ6 := hide ((HZ5.out.below hb' (by omega)).far (p := ⟨w.heap.size + 1, 1, none⟩) (by simp) (.slice Av (k * m + k + 1) cv))
                have HS6 : Hid (SrcAt (w'.setCell ⟨w.heap.size + 1, 1, none⟩ (.slice Av (k * m + k + 1) cv)) g A n c q5 s5) := hide ((Blk.below hb5 hb' (by omega)).far (by show g ≠ w.heap.size + 1; omega) _)
                have HG6 : Hid (w.grownBy (w'.setCell ⟨w.heap.size + 1, 1, none⟩ (.slice Av (k * m + k + 1) cv)) (some g)) := hide (only_setCell (only_below hg5 hb' (by omega)) (.inr (by show w.heap.size ≤ w.heap.size + 1; omega)) _)
                have HO6 := hide (own_put (p := ⟨w.heap.size + 1, 1, none⟩) (snoc_fl hown') (by show w.heap.size + 1 < _; omega) (.slice Av (k * m + k + 1) cv))
                have HN7 := hide (HN6.out.set_ 1 (.slice Av (k * m + k + 1) cv))
                have hz6 : w.heap.size + 2 ≤ (w'.setCell ⟨w.heap.size + 1, 1, none⟩ (.slice Av (k * m + k + 1) cv)).heap.size := by rw [World.size_setCell]; exact Nat.le_trans hz5 hb'.size
                have HQ6 : Hid (q5 ≤ q + 2 * (k * m + (k + 1))) := hide (by have := HQ.out; have := hq5.out; omega)
                have HL6 : Hid ((zs ++ [0]).length = k * m + (k + 1)) := hide (by rw [List.length_append, HL.out]; rfl)
                clear HN5 HO5 HZ5 hb5 hg5 hown' hb' HN6 n1 n2 nf2 HL HQ hq5
                go_wp2
                go_roundw
                case rel => exact ⟨k + 1, q5, s5, zs ++ [0], (.slice Av (k * m + k + 1) cv), by omega, by go_num, HL6, HSn, HQ6, HS6, HN7, HZ6, HO6, HG6, hz6⟩
                case measure => simp [intOf]; omega
              · have hq04 := hq4
                replace HN := HN5
                replace HZ := HZ5
                replace HO := HO5
                replace HG := hide hg5
                replace hz := hz5
                clear HN5 HZ5 HO5 hg5 hz5
                go_wp2_with fail
                refine (hPk.out _ q4 s4 hb4 HG.out (by have := HQ.out; have := Him.out; omega)).mono ?_
                rintro e w5 ⟨j, q5, s5, rfl, hj, hq5', hb5, hgw⟩
                have hj8 : j < 8 := by omega
                have t5 := r8r_tab j hj8
                have e5 : ∀ W, flR .quo .f32 (floatOfInt .f32 ((1 : Int) + (j : Int))) 1082130432 W = r8r j := flR_num t5.1
                have e5' : flN .quo .f32 (floatOfInt .f32 ((1 : Int) + (j : Int))) 1082130432 = 0 := flN_num t5.1
                have hx0 : r8r j ≠ 0 := by intro e; have := t5.2.2.2.2; rw [e] at this; revert this; have e9 : fv .f32 0 = 0 := by decide +kernel
                                           rw [e9]; have : (0 : Rat) < ((j + 1 : Nat) : Rat) := Rat.natCast_pos.2 (by omega)
                                           intro e8; grind
                clear t5
                have HN5 := hide (HN.out.grown hgw (by intro e; injection e with e; omega))
                have HZ5 := hide (HZ.out.grown hgw (by intro e; injection e with e; omega))
                have HO5 := hide (HO.out.kept hgw (own_far HO.out (by omega)))
                have hg5 := only_trans HG.out hgw
                have hz5 : w.heap.size + 2 ≤ w5.heap.size := Nat.le_trans hz (hgw).size
                have hq5 : Hid (q5 ≤ q' + 2) := hide (by omega)
                have HSn := hide (HP.out.snoc (x := 0) (by omega) hlk HL.out ⟨.inl rfl, fun _ => rfl, fun e _ => absurd e Hkm.out⟩)
                clear hx0 hgw hgv HN HZ HO HG HS hPk hOn hb4
                have n1 : w5.cell? ⟨w.heap.size + 1, 1, none⟩ = some v := HN5.out.cell 1
                go_wp2_with (at_builtin; go_loud (refine wpList_append1 rfl (.tmp 40) (.tmp 42) 28 rfl (w.heap.size + 2) 25 (.float .f32 0) _ 4 info_f32 Tryz.underlying28 rfl rfl _ _ _ rfl HO5.out rfl rfl (by have := Him.out; omega) (by omega) hz5 ?_); intro v' w' hown' hb'; obtain ⟨Av, cv, rfl⟩ := own_shape hown'; have HN6 := hide (HN5.out.below hb' (by omega)); have n2 : w'.cell? ⟨w.heap.size + 1, 1, none⟩ = some v := HN6.out.cell 1; have nf2 : w'.frozen? ⟨w.heap.size + 1, 1, none⟩ = false := HN6.out.frozen 1)
                have HZ6 := hide ((HZ5.out.below hb' (by omega)).far (p := ⟨w.heap.size + 1, 1, none⟩) (by simp) (.slice Av (k * m + k + 1) cv))
                have HS6 : Hid (SrcAt (w'.setCell ⟨w.heap.size + 1, 1, none⟩ (.slice Av (k * m + k + 1) cv)) g A n c q5 s5) := hide ((Blk.below hb5 hb' (by omega)).far (by show g ≠ w.heap.size + 1; omega) _)
                have HG6 : Hid (w.grownBy (w'.setCell ⟨w.heap.size + 1, 1, none⟩ (.slice Av (k * m + k + 1) cv)) (some g)) := hide (only_setCell (only_below hg5 hb' (by omega)) (.inr (by show w.heap.size ≤ w.heap.size + 1; omega)) _)
                have HO6 := hide (own_put (p := ⟨w.heap.size + 1, 1, none⟩) (snoc_fl hown') (by show w.heap.size + 1 < _; omega) (.slice Av (k * m + k + 1) cv))
                have HN7 := hide (HN6.out.set_ 1 (.slice Av (k * m + k + 1) cv))
                have hz6 : w.heap.size + 2 ≤ (w'.setCell ⟨w.heap.size + 1, 1, none⟩ (.slice Av (k * m + k + 1) cv)).heap.size := by rw [World.size_setCell]; exact Nat.le_trans hz5 hb'.size
                have HQ6 : Hid (q5 ≤ q + 2 * (k * m + (k + 1))) := hide (by have := HQ.out; have := hq5.out; omega)
                have HL6 : Hid ((zs ++ [0]).length = k * m + (k + 1)) := hide (by rw [List.length_append, HL.out]; rfl)
                clear HN5 HO5 HZ5 hb5 hg5 hown' hb' HN6 n1 n2 nf2 HL HQ hq5
                go_wp2
                go_roundw
                case rel => exact ⟨k + 1, q5, s5, zs ++ [0], (.slice Av (k * m + k + 1) cv), by omega, by go_num, HL6, HSn, HQ6, HS6, HN7, HZ6, HO6, HG6, hz6⟩
                case measure => simp [intOf]; omega
            · have hikI : ((i : Int) == (k : Int)) = false := by simp; omega
              have Hik := hide hik
              clear hik
              go_wp2_with fail
              refine hOn.out.mono ?_
              rintro e w4 ⟨b, q4, s4, rfl, hq4, hb4, hgv⟩
              have HN5 := hide (HN.out.grown hgv (by intro e; injection e with e; omega))
              have HZ5 := hide (HZ.out.grown hgv (by intro e; injection e with e; omega))
              have HO5 := hide (HO.out.kept hgv (own_far HO.out (by omega)))
              have hg5 := only_trans HG.out hgv
              have hz5 : w.heap.size + 2 ≤ w4.heap.size := Nat.le_trans hz (hgv).size
              cases b
              · obtain ⟨w5, hw5⟩ : ∃ w5, w5 = w4 := ⟨_, rfl⟩
                subst hw5
                obtain ⟨q5, hq5e⟩ : ∃ q5, q5 = q4 := ⟨_, rfl⟩
                subst hq5e
                obtain ⟨s5, hs5e⟩ : ∃ s5, s5 = s4 := ⟨_, rfl⟩
                subst hs5e
                have hb5 := hb4
                have hq5 : Hid (q5 ≤ q' + 2) := hide (by omega)
                have HSn := hide (HP.out.snoc (x := 0) (by omega) hlk HL.out ⟨.inl rfl, fun _ => rfl, fun e _ => absurd e Hkm.out⟩)
                clear hb4 hgv HN HZ HO HG HS hPk hOn
                have n1 : w5.cell? ⟨w.heap.size + 1, 1, none⟩ = some v := HN5.out.cell 1
                go_wp2_with (at_builtin; go_loud (refine wpList_append1 rfl (.tmp 40) (.tmp 42) 28 rfl (w.heap.size + 2) 25 (.float .f32 0) _ 4 info_f32 Tryz.underlying28 rfl rfl _ _ _ rfl HO5.out rfl rfl (by have := Him.out; omega) (by omega) hz5 ?_); intro v' w' hown' hb'; obtain ⟨Av, cv, rfl⟩ := own_shape hown'; have HN6 := hide (HN5.out.below hb' (by omega)); have n2 : w'.cell? ⟨w.heap.size + 1, 1, none⟩ = some v := HN6.out.cell 1; have nf2 : w'.frozen? ⟨w.heap.size + 1, 1, none⟩ = false := HN6.out.frozen 1)
                have HZ6 := hide ((HZ5.out.below hb' (by omega)).far (p := ⟨w.heap.size + 1, 1, none⟩) (by simp) (.slice Av (i * m + k + 1) cv))
                have HS6 : Hid (SrcAt (w'.setCell ⟨w.heap.size + 1, 1, none⟩ (.slice Av (i * m + k + 1) cv)) g A n c q5 s5) := hide ((Blk.below hb5 hb' (by omega)).far (by show g ≠ w.heap.size + 1; omega) _)
                have HG6 : Hid (w.grownBy (w'.setCell ⟨w.heap.size + 1, 1, none⟩ (.slice Av (i * m + k + 1) cv)) (some g)) := hide (only_setCell (only_below hg5 hb' (by omega)) (.inr (by show w.heap.size ≤ w.heap.size + 1; omega)) _)
                have HO6 := hide (own_put (p := ⟨w.heap.size + 1, 1, none⟩) (snoc_fl hown') (by show w.heap.size + 1 < _; omega) (.slice Av (i * m + k + 1) cv))
                have HN7 := hide (HN6.out.set_ 1 (.slice Av (i * m + k + 1) cv))
                have hz6 : w.heap.size + 2 ≤ (w'.setCell ⟨w.heap.size + 1, 1, none⟩ (.slice Av (i * m + k + 1) cv)).heap.size := by rw [World.size_setCell]; exact Nat.le_trans hz5 hb'.size
                have HQ6 : Hid (q5 ≤ q + 2 * (i * m + (k + 1))) := hide (by have := HQ.out; have := hq5.out; omega)
                have HL6 : Hid ((zs ++ [0]).length = i * m + (k + 1)) := hide (by rw [List.length_append, HL.out]; rfl)
                clear HN5 HO5 HZ5 hb5 hg5 hown' hb' HN6 n1 n2 nf2 HL HQ hq5
                go_wp2
                go_roundw
                case rel => exact ⟨k + 1, q5, s5, zs ++ [0], (.slice Av (i * m + k + 1) cv), by omega, by go_num, HL6, HSn, HQ6, HS6, HN7, HZ6, HO6, HG6, hz6⟩
                case measure => simp [intOf]; omega
              · have hq04 := hq4
                replace HN := HN5
                replace HZ := HZ5
                replace HO := HO5
                replace HG := hide hg5
                replace hz := hz5
                clear HN5 HZ5 HO5 hg5 hz5
                go_wp2_with fail
                refine (hPk.out _ q4 s4 hb4 HG.out (by have := HQ.out; have := Him.out; omega)).mono ?_
                rintro e w5 ⟨j, q5, s5, rfl, hj, hq5', hb5, hgw⟩
                have hj8 : j < 8 := by omega
                have t5 := r8r_tab j hj8
                have e5 : ∀ W, flR .quo .f32 (floatOfInt .f32 ((1 : Int) + (j : Int))) 1082130432 W = r8r j := flR_num t5.1
                have e5' : flN .quo .f32 (floatOfInt .f32 ((1 : Int) + (j : Int))) 1082130432 = 0 := flN_num t5.1
                have hx0 : r8r j ≠ 0 := by intro e; have := t5.2.2.2.2; rw [e] at this; revert this; have e9 : fv .f32 0 = 0 := by decide +kernel
                                           rw [e9]; have : (0 : Rat) < ((j + 1 : Nat) : Rat) := Rat.natCast_pos.2 (by omega)
                                           intro e8; grind
                clear t5
                have HN5 := hide (HN.out.grown hgw (by intro e; injection e with e; omega))
                have HZ5 := hide (HZ.out.grown hgw (by intro e; injection e with e; omega))
                have HO5 := hide (HO.out.kept hgw (own_far HO.out (by omega)))
                have hg5 := only_trans HG.out hgw
                have hz5 : w.heap.size + 2 ≤ w5.heap.size := Nat.le_trans hz (hgw).size
                have hq5 : Hid (q5 ≤ q' + 2) := hide (by omega)
                have HSn := hide (HP.out.snoc (x := r8r j) (by omega) hlk HL.out ⟨.inr ⟨j, hj8, rfl⟩, fun e => absurd e Hik.out, fun e _ => absurd e Hkm.out⟩)
                clear hx0 hgw hgv HN HZ HO HG HS hPk hOn hb4
                have n1 : w5.cell? ⟨w.heap.size + 1, 1, none⟩ = some v := HN5.out.cell 1
                go_wp2_with (at_builtin; go_loud (refine wpList_append1 rfl (.tmp 40) (.tmp 42) 28 rfl (w.heap.size + 2) 25 (.float .f32 0) _ 4 info_f32 Tryz.underlying28 rfl rfl _ _ _ rfl HO5.out rfl rfl (by have := Him.out; omega) (by omega) hz5 ?_); intro v' w' hown' hb'; obtain ⟨Av, cv, rfl⟩ := own_shape hown'; have HN6 := hide (HN5.out.below hb' (by omega)); have n2 : w'.cell? ⟨w.heap.size + 1, 1, none⟩ = some v := HN6.out.cell 1; have nf2 : w'.frozen? ⟨w.heap.size + 1, 1, none⟩ = false := HN6.out.frozen 1)
                have HZ6 := hide ((HZ5.out.below hb' (by omega)).far (p := ⟨w.heap.size + 1, 1, none⟩) (by simp) (.slice Av (i * m + k + 1) cv))
                have HS6 : Hid (SrcAt (w'.setCell ⟨w.heap.size + 1, 1, none⟩ (.slice Av (i * m + k + 1) cv)) g A n c q5 s5) := hide ((Blk.below hb5 hb' (by omega)).far (by show g ≠ w.heap.size + 1; omega) _)
                have HG6 : Hid (w.grownBy (w'.setCell ⟨w.heap.size + 1, 1, none⟩ (.slice Av (i * m + k + 1) cv)) (some g)) := hide (only_setCell (only_below hg5 hb' (by omega)) (.inr (by show w.heap.size ≤ w.heap.size + 1; omega)) _)
                have HO6 := hide (own_put (p := ⟨w.heap.size + 1, 1, none⟩) (snoc_fl hown') (by show w.heap.size + 1 < _; omega) (.slice Av (i * m + k + 1) cv))
                have HN7 := hide (HN6.out.set_ 1 (.slice Av (i * m + k + 1) cv))
                have hz6 : w.heap.size + 2 ≤ (w'.setCell ⟨w.heap.size + 1, 1, none⟩ (.slice Av (i * m + k + 1) cv)).heap.size := by rw [World.size_setCell]; exact Nat.le_trans hz5 hb'.size
                have HQ6 : Hid (q5 ≤ q + 2 * (i * m + (k + 1))) := hide (by have := HQ.out; have := hq5.out; omega)
                have HL6 : Hid ((zs ++ [r8r j]).length = i * m + (k + 1)) := hide (by rw [List.length_append, HL.out]; rfl)
                clear HN5 HO5 HZ5 hb5 hg5 hown' hb' HN6 n1 n2 nf2 HL HQ hq5
                go_wp2
                go_roundw
                case rel => exact ⟨k + 1, q5, s5, zs ++ [r8r j], (.slice Av (i * m + k + 1) cv), by omega, by go_num, HL6, HSn, HQ6, HS6, HN7, HZ6, HO6, HG6, hz6⟩
                case measure => simp [intOf]; omega
        · obtain rfl : k = m := by omega
          go_wp2
          go_roundw
          case rel => exact ⟨i + 1, q', s', zs, v, by omega, by go_num, hide (by rw [HL.out, Nat.succ_mul]), HP, hide (by rw [Nat.add_mul i 1 k, Nat.one_mul]; exact HQ.out), HS, HN, HZ, hide (by rw [Nat.succ_mul]; exact HO.out), HG, hz⟩
          case measure => simp [intOf]; omega
    · obtain rfl : i = m := by omega
      have c0 : wr.cell? ⟨w.heap.size + 1, 0, none⟩ = some (.int .i64 (i : Int)) := HN.out.cell 0
      have c1 : wr.cell? ⟨w.heap.size + 1, 1, none⟩ = some v := HN.out.cell 1
      have d0 : wr.cell? ⟨w.heap.size, 0, none⟩ = some (.int .i64 0) := HZ.out.cell 0
      have d1 : wr.cell? ⟨w.heap.size, 1, none⟩ = some (.slice none 0 0) := HZ.out.cell 1
      have f0 : wr.frozen? ⟨w.heap.size, 0, none⟩ = false := HZ.out.frozen 0
      have f1 : wr.frozen? ⟨w.heap.size, 1, none⟩ = false := HZ.out.frozen 1
      have hii : i * i ≤ 16 := Nat.mul_le_mul h4 h4
      have Hii := hide hii
      obtain ⟨Av, cv, rfl⟩ := own_shape HO.out
      clear hii
      go_wp2
      refine bodyPost_ret (results_cell_row (P := Tryz.prog) rfl _ _ w.heap.size 30 #[.int .i64 (i : Int), .slice Av (i * i) cv] (0, 0) _ rfl ((HZ.out.set_ 0 _).set_ 1 _) Tryz.underlying30 rfl (by kernel_rfl)) rfl ?_
      refine ⟨_, zs, q', s', rfl, own_up (own_put (own_put HO.out (by show w.heap.size < _; omega) _) (by show w.heap.size < _; omega) _) (by omega), HP, by have := HQ.out; have := Hii.out; omega, ?_, ?_⟩
      · exact (HS.out.far (p := ⟨w.heap.size, 0, none⟩) (by show g ≠ w.heap.size; omega) _).far (p := ⟨w.heap.size, 1, none⟩) (by show g ≠ w.heap.size; omega) _
      · exact only_setCell (only_setCell HG.out (.inr (Nat.le_refl _)) _) (.inr (Nat.le_refl _)) _
end Go.Proofs.YtjmpldcnhjgpkaaGreatDoor
