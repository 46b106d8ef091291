/-
  The law FnAlarms returns true for all arguments, and writes nothing that was there.
-/
import Derived.Test.YtkjiefpnfkampaaSrc
import Derived.Test.YtkjiefpnfkampaaAlarm
import Derived.Test.YtkjiefpnfkampaaAlarm2
import Derived.Test.YtkjiefpnfkampaaAlarm3
import Derived.Test.YtkjiefpnfkampaaMark
import Derived.BigQuiet
import Derived.Deep.QuietTactic
namespace Go.Proofs.Ytkjiefpnfkampaa
open Go.RowKit Fl Mem
set_option linter.unusedVariables false
set_option maxRecDepth 100000

/-- The bars: quarters from -2 to 2; what is one above and one below. -/
def bF (j : Nat) : Nat := fb .quo .f32 (floatOfInt .f32 ((j : Int) - 8)) 1082130432
def bHi (j : Nat) : Nat := fb .add .f32 (bF j) 1065353216
def bLo (j : Nat) : Nat := fb .sub .f32 (bF j) 1065353216
theorem bar_num : ∀ j : Nat, j < 17 → isNan .f32 (bF j) = false ∧ isNan .f32 (bHi j) = false ∧ isNan .f32 (bLo j) = false ∧ fin .f32 (bF j) = true ∧ fin .f32 (bHi j) = true ∧ fin .f32 (bLo j) = true ∧ gtB (bLo j) (bF j) = false := by decide +kernel
theorem bar_q : ∀ k : Nat, k < 33 → ∀ j : Nat, j < 17 → (gtB (qF k) (bHi j) = true → gtB (qF k) (bF j) = true) ∧ (gtB (qF k) (bF j) = true → ltB (qF k) (bLo j) = false) := by decide +kernel
theorem q16 : qF 16 = 0 := by decide +kernel

theorem of_getD {xs : List Nat} (h : Of qF 33 xs) (i : Nat) : ∃ k, k < 33 ∧ xs.getD i 0 = qF k := by
  rw [List.getD_eq_getElem?_getD]
  cases hx : xs[i]? with
  | none => exact ⟨16, by omega, q16.symm⟩
  | some x => exact h x (List.mem_of_getElem? hx)
theorem of_fin {xs : List Nat} (h : Of qF 33 xs) : xs.all (fin .f32) = true := by
  rw [List.all_eq_true]
  intro x hx
  obtain ⟨k, hk, rfl⟩ := h x hx
  exact (qF_num k hk).2
theorem alarm_mono {xs : List Nat} (h : Of qF 33 xs) {j d at_ : Nat} (hj : j < 17) (ha : alarmB xs (bHi j) d at_ = true) : alarmB xs (bF j) d at_ = true := by
  unfold alarmB at ha ⊢
  simp only [Bool.and_eq_true, decide_eq_true_eq, List.all_eq_true, List.mem_range] at ha ⊢
  refine ⟨ha.1, fun k hk => ?_⟩
  obtain ⟨q, hq, e⟩ := of_getD h (at_ - d + k)
  have := ha.2 k hk
  rw [e] at this ⊢
  exact (bar_q q hq j hj).1 this
theorem alarms_le {xs : List Nat} (h : Of qF 33 xs) {j d : Nat} (hj : j < 17) : (alarmsL xs (bHi j) d).length ≤ (alarmsL xs (bF j) d).length := by
  unfold alarmsL
  rw [← List.countP_eq_length_filter, ← List.countP_eq_length_filter]
  exact List.countP_mono_left fun x _ hx => alarm_mono h hj hx

theorem l_b10Long_no {A A' : Option Addr} {n n' c c' : Nat} {w : World} (h : n ≤ 1048576) (h' : n' ≤ 1048576) : Calls Try.prog 24 #[.slice A n c, .slice A' n' c'] w fun e w' => e = .returned (.bool false) ∧ w = w' := by
  have h1 : ¬ (1048576 : Int) < (n : Int) := by omega
  have h2 : decide ((1048576 : Int) < (n : Int)) = false := by simpa using h1
  have h3 : decide ((1048576 : Int) < (n' : Int)) = false := by simp; omega
  clear h h' h1
  go_enter Try.func24, Try.ntmps24
  go_wp2
  go_ret
  exact ⟨rfl, rfl⟩
theorem l_b10Long_yes {A A' : Option Addr} {n n' c c' : Nat} {w : World} (h : 1048576 < n ∨ 1048576 < n') : Calls Try.prog 24 #[.slice A n c, .slice A' n' c'] w fun e w' => e = .returned (.bool true) ∧ w = w' := by
  by_cases h1 : 1048576 < n
  · have h2 : decide ((1048576 : Int) < (n : Int)) = true := by simp; omega
    clear h h1
    go_enter Try.func24, Try.ntmps24
    go_wp2
    go_ret
    exact ⟨rfl, rfl⟩
  · have h2 : decide ((1048576 : Int) < (n : Int)) = false := by simp; omega
    have h3 : decide ((1048576 : Int) < (n' : Int)) = true := by simp; omega
    clear h h1
    go_enter Try.func24, Try.ntmps24
    go_wp2
    go_ret
    exact ⟨rfl, rfl⟩

theorem l_b10At {A : Option Addr} {n c B : Nat} {xs : List Int} {w : World} (h : Reads w B 1 A n (xs.map (Value.int .u8))) (hx : ∀ a ∈ xs, (Lit.int .u8 a).wf = true) (hn : n ≤ 1048576)
    {i N : Int} (hi : 0 ≤ i) (hi2 : i ≤ 100) (hN : 1 ≤ N) (hN2 : N ≤ 1000) :
    Calls Try.prog 25 #[.slice A n c, .int .i64 i, .int .i64 N] w fun e w' => ∃ v : Int, e = .returned (.int .i64 v) ∧ 0 ≤ v ∧ v < N ∧ w = w' := by
  by_cases h1 : N ≤ 1
  · go_enter Try.func25, Try.ntmps25
    go_wp2
    go_ret
    exact ⟨0, rfl, by omega, by omega, rfl⟩
  · by_cases h2 : i < n
    · obtain ⟨q, rfl⟩ := Int.eq_ofNat_of_zero_le hi
      obtain ⟨ad, x, rfl, hab, hc, hx0, hx1⟩ := byte_at h hx (show q < n by omega)
      go_enter Try.func25, Try.ntmps25
      go_wp2
      go_ret
      exact ⟨_, rfl, Int.emod_nonneg _ (by omega), Int.emod_lt_of_pos _ (by omega), rfl⟩
    · go_enter Try.func25, Try.ntmps25
      go_wp2
      go_ret
      exact ⟨_, rfl, Int.emod_nonneg _ (by omega), Int.emod_lt_of_pos _ (by omega), rfl⟩

theorem sig_of {zs : List Nat} {N : Nat} (hl : zs.length = N) (h1 : 1 ≤ N) (h2 : N ≤ 20) (hz : Of qF 33 zs) : isSig zs = true := by
  unfold isSig
  rw [of_fin hz, hl, decide_eq_true h1, decide_eq_true (by omega : N ≤ 96)]; rfl
theorem inB_yes {a lo hi : Int} (h : lo ≤ a ∧ a ≤ hi) : inB a lo hi = true := inB_iff.2 h

section
variable {A : Option Addr} {N c j q : Nat} {zs : List Nat} {w : World} {D : Int}
theorem told_At (h : Reads w w.heap.size 1 A N (fl .f32 zs)) (h1 : 1 ≤ N) (h2 : N ≤ 20) (hz : Of qF 33 zs) (hj : j < 17) (hD : D = (q : Int)) (hq : q < N) :
    Calls Try.prog 23 #[.slice A N c, .float .f32 (bF j), .int .i64 D] w fun e w' => e = .returned (.tuple #[.int .i64 (firstOf (alarmsL zs (bF j) q)), .bool true]) ∧ Below w.heap.size w w' := by
  have hl := h.map_len
  obtain ⟨_, _, _, b4, _⟩ := bar_num j hj
  have e : alarmOk zs (bF j) D = true := by unfold alarmOk; rw [sig_of hl h1 h2 hz, b4, inB_yes (by omega)]; rfl
  refine (i_AlarmAt _ _ _ zs (bF j) D _ _ h (Nat.le_refl _) (by simp [maxLen]; omega)).mono ?_
  rintro e' w' ⟨rfl, hb⟩
  rw [alarmAtR, if_pos e, e, hD]
  exact ⟨rfl, hb⟩
theorem told_Counts {A' : Option Addr} {c' : Nat} {K : Int} (h : Reads w w.heap.size 1 A N (fl .f32 zs)) (h' : Reads w w.heap.size 1 A' 2 (fl .f32 [bF j, bHi j])) (h1 : 1 ≤ N) (h2 : N ≤ 20) (hz : Of qF 33 zs) (hj : j < 17) (hD : D = (q : Int)) (hq : q < N) (hK : 1 ≤ K ∧ K ≤ 8) :
    Calls Try.prog 19 #[.slice A N c, .slice A' 2 c', .int .i64 D, .int .i64 K] w fun e w' => ∃ g c1, e = .returned (.tuple #[.slice (some ⟨g, 0, none⟩) 2 c1, .bool true]) ∧
      w'.cell? ⟨g, 0, none⟩ = some (.int .i64 ((alarmsL zs (bF j) q).length : Int)) ∧ w'.cell? ⟨g, 1, none⟩ = some (.int .i64 ((alarmsL zs (bHi j) q).length : Int)) ∧ g < w'.heap.size ∧ Below w.heap.size w w' := by
  have hl := h.map_len
  obtain ⟨_, _, _, b4, b5, _⟩ := bar_num j hj
  have e : countsOk zs [bF j, bHi j] D K = true := by unfold countsOk; rw [sig_of hl h1 h2 hz, inB_yes (by omega), inB_yes hK]; simp [b4, b5]
  refine (i_AlarmCounts _ _ _ _ _ _ zs [bF j, bHi j] D K _ _ h h' (Nat.le_refl _) (by simp [maxLen]; omega) (by simp [maxLen])).mono ?_
  rintro e' w' ⟨v, rfl, ho, hb⟩
  rw [countsR, if_pos e, e, hD] at *
  unfold countsL at ho
  simp only [Int.toNat_natCast, List.map_cons, List.map_nil, List.length_cons, List.length_nil] at ho
  obtain ⟨g, c1, rfl⟩ := own_addr ho (by omega)
  exact ⟨g, c1, rfl, (own_cell ho (i := 0) rfl).1, (own_cell ho (i := 1) rfl).1, (ho.lt g rfl).2, hb⟩
theorem told_States (h : Reads w w.heap.size 1 A N (fl .f32 zs)) (h1 : 1 ≤ N) (h2 : N ≤ 20) (hz : Of qF 33 zs) (hj : j < 17) :
    Calls Try.prog 27 #[.slice A N c, .float .f32 (bF j), .float .f32 (bLo j)] w fun e w' => ∃ SA sc, e = .returned (.tuple #[.slice SA N sc, .bool true]) ∧
      Reads w' w'.heap.size 1 SA N (bl (statesTo zs (bF j) (bLo j) N)) ∧ Below w.heap.size w w' := by
  have hl := h.map_len
  obtain ⟨_, _, _, b4, _, b6, b7⟩ := bar_num j hj
  have e : statesOk zs (bF j) (bLo j) = true := by unfold statesOk; rw [sig_of hl h1 h2 hz, b4, b6, b7]; rfl
  refine (i_AlarmStates h (by simp [maxLen]; omega)).mono ?_
  rintro e' w' ⟨v, rfl, ho, hb⟩
  rw [statesR, if_pos e, hl, statesTo_len] at ho
  rw [e]
  obtain ⟨SA, sc, rfl⟩ := own_shape ho
  exact ⟨SA, sc, rfl, Reads.of_own ho, hb⟩
end


theorem below_al {w : World} {B : Nat} (h : B ≤ w.heap.size) (o : Obj) : Below B w (w.alloc o) := (Below.refl _ _).alloc h o
set_option maxHeartbeats 4000000 in
theorem law_Alarms (A0 : Option Addr) (n0 c0 : Nat) (xs0 : List Int) (A1 : Option Addr) (n1 c1 : Nat) (xs1 : List Int) (w : World)
    (hA0 : Reads w w.heap.size 1 A0 n0 (xs0.map (Value.int .u8))) (hn0 : n0 ≤ c0) (hc0 : c0 ≤ maxLen) (hw0 : ∀ a ∈ xs0, (Lit.int .u8 a).wf = true)
    (hA1 : Reads w w.heap.size 1 A1 n1 (xs1.map (Value.int .u8))) (hn1 : n1 ≤ c1) (hc1 : c1 ≤ maxLen) (hw1 : ∀ a ∈ xs1, (Lit.int .u8 a).wf = true) :
    Calls Try.prog 6 #[.slice A0 n0 c0, .slice A1 n1 c1] w fun e w' => e = .returned (.bool true) ∧ Below w.heap.size w w' := by
  by_cases hL : 1048576 < n0 ∨ 1048576 < n1
  · go_enter Try.func6, Try.ntmps6
    go_wp2_with (go_at_call 24; refine (l_b10Long_yes hL).mono ?_; rintro e w' ⟨rfl, rfl⟩)
    go_ret
    exact ⟨rfl, Below.refl _ _⟩
  have hy0 : n0 ≤ 1048576 := by omega
  have hy1 : n1 ≤ 1048576 := by omega
  clear hL hn0 hn1 hc0 hc1
  go_enter Try.func6, Try.ntmps6
  go_wp2_with fail
  refine (l_b10Long_no hy0 hy1).mono ?_
  rintro e w' ⟨rfl, rfl⟩
  go_wp2_with fail
  refine (l_b10At hA1 hw1 hy1 (by omega) (by omega) (by omega) (by omega)).mono ?_
  rintro e w' ⟨v0, rfl, p0, p1, rfl⟩
  obtain ⟨N, hN⟩ : ∃ N : Nat, (1 : Int) + v0 = (N : Int) := ⟨(1 + v0).toNat, by omega⟩
  have hN1 : 1 ≤ N := by omega
  have hN2 : N ≤ 20 := by omega
  go_wp2_with fail
  refine (s_B10List (N := N) hA0 hw0 hy0 (by omega)).mono ?_
  rintro e w1 ⟨va, zs, rfl, ho, hz, hb⟩
  obtain ⟨AA, ac, rfl⟩ := own_shape ho
  clear hN p0 p1
  have sz1 := hb.size
  go_wp2_with fail
  refine (l_b10At (hA1.below hb) hw1 hy1 (by omega) (by omega) (by omega) (by omega)).mono ?_
  rintro e w' ⟨v1, rfl, p0, p1, rfl⟩
  obtain ⟨d, rfl⟩ := Int.eq_ofNat_of_zero_le p0
  by_cases h3 : (3 : Int) < (d : Int)
  · have hdN : (3 : Nat) < N := by omega
    clear p1
    go_wp2_with fail
    clear h3
    refine (l_b10At (hA1.below hb) hw1 hy1 (by omega) (by omega) (by omega) (by omega)).mono ?_
    rintro e w' ⟨v2, rfl, p2, p3, rfl⟩
    obtain ⟨j, rfl⟩ := Int.eq_ofNat_of_zero_le p2
    have hj : j < 17 := by omega
    obtain ⟨b1, b2, b3, b4, b5, b6, b7⟩ := bar_num j (by omega)
    have e1 : ∀ W, flR .quo .f32 (floatOfInt .f32 ((j : Int) - 8)) 1082130432 W = bF j := flR_num b1
    have e10 : flN .quo .f32 (floatOfInt .f32 ((j : Int) - 8)) 1082130432 = 0 := flN_num b1
    have e2 : ∀ W, flR .add .f32 (bF j) 1065353216 W = bHi j := flR_num b2
    have e20 : flN .add .f32 (bF j) 1065353216 = 0 := flN_num b2
    have e3 : ∀ W, flR .sub .f32 (bF j) 1065353216 W = bLo j := flR_num b3
    have e30 : flN .sub .f32 (bF j) 1065353216 = 0 := flN_num b3
    clear b1 b2 b3 b4 b5 b6 b7
    go_wp2_with fail
    refine (told_At (q := 3) (Reads.of_own ho) hN1 hN2 hz.out hj (by simp) hdN).mono ?_
    rintro e w2 ⟨rfl, hb2⟩
    have ho2 := own_below ho hb2
    have hbw2 : Below w.heap.size w w2 := hb.trans (hb2.mono sz1)
    have sz2 : w.heap.size ≤ w2.heap.size := hbw2.size
    clear e1 e10 ho hb2 hb
    go_wp2_with fail
    refine (l_b10At ((hA1.below hbw2).alloc sz2 _) hw1 hy1 (by omega) (by omega) (by omega) (by omega)).mono ?_
    rintro e w' ⟨v3, rfl, p4, p5, rfl⟩
    go_wp2_with fail
    refine (told_Counts (q := 3) (((Reads.of_own ho2).alloc (Nat.le_refl _) _).more (by simp)) (reads_new (Value.float .f32) _ _ [bF j, bHi j]) hN1 hN2 hz.out hj (by simp) hdN (by omega)).mono ?_
    rintro e w3 ⟨g, cg, rfl, hc0, hc1, hg3, hb3⟩
    have hb23 : Below w2.heap.size w2 w3 := (below_al (Nat.le_refl _) _).trans (hb3.mono (by simp))
    have ho3 := own_below ho2 hb23
    have hbw3 : Below w.heap.size w w3 := hbw2.trans (hb23.mono sz2)
    clear e2 e20 ho2 hb3 hb23 hbw2 p4 p5
    go_wp2_with fail
    refine (told_States (Reads.of_own ho3) hN1 hN2 hz.out hj).mono ?_
    rintro e w4 ⟨SA, sc, rfl, hS, hb4⟩
    have ho4 := own_below ho3 hb4
    have hbw4 : Below w.heap.size w w4 := hbw3.trans (hb4.mono hbw3.size)
    have hd0 : w4.cell? ⟨g, 0, none⟩ = some (.int .i64 ((alarmsL zs (bF j) 3).length : Int)) := by rw [← hc0]; exact hb4.cell (p := ⟨g, 0, none⟩) hg3
    have hd1 : w4.cell? ⟨g, 1, none⟩ = some (.int .i64 ((alarmsL zs (bHi j) 3).length : Int)) := by rw [← hc1]; exact hb4.cell (p := ⟨g, 1, none⟩) hg3
    have hle : decide ((alarmsL zs (bF j) 3).length < (alarmsL zs (bHi j) 3).length) = false := by
      have := alarms_le hz.out (d := 3) hj
      simp only [decide_eq_false_iff_not]; omega
    have HZ := Reads.of_own ho4
    have Hl := hide HZ.map_len
    have Hat : Hid (firstOf (alarmsL zs (bF j) 3) = firstOf (alarmsTo zs (bF j) 3 N)) := hide (by rw [← Hl.out]; rfl)
    have Hct : Hid ((alarmsL zs (bF j) 3).length = (alarmsTo zs (bF j) 3 N).length) := hide (by rw [← Hl.out]; rfl)
    generalize hG1 : (alarmsL zs (bF j) 3).length = G1 at *
    generalize hG2 : (alarmsL zs (bHi j) 3).length = G2 at *
    generalize hG3 : firstOf (alarmsL zs (bF j) 3) = G3 at *
    clear hc0 hc1 hg3 ho3 hbw3 hb4 hG1 hG2 hG3 ho4
    go_wp2
    go_quiet (fail)
    go_wp2
    go_loopw [15, 16, 17, 18, 99] (fun f c r o i wr => ∃ k m q : Nat, k ≤ N ∧ i = .int .i64 k ∧ f = .int .i64 (firstOf (alarmsTo zs (bF j) 3 k)) ∧ c = .int .i64 ((alarmsTo zs (bF j) 3 k).length : Int) ∧ r = .int .i64 (q : Int) ∧ q ≤ k ∧ Hid (RunAt zs (bF j) q k) ∧ o = .bool (isAt zs (bF j) (bLo j) k) ∧ wr = w4.drewN m) (fun _ _ _ _ i _ => N - (intOf i).toNat)
    case atStart => exact ⟨0, _, 0, Nat.zero_le _, rfl, rfl, rfl, rfl, Nat.le_refl _, RunAt.zero _ _, rfl, rfl⟩
    case round =>
      obtain ⟨k, m, q, hk, rfl, rfl, rfl, rfl, hqk, hrun, rfl, rfl⟩ := hrel
      by_cases hlt : k < N
      · obtain ⟨ad, x, rfl, _, hx, hc⟩ := HZ.map_at hlt
        obtain ⟨sd, b, rfl, _, hy, hcs⟩ := hS.map_at hlt
        obtain ⟨k', hk', hxq⟩ := hz.out x (List.mem_of_getElem? hx)
        have hbq := bar_q k' hk' j hj
        rw [← hxq] at hbq
        have hS1 := isAt_succ (on := bF j) (off := bLo j) hx
        have hS2 : b = isAt zs (bF j) (bLo j) (k + 1) := by
          unfold statesTo at hy
          rw [List.getElem?_map, List.getElem?_range hlt] at hy
          injection hy with hy
          exact hy.symm
        rw [hS1] at hS2
        have HS1 := hide hS1
        have HS2 := hide hS2
        have Hx := hide hx
        have hi1 : (0 : Int) ≤ (k : Int) := by omega
        have hi2 : (k : Int) < (N : Int) := by omega
        have hi3 : (0 : Int) ≤ (q : Int) := by omega
        clear hx hy hS1 hS2 hxq
        cases hg : gtB x (bF j) with
        | false =>
          have hg' : (FloatKind.f32.format.order x (bF j) == some Ordering.gt) = false := hg
          have HR : Hid (RunAt zs (bF j) 0 (k + 1)) := RunAt.none Hx.out hg
          have HT : Hid (alarmsTo zs (bF j) 3 (k + 1) = alarmsTo zs (bF j) 3 k) := hide (by rw [alarmsTo_succ, RunAt.iff HR.out]; simp)
          have hr0 : True := trivial
          have Hg := hide hg
          clear hg hbq
          cases hu : ltB x (bLo j) with
          | true =>
            have hu' : (FloatKind.f32.format.order x (bLo j) == some Ordering.lt) = true := hu
            obtain rfl : b = false := by rw [HS2.out, stepB, Hg.out, hu]; rfl
            clear hu
            go_wp2
            go_roundw
            case rel => exact ⟨k + 1, _, 0, by omega, by go_num, by rw [HT.out], by rw [HT.out], rfl, by omega, HR, by rw [HS1.out, ← HS2.out], rfl⟩
            case measure => simp [intOf]; omega
          | false =>
            have hu' : (FloatKind.f32.format.order x (bLo j) == some Ordering.lt) = false := hu
            have HB : Hid (b = isAt zs (bF j) (bLo j) k) := hide (by rw [HS2.out, stepB, Hg.out, hu]; rfl)
            have hbb : (!(b == isAt zs (bF j) (bLo j) k)) = false := by rw [HB.out]; simp
            clear hu
            go_wp2
            go_roundw
            case rel => exact ⟨k + 1, _, 0, by omega, by go_num, by rw [HT.out], by rw [HT.out], rfl, by omega, HR, by rw [HS1.out, ← HS2.out, HB.out], rfl⟩
            case measure => simp [intOf]; omega
        | true =>
          have hg' : (FloatKind.f32.format.order x (bF j) == some Ordering.gt) = true := hg
          have hu' : (FloatKind.f32.format.order x (bLo j) == some Ordering.lt) = false := hbq.2 hg
          obtain rfl : b = true := by rw [HS2.out, stepB, if_pos hg]
          have HR : Hid (RunAt zs (bF j) (q + 1) (k + 1)) := RunAt.more hrun.out Hx.out hg
          clear hg hbq
          by_cases hd : 3 < q + 1
          · have HT : Hid (alarmsTo zs (bF j) 3 (k + 1) = alarmsTo zs (bF j) 3 k ++ [k]) := hide (by rw [alarmsTo_succ, RunAt.iff HR.out]; simp [hd])
            have hd' : 3 < (q : Int) + 1 := by omega
            by_cases hnil : alarmsTo zs (bF j) 3 k = []
            · have hF : decide (firstOf (alarmsTo zs (bF j) 3 k) < 0) = true := by rw [hnil]; rfl
              have Hn := hide hnil
              have hlk : (alarmsTo zs (bF j) 3 k).length ≤ 1000 := by rw [hnil]; simp
              clear hnil hd
              go_wp2
              go_roundw
              case rel => exact ⟨k + 1, _, q + 1, by omega, by go_num, by rw [HT.out, Hn.out]; rfl, by rw [HT.out, List.length_append]; go_num, by go_num, by omega, HR, by rw [HS1.out, ← HS2.out], rfl⟩
              case measure => simp [intOf]; omega
            · obtain ⟨a, l, hcons⟩ := List.exists_cons_of_ne_nil hnil
              have hF : decide (firstOf (alarmsTo zs (bF j) 3 k) < 0) = false := by rw [hcons]; exact decide_eq_false (show ¬ ((a : Int) < 0) by omega)
              have hlk : (alarmsTo zs (bF j) 3 k).length ≤ 1000 := by have := alarmsTo_le zs (bF j) 3 k; omega
              have Hn := hide hcons
              clear hnil hd hcons
              go_wp2
              go_roundw
              case rel => exact ⟨k + 1, _, q + 1, by omega, by go_num, by rw [HT.out, Hn.out]; rfl, by rw [HT.out, List.length_append]; go_num, by go_num, by omega, HR, by rw [HS1.out, ← HS2.out], rfl⟩
              case measure => simp [intOf]; omega
          · have HT : Hid (alarmsTo zs (bF j) 3 (k + 1) = alarmsTo zs (bF j) 3 k) := hide (by rw [alarmsTo_succ, RunAt.iff HR.out]; simp [hd])
            have hd' : ¬ 3 < (q : Int) + 1 := by omega
            clear hd
            go_wp2
            go_roundw
            case rel => exact ⟨k + 1, _, q + 1, by omega, by go_num, by rw [HT.out], by rw [HT.out], by go_num, by omega, HR, by rw [HS1.out, ← HS2.out], rfl⟩
            case measure => simp [intOf]; omega
      · obtain rfl : k = N := by omega
        have hq1 : (G3 == firstOf (alarmsTo zs (bF j) 3 k)) = true := by rw [Hat.out]; simp
        have hq2 : ((G1 : Int) == ((alarmsTo zs (bF j) 3 k).length : Int)) = true := by rw [Hct.out]; simp
        go_wp2
        go_ret
        exact ⟨rfl, below_drewN hbw4 _⟩
  · have hdN : d < N := by omega
    clear p1
    go_wp2_with fail
    clear h3
    refine (l_b10At (hA1.below hb) hw1 hy1 (by omega) (by omega) (by omega) (by omega)).mono ?_
    rintro e w' ⟨v2, rfl, p2, p3, rfl⟩
    obtain ⟨j, rfl⟩ := Int.eq_ofNat_of_zero_le p2
    have hj : j < 17 := by omega
    obtain ⟨b1, b2, b3, b4, b5, b6, b7⟩ := bar_num j (by omega)
    have e1 : ∀ W, flR .quo .f32 (floatOfInt .f32 ((j : Int) - 8)) 1082130432 W = bF j := flR_num b1
    have e10 : flN .quo .f32 (floatOfInt .f32 ((j : Int) - 8)) 1082130432 = 0 := flN_num b1
    have e2 : ∀ W, flR .add .f32 (bF j) 1065353216 W = bHi j := flR_num b2
    have e20 : flN .add .f32 (bF j) 1065353216 = 0 := flN_num b2
    have e3 : ∀ W, flR .sub .f32 (bF j) 1065353216 W = bLo j := flR_num b3
    have e30 : flN .sub .f32 (bF j) 1065353216 = 0 := flN_num b3
    clear b1 b2 b3 b4 b5 b6 b7
    go_wp2_with fail
    refine (told_At (q := d) (Reads.of_own ho) hN1 hN2 hz.out hj (by simp) hdN).mono ?_
    rintro e w2 ⟨rfl, hb2⟩
    have ho2 := own_below ho hb2
    have hbw2 : Below w.heap.size w w2 := hb.trans (hb2.mono sz1)
    have sz2 : w.heap.size ≤ w2.heap.size := hbw2.size
    clear e1 e10 ho hb2 hb
    go_wp2_with fail
    refine (l_b10At ((hA1.below hbw2).alloc sz2 _) hw1 hy1 (by omega) (by omega) (by omega) (by omega)).mono ?_
    rintro e w' ⟨v3, rfl, p4, p5, rfl⟩
    go_wp2_with fail
    refine (told_Counts (q := d) (((Reads.of_own ho2).alloc (Nat.le_refl _) _).more (by simp)) (reads_new (Value.float .f32) _ _ [bF j, bHi j]) hN1 hN2 hz.out hj (by simp) hdN (by omega)).mono ?_
    rintro e w3 ⟨g, cg, rfl, hc0, hc1, hg3, hb3⟩
    have hb23 : Below w2.heap.size w2 w3 := (below_al (Nat.le_refl _) _).trans (hb3.mono (by simp))
    have ho3 := own_below ho2 hb23
    have hbw3 : Below w.heap.size w w3 := hbw2.trans (hb23.mono sz2)
    clear e2 e20 ho2 hb3 hb23 hbw2 p4 p5
    go_wp2_with fail
    refine (told_States (Reads.of_own ho3) hN1 hN2 hz.out hj).mono ?_
    rintro e w4 ⟨SA, sc, rfl, hS, hb4⟩
    have ho4 := own_below ho3 hb4
    have hbw4 : Below w.heap.size w w4 := hbw3.trans (hb4.mono hbw3.size)
    have hd0 : w4.cell? ⟨g, 0, none⟩ = some (.int .i64 ((alarmsL zs (bF j) d).length : Int)) := by rw [← hc0]; exact hb4.cell (p := ⟨g, 0, none⟩) hg3
    have hd1 : w4.cell? ⟨g, 1, none⟩ = some (.int .i64 ((alarmsL zs (bHi j) d).length : Int)) := by rw [← hc1]; exact hb4.cell (p := ⟨g, 1, none⟩) hg3
    have hle : decide ((alarmsL zs (bF j) d).length < (alarmsL zs (bHi j) d).length) = false := by
      have := alarms_le hz.out (d := d) hj
      simp only [decide_eq_false_iff_not]; omega
    have HZ := Reads.of_own ho4
    have Hl := hide HZ.map_len
    have Hat : Hid (firstOf (alarmsL zs (bF j) d) = firstOf (alarmsTo zs (bF j) d N)) := hide (by rw [← Hl.out]; rfl)
    have Hct : Hid ((alarmsL zs (bF j) d).length = (alarmsTo zs (bF j) d N).length) := hide (by rw [← Hl.out]; rfl)
    generalize hG1 : (alarmsL zs (bF j) d).length = G1 at *
    generalize hG2 : (alarmsL zs (bHi j) d).length = G2 at *
    generalize hG3 : firstOf (alarmsL zs (bF j) d) = G3 at *
    clear hc0 hc1 hg3 ho3 hbw3 hb4 hG1 hG2 hG3 ho4
    go_wp2
    go_quiet (fail)
    go_wp2
    go_loopw [15, 16, 17, 18, 99] (fun f c r o i wr => ∃ k m q : Nat, k ≤ N ∧ i = .int .i64 k ∧ f = .int .i64 (firstOf (alarmsTo zs (bF j) d k)) ∧ c = .int .i64 ((alarmsTo zs (bF j) d k).length : Int) ∧ r = .int .i64 (q : Int) ∧ q ≤ k ∧ Hid (RunAt zs (bF j) q k) ∧ o = .bool (isAt zs (bF j) (bLo j) k) ∧ wr = w4.drewN m) (fun _ _ _ _ i _ => N - (intOf i).toNat)
    case atStart => exact ⟨0, _, 0, Nat.zero_le _, rfl, rfl, rfl, rfl, Nat.le_refl _, RunAt.zero _ _, rfl, rfl⟩
    case round =>
      obtain ⟨k, m, q, hk, rfl, rfl, rfl, rfl, hqk, hrun, rfl, rfl⟩ := hrel
      by_cases hlt : k < N
      · obtain ⟨ad, x, rfl, _, hx, hc⟩ := HZ.map_at hlt
        obtain ⟨sd, b, rfl, _, hy, hcs⟩ := hS.map_at hlt
        obtain ⟨k', hk', hxq⟩ := hz.out x (List.mem_of_getElem? hx)
        have hbq := bar_q k' hk' j hj
        rw [← hxq] at hbq
        have hS1 := isAt_succ (on := bF j) (off := bLo j) hx
        have hS2 : b = isAt zs (bF j) (bLo j) (k + 1) := by
          unfold statesTo at hy
          rw [List.getElem?_map, List.getElem?_range hlt] at hy
          injection hy with hy
          exact hy.symm
        rw [hS1] at hS2
        have HS1 := hide hS1
        have HS2 := hide hS2
        have Hx := hide hx
        have hi1 : (0 : Int) ≤ (k : Int) := by omega
        have hi2 : (k : Int) < (N : Int) := by omega
        have hi3 : (0 : Int) ≤ (q : Int) := by omega
        clear hx hy hS1 hS2 hxq
        cases hg : gtB x (bF j) with
        | false =>
          have hg' : (FloatKind.f32.format.order x (bF j) == some Ordering.gt) = false := hg
          have HR : Hid (RunAt zs (bF j) 0 (k + 1)) := RunAt.none Hx.out hg
          have HT : Hid (alarmsTo zs (bF j) d (k + 1) = alarmsTo zs (bF j) d k) := hide (by rw [alarmsTo_succ, RunAt.iff HR.out]; simp)
          have hr0 : ¬ (d : Int) < 0 := by omega
          have Hg := hide hg
          clear hg hbq
          cases hu : ltB x (bLo j) with
          | true =>
            have hu' : (FloatKind.f32.format.order x (bLo j) == some Ordering.lt) = true := hu
            obtain rfl : b = false := by rw [HS2.out, stepB, Hg.out, hu]; rfl
            clear hu
            go_wp2
            go_roundw
            case rel => exact ⟨k + 1, _, 0, by omega, by go_num, by rw [HT.out], by rw [HT.out], rfl, by omega, HR, by rw [HS1.out, ← HS2.out], rfl⟩
            case measure => simp [intOf]; omega
          | false =>
            have hu' : (FloatKind.f32.format.order x (bLo j) == some Ordering.lt) = false := hu
            have HB : Hid (b = isAt zs (bF j) (bLo j) k) := hide (by rw [HS2.out, stepB, Hg.out, hu]; rfl)
            have hbb : (!(b == isAt zs (bF j) (bLo j) k)) = false := by rw [HB.out]; simp
            clear hu
            go_wp2
            go_roundw
            case rel => exact ⟨k + 1, _, 0, by omega, by go_num, by rw [HT.out], by rw [HT.out], rfl, by omega, HR, by rw [HS1.out, ← HS2.out, HB.out], rfl⟩
            case measure => simp [intOf]; omega
        | true =>
          have hg' : (FloatKind.f32.format.order x (bF j) == some Ordering.gt) = true := hg
          have hu' : (FloatKind.f32.format.order x (bLo j) == some Ordering.lt) = false := hbq.2 hg
          obtain rfl : b = true := by rw [HS2.out, stepB, if_pos hg]
          have HR : Hid (RunAt zs (bF j) (q + 1) (k + 1)) := RunAt.more hrun.out Hx.out hg
          clear hg hbq
          by_cases hd : d < q + 1
          · have HT : Hid (alarmsTo zs (bF j) d (k + 1) = alarmsTo zs (bF j) d k ++ [k]) := hide (by rw [alarmsTo_succ, RunAt.iff HR.out]; simp [hd])
            have hd' : (d : Int) < (q : Int) + 1 := by omega
            by_cases hnil : alarmsTo zs (bF j) d k = []
            · have hF : decide (firstOf (alarmsTo zs (bF j) d k) < 0) = true := by rw [hnil]; rfl
              have Hn := hide hnil
              have hlk : (alarmsTo zs (bF j) d k).length ≤ 1000 := by rw [hnil]; simp
              clear hnil hd
              go_wp2
              go_roundw
              case rel => exact ⟨k + 1, _, q + 1, by omega, by go_num, by rw [HT.out, Hn.out]; rfl, by rw [HT.out, List.length_append]; go_num, by go_num, by omega, HR, by rw [HS1.out, ← HS2.out], rfl⟩
              case measure => simp [intOf]; omega
            · obtain ⟨a, l, hcons⟩ := List.exists_cons_of_ne_nil hnil
              have hF : decide (firstOf (alarmsTo zs (bF j) d k) < 0) = false := by rw [hcons]; exact decide_eq_false (show ¬ ((a : Int) < 0) by omega)
              have hlk : (alarmsTo zs (bF j) d k).length ≤ 1000 := by have := alarmsTo_le zs (bF j) d k; omega
              have Hn := hide hcons
              clear hnil hd hcons
              go_wp2
              go_roundw
              case rel => exact ⟨k + 1, _, q + 1, by omega, by go_num, by rw [HT.out, Hn.out]; rfl, by rw [HT.out, List.length_append]; go_num, by go_num, by omega, HR, by rw [HS1.out, ← HS2.out], rfl⟩
              case measure => simp [intOf]; omega
          · have HT : Hid (alarmsTo zs (bF j) d (k + 1) = alarmsTo zs (bF j) d k) := hide (by rw [alarmsTo_succ, RunAt.iff HR.out]; simp [hd])
            have hd' : ¬ (d : Int) < (q : Int) + 1 := by omega
            clear hd
            go_wp2
            go_roundw
            case rel => exact ⟨k + 1, _, q + 1, by omega, by go_num, by rw [HT.out], by rw [HT.out], by go_num, by omega, HR, by rw [HS1.out, ← HS2.out], rfl⟩
            case measure => simp [intOf]; omega
      · obtain rfl : k = N := by omega
        have hq1 : (G3 == firstOf (alarmsTo zs (bF j) d k)) = true := by rw [Hat.out]; simp
        have hq2 : ((G1 : Int) == ((alarmsTo zs (bF j) d k).length : Int)) = true := by rw [Hct.out]; simp
        go_wp2
        go_ret
        exact ⟨rfl, below_drewN hbw4 _⟩
end Go.Proofs.Ytkjiefpnfkampaa
