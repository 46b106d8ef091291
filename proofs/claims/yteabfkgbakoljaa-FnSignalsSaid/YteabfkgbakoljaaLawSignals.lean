/-
  The law FnSignals returns true for all arguments, and writes nothing that was there.
-/
import Derived.Test.YteabfkgbakoljaaSgQ
import Derived.Deep.RegionHeld3
import Derived.Deep.CutRange
import Derived.BigQuiet
import Derived.Deep.QuietTactic
namespace Go.Proofs.Yteabfkgbakoljaa
open Go.RowKit Fl Mem
set_option linter.unusedVariables false
set_option maxRecDepth 100000

theorem own_cellF {w : World} {base : Nat} {e : TypeId} {g n c : Nat} {xs : List Value} (h : w.ownsRow base e 1 (.slice (some ⟨g, 0, none⟩) n c) n xs) {i : Nat} {u : Value} (hu : xs[i]? = some u) : w.cell? ⟨g, i, none⟩ = some u := by
  have := h.cells (g := g) rfl i u hu
  simpa [Addr.add_lit] using this
theorem fl_at {xs : List Nat} {n i : Nat} (hl : xs.length = n) (hi : i < n) : (fl .f32 xs)[i]? = some (.float .f32 (xs.getD i 0)) := by
  unfold fl
  rw [List.getElem?_map, List.getD_eq_getElem?_getD, List.getElem?_eq_getElem (by omega)]; rfl
theorem cl_at {L : List (Nat × Nat)} {n i : Nat} (hl : L.length = n) (hi : i < n) : (cl L)[i]? = some (.complex .f32 (L.getD i (0, 0)).1 (L.getD i (0, 0)).2) := by
  unfold cl
  rw [List.getElem?_map, List.getD_eq_getElem?_getD, List.getElem?_eq_getElem (by omega)]; rfl
theorem psW_fin {n : Nat} {L : List (Nat × Nat)} (hn : n < 21) (h : BnL n L) (hl : L.length = n / 2 + 1) {k : Nat} (hk : k < L.length) : (Sm (L.getD k (0, 0)).1 ∧ Sm (L.getD k (0, 0)).2) ∧ ((∀ W : World, cvR .f32 .f64 (pwV (L.getD k (0, 0)).1 (L.getD k (0, 0)).2) W = wide (pwV (L.getD k (0, 0)).1 (L.getD k (0, 0)).2)) ∧ cvN .f32 .f64 (pwV (L.getD k (0, 0)).1 (L.getD k (0, 0)).2) = 0) ∧
    ((∀ W, flR .add .f64 (psW L k) (wide (pwV (L.getD k (0, 0)).1 (L.getD k (0, 0)).2)) W = psW L (k + 1)) ∧ flN .add .f64 (psW L k) (wide (pwV (L.getD k (0, 0)).1 (L.getD k (0, 0)).2)) = 0) := by
  have hq : Bn n (L.getD k (0, 0)).1 ∧ Bn n (L.getD k (0, 0)).2 := h _ (by rw [List.getD_eq_getElem?_getD, List.getElem?_eq_getElem hk]; exact List.getElem_mem _)
  obtain ⟨⟨c, _⟩, _⟩ := pv_at hn h hk
  have hf := (psW_ok hn h (by omega) (k + 1) (by omega)).1
  exact ⟨⟨pm_sm (by grind) (bn_pm hn hq.1), pm_sm (by grind) (bn_pm hn hq.2)⟩, cv_fn c, ⟨fun W => flR_num (fin_nn64 hf) W, flN_num (fin_nn64 hf)⟩⟩
theorem cell_bel {w w' : World} {a : Addr} {v : Value} (hb : Below w.heap.size w w') (h : w.cell? a = some v) : w'.cell? a = some v := by
  have hlt : a.block < w.heap.size := by
    rcases Nat.lt_or_ge a.block w.heap.size with h' | h'
    · exact h'
    · simp [World.cell?, Array.getElem?_eq_none h'] at h
  exact (hb.cell hlt).trans h
theorem run_make_f32 {N : Nat} (hN : N ≤ 1000) (W : World) : (Instr.makeSlice 36 (.int .i64 (N : Int)) (.int .i64 (N : Int))).run Try.prog W = .ok (.slice (some ⟨W.heap.size, 0, none⟩) N N) (W.alloc (.cells (Array.replicate N (.float .f32 0)) 27)) :=
  run_make1 36 27 (.float .f32 0) 4 info_f32 Try.underlying36 rfl N (by omega) (by omega) W
theorem zeros_at {W : World} {N k : Nat} (hk : k < N) : (W.alloc (.cells (Array.replicate N (.float .f32 0)) 27)).cell? ⟨W.heap.size, k, none⟩ = some (.float .f32 ((List.replicate N 0).getD k 0)) := by
  rw [(Blk.new W 27 (Array.replicate N (.float .f32 0))).cell k, Array.getElem?_replicate, if_pos hk, List.getD_eq_getElem?_getD, List.getElem?_replicate, if_pos hk]; rfl
section
variable {P : Program}
theorem run_csub (t : TypeId) (k : FloatKind) (a b c d : Nat) (w : World) : (binOp .sub t (.complex k a b) (.complex k c d)).run P w = .ok (.complex k (flR .sub k a c w) (flR .sub k b d (w.drewN (flN .sub k a c)))) ((w.drewN (flN .sub k a c)).drewN (flN .sub k b d)) := by
  simp [binOp, Op.complexOp, run_carith_any (P := P) .sub (by simp)]
end
set_option maxHeartbeats 8000000 in
theorem law_Signals (A0 : Option Addr) (n0 c0 : Nat) (xs0 : List Int) (A1 : Option Addr) (n1 c1 : Nat) (xs1 : List Int) (w : World)
    (hA0 : Reads w w.heap.size 1 A0 n0 (xs0.map (Value.int .u8))) (hn0 : n0 ≤ c0) (hc0 : c0 ≤ maxLen) (hw0 : ∀ a ∈ xs0, (Lit.int .u8 a).wf = true)
    (hA1 : Reads w w.heap.size 1 A1 n1 (xs1.map (Value.int .u8))) (hn1 : n1 ≤ c1) (hc1 : c1 ≤ maxLen) (hw1 : ∀ a ∈ xs1, (Lit.int .u8 a).wf = true) :
    Calls Try.prog 6 #[.slice A0 n0 c0, .slice A1 n1 c1] w fun e w' => e = .returned (.bool true) ∧ Below w.heap.size w w' := by
  by_cases hL : 1048576 < n0 ∨ 1048576 < n1
  · go_enter Try.func6, Try.ntmps6
    go_wp2_with (go_at_call 24; refine (l_b10Long_yes hL).mono ?_; rintro e w' ⟨rfl, rfl⟩)
    go_ret
    exact ⟨rfl, Below.refl _ _⟩
  have hz0 : n0 ≤ 1048576 := by omega
  have hz1 : n1 ≤ 1048576 := by omega
  clear hL hn0 hn1 hc0 hc1
  go_enter Try.func6, Try.ntmps6
  go_wp2_with fail
  refine (l_b10Long_no hz0 hz1).mono ?_
  rintro e w' ⟨rfl, rfl⟩
  go_wp2_with fail
  refine (l_b10At hA1 hw1 hz1 (by omega) (by omega) (by omega) (by omega)).mono ?_
  rintro e w' ⟨v0, rfl, p0, p1, rfl⟩
  obtain ⟨n, hn⟩ : ∃ n : Nat, (1 : Int) + v0 = (n : Int) := ⟨(1 + v0).toNat, by omega⟩
  have n2 : 1 ≤ n := by omega
  have n21 : n < 21 := by omega
  clear p0 p1
  go_wp2_with fail
  refine (s_B10List (N := n) hA0 hw0 hz0 (by omega)).mono ?_
  rintro e w1 ⟨va, xs, rfl, hown, hof, hb1⟩
  obtain ⟨ga, ca, rfl⟩ := own_addr hown (by omega)
  have hlx := (Reads.of_own hown).map_len
  have hS : Sg xs := ⟨hof.out, by omega, by omega⟩
  have hS1 := hb1.size
  have n100 : n ≤ 100 := by omega
  obtain ⟨m, hm⟩ : ∃ m, n / 2 = m := ⟨_, rfl⟩
  have hmI : (n : Int).tdiv 2 = (m : Int) := by rw [← hm]; rfl
  have m10 : m ≤ 10 := by omega
  have HS := hide hS
  have HL := hide hlx
  have Hm := hide hm
  clear hof hA0 hw0 hz0 hn hS hlx hm
  -- [GA
  go_wp2_with fail
  refine (c_Lines (Reads.of_own hown) HS.out n21 Hm.out).mono ?_
  rintro e w2 ⟨vL, rfl, hoL, hb2⟩
  obtain ⟨gL, cL, rfl⟩ := own_addr hoL (by omega)
  have how2 := own_below hown hb2
  have bel2 := hb1.trans (hb2.mono hS1)
  have hbn := lines_bn HS.out (by rw [HL.out]; exact n21)
  rw [HL.out, Hm.out] at hbn
  have hLl := slL_len xs (m + 1)
  clear hb2 hown hb1
  go_wp2_with fail
  refine (c_Back Hm.out (Reads.of_own hoL) (bnL_sl n21 hbn) n2 n21).mono ?_
  rintro e w3 ⟨vB, rfl, hoB, hb3⟩
  obtain ⟨gB, cB, rfl⟩ := own_addr hoB (by omega)
  have how3 := own_below how2 hb3
  have hoL3 := own_below hoL hb3
  have bel3 := bel2.trans (hb3.mono bel2.size)
  clear hb3 how2 bel2 hoL
  go_wp2_with fail
  refine (c_Turn Hm.out (Reads.of_own how3) HS.out n21).mono ?_
  rintro e w4 ⟨vT, rfl, hoT, hb4⟩
  obtain ⟨gT, cT, rfl⟩ := own_addr hoT (by omega)
  have how4 := own_below how3 hb4
  have hoL4 := own_below hoL3 hb4
  have hoB4 := own_below hoB hb4
  have bel4 := bel3.trans (hb4.mono bel3.size)
  clear hb4 how3 bel3 hoL3 hoB
  go_wp2_with fail
  refine (c_Env Hm.out (Reads.of_own how4) HS.out n21).mono ?_
  rintro e w5 ⟨vE, rfl, hoE, hb5⟩
  obtain ⟨gE, cE, rfl⟩ := own_addr hoE (by omega)
  have how5 := own_below how4 hb5
  have hoL5 := own_below hoL4 hb5
  have hoB5 := own_below hoB4 hb5
  have hoT5 := own_below hoT hb5
  have bel5 := bel4.trans (hb5.mono bel4.size)
  clear hb5 how4 bel4 hoL4 hoB4 hoT
  have hx2 : Reads (w5.alloc (.cells #[.int .i64 0, .int .i64 ((m : Int) + 1)] 2)) (w5.alloc (.cells #[.int .i64 0, .int .i64 ((m : Int) + 1)] 2)).heap.size 1 (some ⟨w5.heap.size, 0, none⟩) 2 (il [0, ((m + 1 : Nat) : Int)]) := reads_new (Value.int .i64) _ _ [0, (m : Int) + 1]
  have hA6 := ((Reads.of_own how5).alloc (Nat.le_refl _) (.cells #[.int .i64 0, .int .i64 ((m : Int) + 1)] 2)).more (B' := (w5.alloc (.cells #[.int .i64 0, .int .i64 ((m : Int) + 1)] 2)).heap.size) (by simp)
  have HP := hide (c_Pow (c := ca) Hm.out hA6 HS.out n21 hx2)
  have ba := (Below.refl w5.heap.size w5).alloc (Nat.le_refl _) (.cells #[.int .i64 0, .int .i64 ((m : Int) + 1)] 2)
  have how6 := own_below how5 ba
  have hoL6 := own_below hoL5 ba
  have hoB6 := own_below hoB5 ba
  have hoT6 := own_below hoT5 ba
  have hoE6 := own_below hoE ba
  have bel6 := bel5.trans (ba.mono bel5.size)
  clear hx2 hA6 ba how5 hoL5 hoB5 hoT5 hoE bel5
  go_wp2_with fail
  refine HP.out.mono ?_
  rintro e w7 ⟨vP, rfl, hoP, hb7⟩
  obtain ⟨gP, cP, rfl⟩ := own_addr hoP (by omega)
  have how7 := own_below how6 hb7
  have hoL7 := own_below hoL6 hb7
  have hoB7 := own_below hoB6 hb7
  have hoT7 := own_below hoT6 hb7
  have hoE7 := own_below hoE6 hb7
  have bel7 := bel6.trans (hb7.mono bel6.size)
  clear hb7 how6 hoL6 hoB6 hoT6 hoE6 bel6 HP
  go_wp2_with fail
  refine (i_IsSignal _ _ _ xs _ _ (Reads.of_own how7) (by unfold maxLen; omega)).mono ?_
  rintro e w' ⟨rfl, q8, rfl⟩
  rw [sg_sig HS.out]
  obtain ⟨w8, hw8⟩ : ∃ w8, w7.drewN q8 = w8 := ⟨_, rfl⟩
  have bel8 : Below w.heap.size w w8 := by rw [← hw8]; exact below_drewN bel7 q8
  have how8 := own_drewN how7 q8
  have hoL8 := own_drewN hoL7 q8
  have hoB8 := own_drewN hoB7 q8
  have hoT8 := own_drewN hoT7 q8
  have hoE8 := own_drewN hoE7 q8
  have hoP8 := own_drewN hoP q8
  rw [hw8] at how8 hoL8 hoB8 hoT8 hoE8 hoP8 ⊢
  clear hw8 how7 hoL7 hoB7 hoT7 hoE7 hoP bel7
  have HCX : Hid (∀ k, k < n → w8.cell? ⟨ga, k, none⟩ = some (.float .f32 (xs.getD k 0))) := hide (fun k hk => own_cellF how8 (fl_at HL.out hk))
  have HCL : Hid (∀ k, k < m + 1 → w8.cell? ⟨gL, k, none⟩ = some (.complex .f32 ((slL xs (m + 1)).getD k (0, 0)).1 ((slL xs (m + 1)).getD k (0, 0)).2)) := hide (fun k hk => own_cellF hoL8 (cl_at hLl hk))
  have HCB : Hid (∀ k, k < n → w8.cell? ⟨gB, k, none⟩ = some (.float .f32 (bkV n k (slL xs (m + 1))))) := hide (fun k hk => by
    have := own_cellF hoB8 (fl_at (bkL_len _ _ _) hk)
    rwa [bkL_at hk] at this)
  have HCT : Hid (∀ k, k < n → w8.cell? ⟨gT, k, none⟩ = some (.complex .f32 (bkV n k (slL xs (m + 1))) (bkVi n k (slL xs (m + 1))))) := hide (fun k hk => own_cellF hoT8 (by
    unfold cl tdL
    rw [List.getElem?_map, List.getElem?_map, List.getElem?_range hk]; rfl))
  have HCE : Hid (∀ k, k < n → w8.cell? ⟨gE, k, none⟩ = some (.float .f32 (lnV (bkV n k (slL xs (m + 1))) (bkVi n k (slL xs (m + 1)))))) := hide (fun k hk => own_cellF hoE8 (by
    unfold fl enL
    rw [List.getElem?_map, List.getElem?_map, List.getElem?_range hk]; rfl))
  have HCP : Hid (w8.cell? ⟨gP, 0, none⟩ = some (.float .f32 (pwM (slL xs (m + 1)) n))) := hide (own_cellF hoP8 rfl)
  have HOW := hide how8
  have HB := hide bel8
  have HBN := hide hbn
  clear how8 hoL8 hoB8 hoT8 hoE8 hoP8 bel8 hbn hLl
  have HQ : Hid (∀ k, k < m + 1 → ∃ a b P X : Nat, w8.cell? ⟨gL, k, none⟩ = some (.complex .f32 a b) ∧ (∀ W : World, Calls Try.prog 46 #[.complex .f32 a b] W fun e w' => e = .returned (.float .f32 P) ∧ ∃ m, w' = W.drewN m) ∧ ((∀ W : World, cvR .f32 .f64 P W = X) ∧ cvN .f32 .f64 P = 0) ∧
      ((∀ W, flR .add .f64 (psW (slL xs (m + 1)) k) X W = psW (slL xs (m + 1)) (k + 1)) ∧ flN .add .f64 (psW (slL xs (m + 1)) k) X = 0)) := hide (fun k hk => by
    obtain ⟨⟨s1, s2⟩, s3, s4⟩ := psW_fin n21 HBN.out (by rw [slL_len, Hm.out]) (k := k) (by rw [slL_len]; exact hk)
    exact ⟨_, _, _, _, HCL.out k hk, fun W => s_PowerOf s1 s2, s3, s4⟩)
  go_wp2_with fail
  go_loopw [18, 132] (fun v18 v132 wr => ∃ k q : Nat, k ≤ m + 1 ∧ v132 = .int .i64 (k : Int) ∧ v18 = .float .f64 (psW (slL xs (m + 1)) k) ∧ wr = w8.drewN q) (fun _ v132 _ => m + 1 - (intOf v132).toNat)
  case atStart => exact ⟨0, 0, Nat.zero_le _, rfl, rfl, rfl⟩
  case round =>
    obtain ⟨k, q, hk, rfl, rfl, hwr⟩ := hrel
    rename World => wr
    by_cases hkt : k < m + 1
    · have kI : (k : Int) < (m : Int) + 1 := by omega
      obtain ⟨a, b, P, X, hc, hcall, ⟨v1, v1n⟩, v2, v2n⟩ := HQ.out k hkt
      have hcw : wr.cell? ⟨gL, k, none⟩ = some (.complex .f32 a b) := by rw [hwr]; exact hc
      have HC := hide hcall
      have Hwr := hide hwr
      obtain ⟨S0, hS0⟩ : ∃ S0, psW (slL xs (m + 1)) k = S0 := ⟨_, rfl⟩
      obtain ⟨S1, hS1⟩ : ∃ S1, psW (slL xs (m + 1)) (k + 1) = S1 := ⟨_, rfl⟩
      rw [hS0] at v2 v2n ⊢
      rw [hS1] at v2
      have HS1 := hide hS1
      clear hc hcall hwr hS0 hS1
      go_wp2_with (go_at_call 46; refine (HC.out _).mono ?_; rintro e w' ⟨rfl, m1, rfl⟩)
      go_roundw
      case rel => exact ⟨k + 1, _, by omega, by go_num, by rw [HS1.out], by rw [Hwr.out]; simp only [World.drewN_drewN]; rfl⟩
      case measure => simp [intOf]; omega
    · obtain rfl : k = m + 1 := by omega
      have bel9 : Below w.heap.size w wr := by rw [hwr]; exact below_drewN HB.out q
      have how9 : wr.ownsRow w.heap.size 27 1 (.slice (some ⟨ga, 0, none⟩) n ca) n (fl .f32 xs) := by rw [hwr]; exact own_drewN HOW.out q
      have cP : wr.cell? ⟨gP, 0, none⟩ = some (.float .f32 (pwM (slL xs (m + 1)) n)) := by rw [hwr]; exact HCP.out
      have Hwr := hide hwr
      obtain ⟨k1, k2, k3, k4, k5, k6, k7⟩ := pow_chk n21 n2 HBN.out (by rw [slL_len, Hm.out])
      rw [slL_len] at k3 k4 k5 k6 k7
      obtain ⟨SQ, hSQ⟩ : ∃ SQ, psW (slL xs (m + 1)) (m + 1) = SQ := ⟨_, rfl⟩
      rw [hSQ] at k3 k4 k5 k6 k7 ⊢
      obtain ⟨PM, hPM⟩ : ∃ PM, pwM (slL xs (m + 1)) n = PM := ⟨_, rfl⟩
      rw [hPM] at k1 k2 k5 k6 k7 cP
      obtain ⟨u0, u0n⟩ := cv_fn k1
      obtain ⟨WP, hWP⟩ : ∃ WP, wide PM = WP := ⟨_, rfl⟩
      rw [hWP] at u0 k2 k5 k6 k7
      obtain ⟨PN, hPN⟩ : ∃ PN, fb .mul .f64 WP (floatOfInt .f64 (n : Int)) = PN := ⟨_, rfl⟩
      have u1 : ∀ W, flR .mul .f64 WP (floatOfInt .f64 (n : Int)) W = PN := fun W => by rw [← hPN]; exact flR_num (fin_nn64 k2) W
      have u1n : flN .mul .f64 WP (floatOfInt .f64 (n : Int)) = 0 := flN_num (fin_nn64 k2)
      rw [hPN] at k5 k6 k7
      obtain ⟨S1, hS1'⟩ : ∃ S1, fb .add .f64 4607182418800017408 SQ = S1 := ⟨_, rfl⟩
      have u2 : ∀ W, flR .add .f64 4607182418800017408 SQ W = S1 := fun W => by rw [← hS1']; exact flR_num (fin_nn64 k3) W
      have u2n : flN .add .f64 4607182418800017408 SQ = 0 := flN_num (fin_nn64 k3)
      rw [hS1'] at k4 k7
      obtain ⟨S2, hS2⟩ : ∃ S2, fb .mul .f64 4562254508917369340 S1 = S2 := ⟨_, rfl⟩
      have u3 : ∀ W, flR .mul .f64 4562254508917369340 S1 W = S2 := fun W => by rw [← hS2]; exact flR_num (fin_nn64 k4) W
      have u3n : flN .mul .f64 4562254508917369340 S1 = 0 := flN_num (fin_nn64 k4)
      rw [hS2] at k7
      obtain ⟨GP, hGP⟩ : ∃ GP, gap64 PN SQ = GP := ⟨_, rfl⟩
      have C1 : Hid (∀ W, Calls Try.prog 32 #[.float .f64 PN, .float .f64 SQ] W fun e w' => e = .returned (.float .f64 GP) ∧ ∃ m, w' = W.drewN m) := hide (fun W => by rw [← hGP]; exact l_b10Gap k5 k6)
      rw [hGP] at k7
      clear hSQ hPM hWP hPN hS1' hS2 hGP k1 k2 k3 k4 k5 k6 hwr HQ HOW HB HCP
      have HOW := hide how9
      have HB := hide bel9
      clear how9 bel9
      go_wp2_with fail
      refine (C1.out _).mono ?_
      rintro e w' ⟨rfl, q9, rfl⟩
      go_wp2_with fail
      -- [GB
      have bel10 := below_drewN HB.out q9
      have how10 := own_drewN HOW.out q9
      have Hw10 : Hid (wr.drewN q9 = w8.drewN (q + q9)) := hide (by rw [Hwr.out, World.drewN_drewN])
      obtain ⟨w10, hw10⟩ : ∃ w10, wr.drewN q9 = w10 := ⟨_, rfl⟩
      rw [hw10] at bel10 how10 Hw10 ⊢
      clear hw10 HOW HB Hwr C1 k7 u0 u0n u1 u1n u2 u2n u3 u3n cP
      have hA10 := hA1.below bel10
      refine (l_b10At hA10 hw1 hz1 (by omega) (by omega) (by omega) (by omega)).mono ?_
      rintro e w' ⟨vp, rfl, p0, p1, rfl⟩
      obtain ⟨p, hp⟩ : ∃ p : Nat, (1 : Int) + vp = (p : Int) := ⟨(1 + vp).toNat, by omega⟩
      have pp1 : 1 ≤ p := by omega
      have ppk : p ≤ m + 1 := by omega
      clear p0 p1 hA10
      go_wp2_with fail
      refine (c_Part (f := 0) (t := p) Hm.out (Reads.of_own how10) HS.out n21 (by omega) ppk).mono ?_
      rintro e w11 ⟨vl, rfl, hol, hb11⟩
      obtain ⟨gl, clo, rfl⟩ := own_addr hol (by omega)
      have how11 := own_below how10 hb11
      have bel11 := bel10.trans (hb11.mono bel10.size)
      have BW8 : Below w8.heap.size w8 w10 := by rw [Hw10.out]; exact below_drewN (Below.refl _ _) _
      have BW11 : Below w8.heap.size w8 w11 := BW8.trans (hb11.mono BW8.size)
      have HCl : Hid (∀ k, k < n → w11.cell? ⟨gl, k, none⟩ = some (.float .f32 ((bkL n (bandL (slL xs (m + 1)) 0 p) n).getD k 0))) := hide (fun k hk => own_cellF hol (fl_at (bkL_len _ _ _) hk))
      have HMK := run_make_f32 (N := n) (by omega) w11
      have bz := (Below.refl w11.heap.size w11).alloc (Nat.le_refl _) (.cells (Array.replicate n (.float .f32 0)) 27)
      have hz := fun k (hk : k < n) => zeros_at (W := w11) hk
      have HBz := hide bz
      have HHz := hide hz
      have how12 := hide (own_below how11 bz)
      have bel12 := hide (bel11.trans (bz.mono bel11.size))
      have BW12 := hide (BW11.trans (bz.mono BW11.size))
      clear hb11 how10 bel10 BW8 Hw10 hol how11 bel11 bz hz hp
      have ppI : (p : Int) ≤ (m : Int) + 1 := by omega
      have HP1 := hide pp1
      go_upto_if 171 with (fail)
      go_cut [23, 24, 25] from 171 to 188 (fun s a b wx => ∃ gH cH Q, s = .slice (some ⟨gH, 0, none⟩) n cH ∧ Hid (∀ k, k < n → wx.cell? ⟨gH, k, none⟩ = some (.float .f32 (Q.getD k 0))) ∧ Hid (Bnds xs n (bkL n (bandL (slL xs (m + 1)) 0 p) n) Q) ∧ Hid (Below w8.heap.size w8 wx) ∧ Hid (Below w11.heap.size w11 wx) ∧ Hid (Below w.heap.size w wx) ∧ Hid (wx.ownsRow w.heap.size 27 1 (.slice (some ⟨ga, 0, none⟩) n ca) n (fl .f32 xs)))
      case first =>
        -- [GC
        as_aux_lemma =>
          by_cases hpm : p < m + 1
          · have hpI : (p : Int) < (m : Int) + 1 := by omega
            have HCall := hide (c_Part (f := p) (t := m + 1) (c := ca) Hm.out (Reads.of_own how12.out) HS.out n21 hpm (Nat.le_refl _))
            go_wp2_with fail
            refine HCall.out.mono ?_
            rintro e w13 ⟨vh, rfl, hoh, hb13⟩
            obtain ⟨gh, ch, rfl⟩ := own_addr hoh (by omega)
            have X1 : Hid (∀ k, k < n → w13.cell? ⟨gh, k, none⟩ = some (.float .f32 ((bkL n (bandL (slL xs (m + 1)) p (m + 1)) n).getD k 0))) := hide (fun k hk => own_cellF hoh (fl_at (bkL_len _ _ _) hk))
            have X2 := hide (bnds_two HS.out HL.out n21 Hm.out HP1.out hpm)
            have X3 := hide (BW12.out.trans (hb13.mono BW12.out.size))
            have X4 := hide (HBz.out.trans (hb13.mono HBz.out.size))
            have X5 := hide (bel12.out.trans (hb13.mono bel12.out.size))
            have X6 := hide (own_below how12.out hb13)
            clear hoh hb13
            go_wp2_with fail
            go_meet
            exact ⟨gh, ch, _, rfl, X1, X2, X3, X4, X5, X6⟩
          · have X2 : Hid (Bnds xs n (bkL n (bandL (slL xs (m + 1)) 0 p) n) (List.replicate n 0)) := hide (by
              have hpe : p = m + 1 := by omega
              rw [hpe]; exact bnds_one HS.out HL.out n21 Hm.out)
            have hpI : ¬ (p : Int) < (m : Int) + 1 := by omega
            go_wp2_with fail
            go_meet
            exact ⟨w11.heap.size, n, _, rfl, HHz, X2, BW12, HBz, bel12, how12⟩
        -- GC]
      case rest =>
      obtain ⟨gH, cH, Q, rfl, HCH, HBD, HB8, HB11, HBw, HOW⟩ := hcut
      -- [GD
      have HK : Hid (∀ i, i < n → ∃ X B Bi E P U G1 G2 S2 S G3 : Nat, wc.cell? ⟨ga, i, none⟩ = some (.float .f32 X) ∧ wc.cell? ⟨gB, i, none⟩ = some (.float .f32 B) ∧ wc.cell? ⟨gT, i, none⟩ = some (.complex .f32 B Bi) ∧ wc.cell? ⟨gE, i, none⟩ = some (.float .f32 E) ∧ wc.cell? ⟨gl, i, none⟩ = some (.float .f32 P) ∧ wc.cell? ⟨gH, i, none⟩ = some (.float .f32 U) ∧ Plc X B E G1 G2 S2 ∧ Bnd X P U S G3) := hide (fun i hi => by
        obtain ⟨G1, G2, S2, hp⟩ := plc_ok HS.out (by rw [HL.out]; exact n21) (show i < xs.length by rw [HL.out]; exact hi)
        rw [HL.out, Hm.out] at hp
        obtain ⟨S, G3, hb⟩ := HBD.out i hi
        exact ⟨_, _, _, _, _, _, G1, G2, S2, S, G3, cell_bel HB8.out (HCX.out i hi), cell_bel HB8.out (HCB.out i hi), cell_bel HB8.out (HCT.out i hi), cell_bel HB8.out (HCE.out i hi), cell_bel HB11.out (HCl.out i hi), HCH.out i hi, hp, hb⟩)
      have hcL := cell_bel HB8.out (HCL.out 0 (by omega))
      have hq0 : BnL n (slL xs (m + 1)) := HBN.out
      have hb0 : Bn n ((slL xs (m + 1)).getD 0 (0, 0)).1 ∧ Bn n ((slL xs (m + 1)).getD 0 (0, 0)).2 := hq0 _ (by
        rw [List.getD_eq_getElem?_getD, List.getElem?_eq_getElem (by rw [slL_len]; omega)]; exact List.getElem_mem _)
      have hln := c_Line (c := ca) Hm.out (Reads.of_own HOW.out) HS.out n21
      obtain ⟨La, hLa⟩ : ∃ La, ((slL xs (m + 1)).getD 0 (0, 0)).1 = La := ⟨_, rfl⟩
      obtain ⟨Lb, hLb⟩ : ∃ Lb, ((slL xs (m + 1)).getD 0 (0, 0)).2 = Lb := ⟨_, rfl⟩
      rw [hLa, hLb] at hcL hb0 hln
      obtain ⟨z1, z2, z3, z4⟩ := self_short (bn_pm n21 hb0.1) (bn_pm n21 hb0.2)
      obtain ⟨Za, hZa⟩ : ∃ Za, fb .sub .f32 La La = Za := ⟨_, rfl⟩
      obtain ⟨Zb, hZb⟩ : ∃ Zb, fb .sub .f32 Lb Lb = Zb := ⟨_, rfl⟩
      have d1 : ∀ W, flR .sub .f32 La La W = Za := fun W => by rw [← hZa]; exact flR_num (fin_n32 z1.1) W
      have d1n : flN .sub .f32 La La = 0 := flN_num (fin_n32 z1.1)
      have d2 : ∀ W, flR .sub .f32 Lb Lb W = Zb := fun W => by rw [← hZb]; exact flR_num (fin_n32 z2.1) W
      have d2n : flN .sub .f32 Lb Lb = 0 := flN_num (fin_n32 z2.1)
      have hcs : ∀ (t : TypeId) (W : World), (binOp .sub t (.complex .f32 La Lb) (.complex .f32 La Lb)).run Try.prog W = .ok (.complex .f32 Za Zb) W := fun t W => by
        rw [run_csub, d1, d2, d1n, d2n]; rfl
      clear d1 d2 d1n d2n
      rw [hZa, hZb] at z3 z4
      rw [hZa] at z1
      rw [hZb] at z2
      obtain ⟨LV, hLV⟩ : ∃ LV, lnV Za Zb = LV := ⟨_, rfl⟩
      have HLong : Hid (∀ W : World, Calls Try.prog 49 #[.complex .f32 Za Zb] W fun e w' => e = .returned (.float .f32 LV) ∧ ∃ m, w' = W.drewN m) := hide (fun W => by rw [← hLV]; exact s_LongOf z1 z2)
      rw [hLV] at z3 z4
      obtain ⟨e1, e1n⟩ := cv_fn z3
      obtain ⟨WL, hWL⟩ : ∃ WL, wide LV = WL := ⟨_, rfl⟩
      rw [hWL] at e1 z4
      have HLN := hide hln
      clear hq0 hb0 hln hLa hLb z1 z2 z3 hZa hZb hLV hWL HCX HCL HCB HCT HCE HCl HCH HBD HB8 HB11 HMK HHz HBz how12 bel12 BW12 HBN HP1
      go_wp2_with fail
      refine HLN.out.mono ?_
      rintro e w' ⟨rfl, q14, rfl⟩
      go_wp2_with fail
      refine (HLong.out _).mono ?_
      rintro e w' ⟨rfl, q15, rfl⟩
      go_wp2_with fail
      -- GD]
      clear hcL hcs e1 e1n z4 HLong HLN
      obtain ⟨wd, hwd⟩ : ∃ wd, wc.drewN (q14 + q15) = wd := ⟨_, rfl⟩
      have HW : Hid (wd = wc.drewN (q14 + q15)) := hide hwd.symm
      rw [hwd]
      clear hwd
      go_loopw [217] (fun v wr => ∃ i q : Nat, i ≤ n ∧ v = .int .i64 (i : Int) ∧ wr = wd.drewN q) (fun v _ => n - (intOf v).toNat)
      case atStart => exact ⟨0, 0, Nat.zero_le _, rfl, rfl⟩
      case round =>
        obtain ⟨i, q, hi, rfl, hwr⟩ := hrel
        rename World => wr
        by_cases hik : i < n
        ·
          -- [GE
          as_aux_lemma =>
            have iI : (i : Int) < (n : Int) := by omega
            obtain ⟨X, B, Bi, E, P, U, G1, G2, S2, S, G3, j1, j2, j3, j4, j5, j6, ⟨⟨v1, v1n⟩, ⟨v2, v2n⟩, ⟨v3, v3n⟩, g1, o1, g2, ⟨s2, s2n⟩, o2⟩, ⟨⟨v4, v4n⟩, ⟨v5, v5n⟩, ⟨s3, s3n⟩, g3, o3⟩⟩ := HK.out i hik
            have hE : wr = wc.drewN (q14 + q15 + q) := by rw [hwr, HW.out, World.drewN_drewN]
            have k1 : wr.cell? ⟨ga, i, none⟩ = some (.float .f32 X) := by rw [hE]; exact j1
            have k2 : wr.cell? ⟨gB, i, none⟩ = some (.float .f32 B) := by rw [hE]; exact j2
            have k3 : wr.cell? ⟨gT, i, none⟩ = some (.complex .f32 B Bi) := by rw [hE]; exact j3
            have k4 : wr.cell? ⟨gE, i, none⟩ = some (.float .f32 E) := by rw [hE]; exact j4
            have k5 : wr.cell? ⟨gl, i, none⟩ = some (.float .f32 P) := by rw [hE]; exact j5
            have k6 : wr.cell? ⟨gH, i, none⟩ = some (.float .f32 U) := by rw [hE]; exact j6
            have Hwr := hide hwr
            obtain ⟨WX, hWX⟩ : ∃ WX, wide X = WX := ⟨_, rfl⟩
            obtain ⟨WB, hWB⟩ : ∃ WB, wide B = WB := ⟨_, rfl⟩
            obtain ⟨WE, hWE⟩ : ∃ WE, wide E = WE := ⟨_, rfl⟩
            obtain ⟨WP, hWP⟩ : ∃ WP, wide P = WP := ⟨_, rfl⟩
            obtain ⟨WU, hWU⟩ : ∃ WU, wide U = WU := ⟨_, rfl⟩
            rw [hWX] at v1 g1 g2 g3
            rw [hWB] at v2 g1
            rw [hWE] at v3 o2
            rw [hWP] at v4 s3 s3n
            rw [hWU] at v5 s3 s3n
            have C1 := hide g1
            have C2 := hide g2
            have C3 := hide g3
            clear j1 j2 j3 j4 j5 j6 g1 g2 g3 hwr hE hWX hWB hWE hWP hWU
            go_wp2_with fail
            refine wp_region_quiet_lit (by kernel_rfl) (by as_aux_lemma => kernel_rfl) ?_
            iterate 6 (go_big_quiet_step (fail))
            go_big_quiet_step ((go_at_call 32; exact Calls.quiet_of (C1.out _)))
            iterate 9 (go_big_quiet_step (fail))
            go_big_quiet_step ((go_at_call 32; exact Calls.quiet_of (C1.out _)))
            iterate 9 (go_big_quiet_step (fail))
            go_big_quiet_step ((go_at_call 32; exact Calls.quiet_of (C2.out _)))
            iterate 16 (go_big_quiet_step (fail))
            go_big_quiet_step ((go_at_call 32; exact Calls.quiet_of (C3.out _)))
            iterate 2 (go_big_quiet_step (fail))
            refine wpQuiet_nil ?_
            intro _ hw'
            obtain ⟨nq, hw''⟩ := hw'
            subst hw''
            go_wp2
            go_roundw
            case rel =>
              clear v1 v1n v2 v2n v3 v3n o1 s2 s2n o2 v4 v4n v5 v5n s3 s3n o3 k1 k2 k3 k4 k5 k6
              exact ⟨i + 1, _, by omega, by go_num, by rw [Hwr.out, World.drewN_drewN]⟩
            case measure => simp [intOf]; omega
          -- GE]
        · obtain rfl : i = n := by omega
          -- [GF
          have hE : wr = wc.drewN (q14 + q15 + q) := by rw [hwr, HW.out, World.drewN_drewN]
          have belE : Below w.heap.size w wr := by rw [hE]; exact below_drewN HBw.out _
          have howE : wr.ownsRow w.heap.size 27 1 (.slice (some ⟨ga, 0, none⟩) i ca) i (fl .f32 xs) := by rw [hE]; exact own_drewN HOW.out _
          clear hE hwr HW HBw HOW HK
          go_wp2_with fail
          refine (c_CepI Hm.out (Reads.of_own howE) HS.out n21).mono ?_
          rintro e w20 ⟨vC, rfl, hoC, hb20⟩
          obtain ⟨gC, cC, rfl⟩ := own_addr hoC (by omega)
          have how20 := own_below howE hb20
          have bel20 := belE.trans (hb20.mono belE.size)
          clear hb20 howE belE
          obtain ⟨pk, hpk⟩ : ∃ pk, pk + 1 = i := ⟨i - 1, by omega⟩
          have HPK := hide hpk
          have pkI : (i : Int) - 1 = (pk : Int) := by omega
          clear hpk
          have hcl : (cpL xs i m).length = i := bkL_len _ _ _
          have HO := hide (fun k (hk : k < i) => peak_ok HS.out HL.out n21 Hm.out hk)
          have hwf := cp_wf (xs := xs) (n := i) (m := m)
          have hbl := bestI_lt (cpL xs i m) i
          have HPk := hide (fun (w : World) (h : Reads w w.heap.size 1 (some ⟨ga, 0, none⟩) i (fl .f32 xs)) => c_Peak (c := ca) Hm.out h HS.out n21 HPK.out)
          have HCs := hide (fun (w : World) (h : Reads w w.heap.size 1 (some ⟨ga, 0, none⟩) i (fl .f32 xs)) => c_CepS (c := ca) Hm.out h HS.out n21)
          obtain ⟨CP, hCP⟩ : ∃ CP, cpL xs i m = CP := ⟨_, rfl⟩
          rw [hCP] at hcl HO hwf hbl HPk HCs hoC
          obtain ⟨bp, hbp⟩ : ∃ bp, bestI CP i = bp := ⟨_, rfl⟩
          rw [hbp] at HO hbl HPk
          have hbi : bp < i := by omega
          obtain ⟨MX, hMX⟩ : ∃ MX, CP.getD bp 0 = MX := ⟨_, rfl⟩
          rw [hMX] at HO HPk
          have HMX := hide hMX
          clear hCP hbp hMX hbl
          go_wp2_with fail
          refine (HPk.out _ (Reads.of_own how20)).mono ?_
          rintro e w21 ⟨rfl, hb21⟩
          have how21 := own_below how20 hb21
          have hoC21 := own_below hoC hb21
          have bel21 := bel20.trans (hb21.mono bel20.size)
          clear hb21 how20 bel20 hoC pkI HPk
          go_wp2_with fail
          refine (HCs.out _ (Reads.of_own how21)).mono ?_
          rintro e w22 ⟨vS, rfl, hoS, hb22⟩
          obtain ⟨gS, cS, rfl⟩ := own_addr hoS (by omega)
          have hoC22 := own_below hoC21 hb22
          have bel22 := bel21.trans (hb22.mono bel21.size)
          clear hb22 how21 bel21 hoC21 HCs
          have HLI := hide (l_b10ListN (c := cC) (c' := cS) (Reads.of_own hoC22) (Reads.of_own hoS) (by omega) hwf)
          have HC : Hid (∀ k, k < i → w22.cell? ⟨gC, k, none⟩ = some (.float .f32 (CP.getD k 0))) := hide (fun k hk => own_cellF hoC22 (fl_at hcl hk))
          have HSN : Hid (∀ W : World, Calls Try.prog 53 #[.float .f32 MX, .float .f32 MX] W fun e w' => e = .returned (.bool true) ∧ w' = W) := hide (fun W => s_SameNumber (hwf MX (by
            rw [← HMX.out, List.getD_eq_getElem?_getD, List.getElem?_eq_getElem (by omega)]; exact List.getElem_mem _)))
          have hcb : w22.cell? ⟨gC, bp, none⟩ = some (.float .f32 MX) := by rw [← HMX.out]; exact HC.out bp hbi
          have HB := hide bel22
          have b0 : ¬ (bp : Int) < 0 := by omega
          have bI : ¬ (i : Int) ≤ (bp : Int) := by omega
          have bI2 : (bp : Int) < (i : Int) := by omega
          clear hoC22 hoS hwf hcl bel22
          go_wp2_with fail
          refine HLI.out.mono ?_
          rintro e w' ⟨rfl, q22, rfl⟩
          clear HLI
          go_wp2_with fail
          refine (HSN.out _).mono ?_
          rintro e w' ⟨rfl, rfl⟩
          clear HSN hcb
          go_wp2_with fail
          -- GF]
          go_loopw [326] (fun v wr => ∃ k q : Nat, k ≤ i ∧ v = .int .i64 (k : Int) ∧ wr = w22.drewN q) (fun v _ => i - (intOf v).toNat)
          case atStart => exact ⟨0, _, Nat.zero_le _, rfl, rfl⟩
          case round =>
            obtain ⟨k, q, hk, rfl, rfl⟩ := hrel
            by_cases hki : k < i
            · have kI : (k : Int) < (i : Int) := by omega
              have hc : w22.cell? ⟨gC, k, none⟩ = some (.float .f32 (CP.getD k 0)) := HC.out k hki
              obtain ⟨o1, o2⟩ := HO.out k hki
              obtain ⟨X, hX⟩ : ∃ X, CP.getD k 0 = X := ⟨_, rfl⟩
              rw [hX] at hc o1 o2
              clear hX
              cases he : (FloatKind.f32.format.order X MX == some .eq) with
              | true =>
                have hkb : ¬ (k : Int) < (bp : Int) := by
                  rcases o2 with h | h
                  · rw [he] at h; cases h
                  · omega
                clear o2
                go_wp2_with fail
                go_roundw
                case rel => exact ⟨k + 1, _, by omega, by go_num, rfl⟩
                case measure => simp [intOf]; omega
              | false =>
                clear o2
                go_wp2_with fail
                go_roundw
                case rel => exact ⟨k + 1, _, by omega, by go_num, rfl⟩
                case measure => simp [intOf]; omega
            · obtain rfl : k = i := by omega
              go_wp2_with fail
              go_ret
              exact ⟨rfl, below_drewN HB.out _⟩
      -- GB]
  -- GA]
end Go.Proofs.Yteabfkgbakoljaa
