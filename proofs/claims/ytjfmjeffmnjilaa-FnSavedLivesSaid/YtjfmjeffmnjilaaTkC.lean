/-
  What bytes begin with: the reference's walk.
-/
import Derived.Test.YtjfmjeffmnjilaaTkB
import Derived.Deep.RegionLaw
import Derived.Test.YtjfmjeffmnjilaaBelW
namespace Go.Proofs.Ytjfmjeffmnjilaa
open Go.RowKit Fl Mem
set_option linter.unusedVariables false
set_option maxRecDepth 100000

theorem wf_byte2 {a : Nat} (h : a < 65536) : (Lit.int .i64 (a : Int)).wf = true := wf_small (by omega) (by omega)
theorem st_told {p : Addr} {w : World} {nm M : ByteArray} {parts : Int} {ps : List Int} {xs : List Nat} (h : Calls Try.prog 53 #[.pointer (some p)] w fun e w' => e = .returned (.string (stored nm parts ps xs)) ∧ Below w.heap.size w w') (hM : stored nm parts ps xs = M) :
    Calls Try.prog 53 #[.pointer (some p)] w fun e w' => e = .returned (.string M) ∧ Below w.heap.size w w' := hM ▸ h
theorem s_FromBitsT {m : Nat} {w : World} (hm : m < 4294967296) : Calls Try.prog 96 #[.int .i64 (m : Int)] w fun e w' => e = .returned (.tuple #[.float .f32 m, .bool true]) ∧ w' = w := (s_FromBits hm).mono fun _ _ k => ⟨k.1, k.2.symm⟩
theorem w_num {x : Int} {n : Nat} (h : x = (n : Int)) (hn : n < 1099511627776) : IntKind.i64.wrap x = (n : Int) := by rw [IntKind.wrap_i64]; omega
theorem at_of {s : ByteArray} {l : List UInt8} {a : Nat} (HL : Hid (s.data.toList = l)) (h : a < s.size) : l[a]? = some (s[a]'h) := by
  rw [← HL.out, List.getElem?_eq_getElem (show a < s.data.toList.length by simp only [Array.length_toList]; exact h)]; rfl
theorem by_of (c : UInt8) : ∃ m : Nat, (c.toNat : Int) = (m : Int) ∧ c.toNat = m ∧ m < 256 := ⟨c.toNat, rfl, rfl, c.toNat_lt⟩
set_option maxHeartbeats 4000000 in
theorem s_l07Begin {s : ByteArray} {w : World} (hs : s.size ≤ 1048576) :
    Calls Try.prog 63 #[.string s] w fun e w' => ∃ (q : Sv) (n : Nat), e = .returned (.tuple #[svV q, .int .i64 (n : Int)]) ∧ Below w.heap.size w w' ∧
      ((begB s.data.toList = false ∧ n = 0 ∧ q = sv0) ∨ (begB s.data.toList = true ∧ n = dE s.data.toList ∧ svT q = dQ s.data.toList ∧ SvOwn w' w.heap.size q ∧ SvLe 1048576 q)) := by
  obtain ⟨l, hl⟩ : ∃ l, s.data.toList = l := ⟨_, rfl⟩
  have hN : s.size = l.length := by rw [← hl, Array.length_toList]; rfl
  have HL := hide hl
  have HN0 := hide hN
  have hEb : dE l = 10 + dC l + 2 * dK l + 4 * dM l := by unfold dE dO; omega
  have HE := hide hEb
  rw [hl]
  clear hl
  have HR : Hid (Blk (w.alloc (.cells #[.string .empty, .int .i64 0, .slice none 0 0, .slice none 0 0] 38)) w.heap.size 38 #[.string .empty, .int .i64 0, .slice none 0 0, .slice none 0 0]) := hide (Blk.new w _ _)
  have bel : Below w.heap.size w (w.alloc (.cells #[.string .empty, .int .i64 0, .slice none 0 0, .slice none 0 0] 38)) := (Below.refl _ _).alloc (Nat.le_refl _) _
  by_cases h5 : s.size < 5
  · -- [A
    have g1 : (s.size : Int) < 5 := by omega
    have HN : Hid (begB l = false) := hide (begB_short (by omega))
    clear hN hEb
    clear HR bel
    go_enter Try.func63, Try.ntmps63
    go_wp2
    refine bodyPost_ret (results_row_tmpS (P := Try.prog) rfl _ _ w.heap.size 38 #[.string ⟨#[]⟩, .int .i64 0, .slice none 0 0, .slice none 0 0] (0, 0) _ rfl (Blk.new w 38 #[.string ⟨#[]⟩, .int .i64 0, .slice none 0 0, .slice none 0 0]) Try.underlying38 rfl (by kernel_rfl)) rfl ?_
    exact ⟨sv0, 0, rfl, (Below.refl _ _).alloc (Nat.le_refl _) _, .inl ⟨HN.out, rfl, rfl⟩⟩
    -- A]
  · have g1 : ¬ (s.size : Int) < 5 := by omega
    clear hN hEb
    -- [B
    have h4 : 4 < s.size := by omega
    obtain ⟨c4, hc4⟩ : ∃ c, s[4]'h4 = c := ⟨_, rfl⟩
    have hl4 := at_of HL h4
    rw [hc4] at hl4
    obtain ⟨C, hC, hC', hC2⟩ := by_of c4
    have HC : Hid (dC l = C) := hide (by unfold dC; rw [rd_one hl4, hC'])
    have hCI : (C : Int) < 256 := by omega
    have hC0 : (0 : Int) ≤ (C : Int) := by omega
    clear hl4 hC' h5
    by_cases ha : s.size < 5 + C + 2
    · -- [BA
      have g2 : (s.size : Int) < 5 + (C : Int) + 2 := by omega
      have HN : Hid (begB l = false) := hide (begB_short (by have := HC.out; have := HE.out; have := HN0.out; omega))
      clear ha hC2
      clear HR bel
      go_enter Try.func63, Try.ntmps63
      go_wp2
      refine bodyPost_ret (results_row_tmpS (P := Try.prog) rfl _ _ w.heap.size 38 #[.string ⟨#[]⟩, .int .i64 0, .slice none 0 0, .slice none 0 0] (0, 0) _ rfl (Blk.new w 38 #[.string ⟨#[]⟩, .int .i64 0, .slice none 0 0, .slice none 0 0]) Try.underlying38 rfl (by kernel_rfl)) rfl ?_
      exact ⟨sv0, 0, rfl, (Below.refl _ _).alloc (Nat.le_refl _) _, .inl ⟨HN.out, rfl, rfl⟩⟩
      -- BA]
    · have g2 : ¬ (s.size : Int) < 5 + (C : Int) + 2 := by omega
      -- [BB
      have h6 : 5 + C < s.size := by omega
      have h7 : 5 + C + 1 < s.size := by omega
      obtain ⟨cp, hcp⟩ : ∃ c, s[5 + C]'h6 = c := ⟨_, rfl⟩
      obtain ⟨ck, hck⟩ : ∃ c, s[5 + C + 1]'h7 = c := ⟨_, rfl⟩
      have hlp := at_of HL h6
      rw [hcp] at hlp
      have hlk := at_of HL h7
      rw [hck] at hlk
      obtain ⟨P, hP, hP', hP2⟩ := by_of cp
      obtain ⟨K, hK, hK', hK2⟩ := by_of ck
      have HP : Hid (dP l = P) := hide (by unfold dP; rw [HC.out, rd_one hlp, hP'])
      have HK : Hid (dK l = K) := hide (by unfold dK; rw [HC.out, rd_one (by rw [show 6 + C = 5 + C + 1 by omega]; exact hlk), hK'])
      have hPI : (P : Int) < 256 := by omega
      have hP0 : (0 : Int) ≤ (P : Int) := by omega
      have hKI : (K : Int) < 256 := by omega
      have hK0 : (0 : Int) ≤ (K : Int) := by omega
      have i1 : 5 + (C : Int) < (s.size : Int) := by omega
      have i2 : 5 + (C : Int) + 1 < (s.size : Int) := by omega
      clear hlp hlk hP' hK'
      by_cases hb : s.size < 5 + C + 2 + 2 * K + 1
      · -- [BBA
        have g3 : (s.size : Int) < 5 + (C : Int) + 2 + 2 * (K : Int) + 1 := by omega
        have HN : Hid (begB l = false) := hide (begB_short (by have := HC.out; have := HK.out; have := HE.out; have := HN0.out; omega))
        clear ha hb hC2 hP2 hK2
        clear HR bel
        go_enter Try.func63, Try.ntmps63
        go_wp2
        refine bodyPost_ret (results_row_tmpS (P := Try.prog) rfl _ _ w.heap.size 38 #[.string ⟨#[]⟩, .int .i64 0, .slice none 0 0, .slice none 0 0] (0, 0) _ rfl ((Blk.new w 38 #[.string ⟨#[]⟩, .int .i64 0, .slice none 0 0, .slice none 0 0]).alloc _) Try.underlying38 rfl (by kernel_rfl)) rfl ?_
        exact ⟨sv0, 0, rfl, ((Below.refl _ _).alloc (Nat.le_refl _) _).alloc (by simp) _, .inl ⟨HN.out, rfl, rfl⟩⟩
        -- BBA]
      · have g3 : ¬ (s.size : Int) < 5 + (C : Int) + 2 + 2 * (K : Int) + 1 := by omega
        -- [BBB
        obtain ⟨nm, hnm⟩ : ∃ nm, s.extract 5 (5 + C) = nm := ⟨_, rfl⟩
        have HNm : Hid (dN l = nm) := hide (ba_ext' (by
          rw [← hnm, extract_list, HL.out]; unfold dN; rw [HC.out]))
        have HNs : Hid (nm.size ≤ 1048576) := hide (by rw [← hnm, ByteArray.size_extract]; omega)
        clear HR bel
        have HX : Hid (Blk ((w.alloc (.cells #[.string ⟨#[]⟩, .int .i64 0, .slice none 0 0, .slice none 0 0] 38)).alloc (.cells #[.string nm, .int .i64 (P : Int), .slice none 0 0, .slice none 0 0] 38)) (w.heap.size + 1) 38 #[.string nm, .int .i64 (P : Int), .slice none 0 0, .slice none 0 0]) := hide (blk_new' _ _ _ _ (by simp))
        have HR : Hid (Blk ((w.alloc (.cells #[.string ⟨#[]⟩, .int .i64 0, .slice none 0 0, .slice none 0 0] 38)).alloc (.cells #[.string nm, .int .i64 (P : Int), .slice none 0 0, .slice none 0 0] 38)) w.heap.size 38 #[.string .empty, .int .i64 0, .slice none 0 0, .slice none 0 0]) := hide ((Blk.new w _ _).alloc _)
        have bel : Below w.heap.size w ((w.alloc (.cells #[.string ⟨#[]⟩, .int .i64 0, .slice none 0 0, .slice none 0 0] 38)).alloc (.cells #[.string nm, .int .i64 (P : Int), .slice none 0 0, .slice none 0 0] 38)) := ((Below.refl _ _).alloc (Nat.le_refl _) _).alloc (by simp) _
        go_enter Try.func63, Try.ntmps63
        go_wp2
        clear hC hP hK hcp hck hc4 hnm i1 i2 g1 g2
        go_loopw [4, 6] (fun v4 v6 wr => ∃ (k j a : Nat) (PA : Option Addr) (pc : Nat) (ps : List Int), Hid (k + j = K) ∧ Hid (a = 7 + C + 2 * k) ∧ v4 = .int .i64 (a : Int) ∧ v6 = .int .i64 (j : Int) ∧ Hid (Blk wr w.heap.size 38 #[.string .empty, .int .i64 0, .slice none 0 0, .slice none 0 0]) ∧ Hid (Blk wr (w.heap.size + 1) 38 #[.string nm, .int .i64 (P : Int), .slice PA k pc, .slice none 0 0]) ∧ Hid (wr.ownsRow (w.heap.size + 2) 2 1 (.slice PA k pc) k (il ps)) ∧ Hid (ps = dPs l k) ∧ Hid (∀ p ∈ ps, 0 ≤ p ∧ p < 65536) ∧ Below w.heap.size w wr ∧ w.heap.size + 2 ≤ wr.heap.size) (fun _ v6 _ => (intOf v6).toNat)
        case atStart => exact ⟨0, K, 7 + C + 2 * 0, none, 0, [], hide (by omega), hide rfl, by (congr 1; omega), rfl, HR, HX, hide (own_nil _ _ _ _), hide rfl, hide (fun p hp => by cases hp), bel, by simp⟩
        case round =>
          clear HR HX bel
          obtain ⟨k, j, a, PA, pc, ps, hkj, hak, rfl, rfl, HR, HX, HO, HPs, HB, bel, hzr⟩ := hrel
          by_cases hj : j = 0
          · subst hj
            have gj : ¬ (0 : Int) < ((0 : Nat) : Int) := by omega
            -- [EXIT
            have h8 : a < s.size := by have := hak.out; have := hkj.out; omega
            obtain ⟨cm, hcm⟩ : ∃ c, s[a]'h8 = c := ⟨_, rfl⟩
            have hlm := at_of HL h8
            rw [hcm] at hlm
            obtain ⟨M, hM, hM', hM2⟩ := by_of cm
            have hkK : k = K := by have := hkj.out; omega
            have HM : Hid (dM l = M) := hide (by unfold dM dO; rw [HC.out, HK.out, ← hkK, ← hak.out, rd_one hlm, hM'])
            have HkK := hide hkK
            have hMI : (M : Int) < 256 := by omega
            have hM0 : (0 : Int) ≤ (M : Int) := by omega
            have i1 : (a : Int) < (s.size : Int) := by omega
            clear hlm hM' hkK
            by_cases hc : s.size < a + 1 + 4 * M + 2
            · -- [EA
              have g4 : (s.size : Int) < (a : Int) + 1 + 4 * (M : Int) + 2 := by omega
              have HN : Hid (begB l = false) := hide (begB_short (by have := HC.out; have := HK.out; have := HM.out; have := HE.out; have := HN0.out; have := hak.out; have := HkK.out; omega))
              clear hc ha hb hC2 hP2 hK2 hM2 HX HO HPs HB hzr
              have r0 : wr.cell? ⟨w.heap.size, 0, none⟩ = some (.string .empty) := HR.out.cell 0
              have r1 : wr.cell? ⟨w.heap.size, 1, none⟩ = some (.int .i64 0) := HR.out.cell 1
              have r2 : wr.cell? ⟨w.heap.size, 2, none⟩ = some (.slice none 0 0) := HR.out.cell 2
              have r3 : wr.cell? ⟨w.heap.size, 3, none⟩ = some (.slice none 0 0) := HR.out.cell 3
              have t0 : wr.frozen? ⟨w.heap.size, 0, none⟩ = false := HR.out.frozen 0
              have t1 : wr.frozen? ⟨w.heap.size, 1, none⟩ = false := HR.out.frozen 1
              have t2 : wr.frozen? ⟨w.heap.size, 2, none⟩ = false := HR.out.frozen 2
              have t3 : wr.frozen? ⟨w.heap.size, 3, none⟩ = false := HR.out.frozen 3
              clear HC HP HK HNm HNs HE HN0 HM hkj hak HkK
              go_wp2
              refine bodyPost_ret (results_row_tmpS (P := Try.prog) rfl _ _ w.heap.size 38 #[.string .empty, .int .i64 0, .slice none 0 0, .slice none 0 0] (0, 0) _ rfl ((((HR.out.set_ 0 _).set_ 1 _).set_ 2 _).set_ 3 _) Try.underlying38 rfl (by kernel_rfl)) rfl ?_
              exact ⟨sv0, 0, rfl, (((bel.setCell (Nat.le_refl _) _).setCell (Nat.le_refl _) _).setCell (Nat.le_refl _) _).setCell (Nat.le_refl _) _, .inl ⟨HN.out, rfl, rfl⟩⟩
              -- EA]
            · have g4 : ¬ (s.size : Int) < (a : Int) + 1 + 4 * (M : Int) + 2 := by omega
              -- [EB
              have hkK := HkK.out
              subst hkK
              clear HkK hkj
              obtain ⟨B2, hB2⟩ : ∃ B2, wr.heap.size = B2 := ⟨_, rfl⟩
              have hB2z : w.heap.size + 2 ≤ B2 := by omega
              have Hlt : Hid (∀ g, (Value.slice PA k pc).ownBlock = some g → g < B2) := hide (fun g hg => by have := (HO.out.lt g hg).2; omega)
              have hB2' : B2 ≤ wr.heap.size := by omega
              clear hB2 hzr
              go_wp2
              clear hM hcm gj g3 i1
              go_loopw [4, 6, 7, 8] (fun v4 v6 _ _ wr => ∃ (m j e : Nat) (SA : Option Addr) (sc : Nat) (zs : List Nat), Hid (m + j = M) ∧ Hid (e = a + 1 + 4 * m) ∧ v4 = .int .i64 (e : Int) ∧ v6 = .int .i64 (j : Int) ∧ Hid (Blk wr w.heap.size 38 #[.string .empty, .int .i64 0, .slice none 0 0, .slice none 0 0]) ∧ Hid (Blk wr (w.heap.size + 1) 38 #[.string nm, .int .i64 (P : Int), .slice PA k pc, .slice SA m sc]) ∧ Hid (wr.ownsRow (w.heap.size + 2) 2 1 (.slice PA k pc) k (il ps)) ∧ Hid (wr.ownsRow B2 63 1 (.slice SA m sc) m (fl .f32 zs)) ∧ Hid (zs = dXs l m) ∧ Hid (∀ z ∈ zs, z < 4294967296) ∧ Below w.heap.size w wr ∧ B2 ≤ wr.heap.size) (fun _ v6 _ _ _ => (intOf v6).toNat)
              case atStart => exact ⟨0, M, a + 1 + 4 * 0, none, 0, [], hide (by omega), hide rfl, by first | rfl | (congr 1; omega), rfl, HR, HX, HO, hide (own_nil _ _ _ _), hide rfl, hide (fun p hp => by cases hp), bel, hB2'⟩
              case round =>
                clear HR HX HO bel hB2'
                obtain ⟨m, j, e, SA, sc, zs, hmj, hem, rfl, rfl, HR, HX, HO, HF, HZ, HY, bel, hzr⟩ := hrel
                by_cases hj : j = 0
                · subst hj
                  have gj : ¬ (0 : Int) < ((0 : Nat) : Int) := by omega
                  -- [EXIT2
                  have hmM : m = M := by have := hmj.out; omega
                  subst hmM
                  obtain ⟨f, hf⟩ : ∃ f, e + 2 = f := ⟨_, rfl⟩
                  have hfs : f ≤ s.size := by have := hem.out; omega
                  have Hf : Hid (f = dE l) := hide (by have := HE.out; rw [HC.out, HK.out, HM.out] at this; have := hem.out; have := hak.out; omega)
                  have wf1 : IntKind.i64.wrap ((e : Int) + 2) = (f : Int) := w_num (by omega) (by omega)
                  have g0 : (0 : Int) ≤ (f : Int) := by omega
                  have g5 : (f : Int) ≤ (s.size : Int) := by omega
                  have g6 : (e : Int) + 2 ≤ (s.size : Int) := by omega
                  have Hef := hide hf
                  have Hq : Hid ((nm, (P : Int), ps, zs) = dQ l) := hide (by unfold dQ; rw [HNm.out, HP.out, HK.out, HM.out, HPs.out, HZ.out])
                  have HOwn : Hid (SvOwn wr (w.heap.size + 2) ⟨nm, (P : Int), PA, k, pc, ps, SA, m, sc, zs⟩) := hide ⟨HO.out, own_up HF.out hB2z, fun a ha => HY.out a ha, fun a ha => wf_small (HB.out a ha).1 (HB.out a ha).2, wf_small (a := (P : Int)) hP0 (by omega)⟩
                  have HLe : Hid (SvLe 1048576 ⟨nm, (P : Int), PA, k, pc, ps, SA, m, sc, zs⟩) := hide ⟨HNs.out, by show k ≤ 1048576; omega, by show m ≤ 1048576; omega⟩
                  have Hb : Hid (begB l = (svB ⟨nm, (P : Int), PA, k, pc, ps, SA, m, sc, zs⟩ && decide (stored nm (P : Int) ps zs = s.extract 0 f))) := hide (by
                    rw [begB_end (by have := Hf.out; have := HN0.out; omega), ← Hq.out]
                    have h1 : (⟨(l.take (dE l)).toArray⟩ : ByteArray) = s.extract 0 f := ba_ext' (by
                      have h := extract_list s 0 f
                      rw [Nat.zero_add] at h
                      rw [h, HL.out, List.drop_zero, Hf.out])
                    rw [h1]; rfl)
                  have hzw : w.heap.size + 2 ≤ wr.heap.size := by omega
                  have c0 : ∀ q : BelW wr, q.v.cell? ⟨w.heap.size + 1, 0, none⟩ = some (.string nm) := cell_bel (by show w.heap.size + 1 < _; omega) (HX.out.cell 0)
                  have c1 : ∀ q : BelW wr, q.v.cell? ⟨w.heap.size + 1, 1, none⟩ = some (.int .i64 (P : Int)) := cell_bel (by show w.heap.size + 1 < _; omega) (HX.out.cell 1)
                  have c2 : ∀ q : BelW wr, q.v.cell? ⟨w.heap.size + 1, 2, none⟩ = some (.slice PA k pc) := cell_bel (by show w.heap.size + 1 < _; omega) (HX.out.cell 2)
                  have c3 : ∀ q : BelW wr, q.v.cell? ⟨w.heap.size + 1, 3, none⟩ = some (.slice SA m sc) := cell_bel (by show w.heap.size + 1 < _; omega) (HX.out.cell 3)
                  have HOk : Hid (∀ q : BelW wr, SvOk q.v wr.heap.size ⟨nm, (P : Int), PA, k, pc, ps, SA, m, sc, zs⟩) := hide (fun q => HOwn.out.ok.below q.h)
                  have hblk : ∀ q : BelW wr, w.heap.size + 1 < q.v.heap.size := fun q => Nat.lt_of_lt_of_le (by omega) q.h.size
                  have hBq : ∀ q : BelW wr, wr.heap.size ≤ q.v.heap.size := fun q => q.h.size
                  clear hf HO HF HY HB HZ HPs Hlt HNm HP HK HM HC HE hak hem hmj ha hb hc g4 h4 h6 h7 h8 hC2 hP2 hK2 hM2 hCI hC0 hPI hP0 hKI hK0 hMI hM0
                  cases hv : svB ⟨nm, (P : Int), PA, k, pc, ps, SA, m, sc, zs⟩ with
                  | false =>
                    -- [XA
                    have HN : Hid (begB l = false) := hide (by rw [Hb.out, hv]; rfl)
                    go_wp2_with fail
                    refine wp_region_quiet_bel (by kernel_rfl) (by kernel_rfl) ?_
                    repeat (go_big_quiet_step ((go_at_call 45; exact Calls.bel_drew (calls_bool (s_l07Saved (p := ⟨w.heap.size + 1, 0, none⟩) (c0 _) (c1 _) (c2 _) (c3 _) (HOk.out _) HLe.out.nm HLe.out.pn HLe.out.sn) hv))))
                    refine wpQuiet_nil ?_
                    intro w9 hw'
                    obtain ⟨p, rfl⟩ := hw'
                    have hqb := p.h
                    generalize p.v = wq at hqb ⊢
                    clear p
                    replace HR := hide (HR.out.below hqb (by omega))
                    replace bel := bel.trans (hqb.mono (by omega))
                    clear hqb c0 c1 c2 c3 hblk hBq hv Hb HOwn HLe HX HOk Hq Hf Hef
                    have r0 : wq.cell? ⟨w.heap.size, 0, none⟩ = some (.string .empty) := HR.out.cell 0
                    have r1 : wq.cell? ⟨w.heap.size, 1, none⟩ = some (.int .i64 0) := HR.out.cell 1
                    have r2 : wq.cell? ⟨w.heap.size, 2, none⟩ = some (.slice none 0 0) := HR.out.cell 2
                    have r3 : wq.cell? ⟨w.heap.size, 3, none⟩ = some (.slice none 0 0) := HR.out.cell 3
                    have t0 : wq.frozen? ⟨w.heap.size, 0, none⟩ = false := HR.out.frozen 0
                    have t1 : wq.frozen? ⟨w.heap.size, 1, none⟩ = false := HR.out.frozen 1
                    have t2 : wq.frozen? ⟨w.heap.size, 2, none⟩ = false := HR.out.frozen 2
                    have t3 : wq.frozen? ⟨w.heap.size, 3, none⟩ = false := HR.out.frozen 3
                    go_wp2
                    refine bodyPost_ret (results_row_tmpS (P := Try.prog) rfl _ _ w.heap.size 38 #[.string .empty, .int .i64 0, .slice none 0 0, .slice none 0 0] (0, 0) _ rfl ((((HR.out.set_ 0 _).set_ 1 _).set_ 2 _).set_ 3 _) Try.underlying38 rfl (by kernel_rfl)) rfl ?_
                    exact ⟨sv0, 0, rfl, (((bel.setCell (Nat.le_refl _) _).setCell (Nat.le_refl _) _).setCell (Nat.le_refl _) _).setCell (Nat.le_refl _) _, .inl ⟨HN.out, rfl, rfl⟩⟩
                    -- XA]
                  | true =>
                    obtain ⟨St, hSt⟩ : ∃ St, stored nm (P : Int) ps zs = St := ⟨_, rfl⟩
                    rcases Classical.em (St = s.extract 0 f) with hX | hX
                    · -- [XB
                      have hk1 : (!St.toList == (s.extract 0 f).toList) = false := by rw [strNe, decide_eq_true hX]; rfl
                      have HYs : Hid (begB l = true) := hide (by rw [Hb.out, hv, hSt, decide_eq_true hX]; rfl)
                      clear hX Hb
                      go_wp2_with fail
                      refine wp_region_quiet_bel (by kernel_rfl) (by kernel_rfl) ?_
                      repeat (go_big_quiet_step ((first | (go_at_call 45; exact Calls.bel_drew (calls_bool (s_l07Saved (p := ⟨w.heap.size + 1, 0, none⟩) (c0 _) (c1 _) (c2 _) (c3 _) (HOk.out _) HLe.out.nm HLe.out.pn HLe.out.sn) hv)) | (go_at_call 53; exact Calls.bel_of (st_told (s_l07Store (p := ⟨w.heap.size + 1, 0, none⟩) (c0 _) (c1 _) (c2 _) (c3 _) (hblk _) (HOk.out _) (hBq _) hv) hSt)))))
                      refine wpQuiet_nil ?_
                      intro w9 hw'
                      obtain ⟨p, rfl⟩ := hw'
                      have hqb := p.h
                      generalize p.v = wq at hqb ⊢
                      clear p
                      have R9 := hide (HR.out.below hqb (by omega))
                      have S9 := hide (HX.out.below hqb (by omega))
                      have O9 := hide (HOwn.out.below hqb)
                      have bel9 := bel.trans (hqb.mono (by omega))
                      clear hqb c0 c1 c2 c3 hblk hBq hv HOwn HX HOk HR bel hSt hk1
                      have x0 : wq.cell? ⟨w.heap.size + 1, 0, none⟩ = some (.string nm) := S9.out.cell 0
                      have x1 : wq.cell? ⟨w.heap.size + 1, 1, none⟩ = some (.int .i64 (P : Int)) := S9.out.cell 1
                      have x2 : wq.cell? ⟨w.heap.size + 1, 2, none⟩ = some (.slice PA k pc) := S9.out.cell 2
                      have x3 : wq.cell? ⟨w.heap.size + 1, 3, none⟩ = some (.slice SA m sc) := S9.out.cell 3
                      have HR := R9
                      have r0 : wq.cell? ⟨w.heap.size, 0, none⟩ = some (.string .empty) := HR.out.cell 0
                      have r1 : wq.cell? ⟨w.heap.size, 1, none⟩ = some (.int .i64 0) := HR.out.cell 1
                      have r2 : wq.cell? ⟨w.heap.size, 2, none⟩ = some (.slice none 0 0) := HR.out.cell 2
                      have r3 : wq.cell? ⟨w.heap.size, 3, none⟩ = some (.slice none 0 0) := HR.out.cell 3
                      have t0 : wq.frozen? ⟨w.heap.size, 0, none⟩ = false := HR.out.frozen 0
                      have t1 : wq.frozen? ⟨w.heap.size, 1, none⟩ = false := HR.out.frozen 1
                      have t2 : wq.frozen? ⟨w.heap.size, 2, none⟩ = false := HR.out.frozen 2
                      have t3 : wq.frozen? ⟨w.heap.size, 3, none⟩ = false := HR.out.frozen 3
                      clear HR
                      go_wp2
                      have HB9 := hide ((((bel9.setCell (p := ⟨w.heap.size, 0, none⟩) (Nat.le_refl _) (.string nm)).setCell (p := ⟨w.heap.size, 1, none⟩) (Nat.le_refl _) (.int .i64 (P : Int))).setCell (p := ⟨w.heap.size, 2, none⟩) (Nat.le_refl _) (.slice PA k pc)).setCell (p := ⟨w.heap.size, 3, none⟩) (Nat.le_refl _) (.slice SA m sc))
                      have hw3 : w.heap.size < w.heap.size + 2 := by omega
                      have HP9 := hide (((((O9.out.put (p := ⟨w.heap.size, 0, none⟩) hw3 (.string nm)).put (p := ⟨w.heap.size, 1, none⟩) hw3 (.int .i64 (P : Int))).put (p := ⟨w.heap.size, 2, none⟩) hw3 (.slice PA k pc)).put (p := ⟨w.heap.size, 3, none⟩) hw3 (.slice SA m sc)).up (b' := w.heap.size) (by omega))
                      refine bodyPost_ret (results_row_tmpS (P := Try.prog) rfl _ _ w.heap.size 38 #[.string nm, .int .i64 (P : Int), .slice PA k pc, .slice SA m sc] (0, 0) _ rfl ((((R9.out.set_ 0 _).set_ 1 _).set_ 2 _).set_ 3 _) Try.underlying38 rfl (by kernel_rfl)) rfl ?_
                      exact ⟨⟨nm, (P : Int), PA, k, pc, ps, SA, m, sc, zs⟩, f, rfl, HB9.out, .inr ⟨HYs.out, Hf.out, Hq.out, HP9.out, HLe.out⟩⟩
                      -- XB]
                    · -- [XC
                      have hk1 : (!St.toList == (s.extract 0 f).toList) = true := by rw [strNe, decide_eq_false hX]; rfl
                      have HN : Hid (begB l = false) := hide (by rw [Hb.out, hv, hSt, decide_eq_false hX]; rfl)
                      clear hX Hb
                      go_wp2_with fail
                      refine wp_region_quiet_bel (by kernel_rfl) (by kernel_rfl) ?_
                      repeat (go_big_quiet_step ((first | (go_at_call 45; exact Calls.bel_drew (calls_bool (s_l07Saved (p := ⟨w.heap.size + 1, 0, none⟩) (c0 _) (c1 _) (c2 _) (c3 _) (HOk.out _) HLe.out.nm HLe.out.pn HLe.out.sn) hv)) | (go_at_call 53; exact Calls.bel_of (st_told (s_l07Store (p := ⟨w.heap.size + 1, 0, none⟩) (c0 _) (c1 _) (c2 _) (c3 _) (hblk _) (HOk.out _) (hBq _) hv) hSt)))))
                      refine wpQuiet_nil ?_
                      intro w9 hw'
                      obtain ⟨p, rfl⟩ := hw'
                      have hqb := p.h
                      generalize p.v = wq at hqb ⊢
                      clear p
                      replace HR := hide (HR.out.below hqb (by omega))
                      replace bel := bel.trans (hqb.mono (by omega))
                      clear hqb c0 c1 c2 c3 hblk hBq hv HOwn HLe HX HOk Hq Hf Hef hSt hk1
                      have r0 : wq.cell? ⟨w.heap.size, 0, none⟩ = some (.string .empty) := HR.out.cell 0
                      have r1 : wq.cell? ⟨w.heap.size, 1, none⟩ = some (.int .i64 0) := HR.out.cell 1
                      have r2 : wq.cell? ⟨w.heap.size, 2, none⟩ = some (.slice none 0 0) := HR.out.cell 2
                      have r3 : wq.cell? ⟨w.heap.size, 3, none⟩ = some (.slice none 0 0) := HR.out.cell 3
                      have t0 : wq.frozen? ⟨w.heap.size, 0, none⟩ = false := HR.out.frozen 0
                      have t1 : wq.frozen? ⟨w.heap.size, 1, none⟩ = false := HR.out.frozen 1
                      have t2 : wq.frozen? ⟨w.heap.size, 2, none⟩ = false := HR.out.frozen 2
                      have t3 : wq.frozen? ⟨w.heap.size, 3, none⟩ = false := HR.out.frozen 3
                      go_wp2
                      refine bodyPost_ret (results_row_tmpS (P := Try.prog) rfl _ _ w.heap.size 38 #[.string .empty, .int .i64 0, .slice none 0 0, .slice none 0 0] (0, 0) _ rfl ((((HR.out.set_ 0 _).set_ 1 _).set_ 2 _).set_ 3 _) Try.underlying38 rfl (by kernel_rfl)) rfl ?_
                      exact ⟨sv0, 0, rfl, (((bel.setCell (Nat.le_refl _) _).setCell (Nat.le_refl _) _).setCell (Nat.le_refl _) _).setCell (Nat.le_refl _) _, .inl ⟨HN.out, rfl, rfl⟩⟩
                      -- XC]
                  -- EXIT2]
                · -- [L2
                  have gj : (0 : Int) < (j : Int) := by omega
                  have hme : e + 3 < s.size := by have := hem.out; have := hmj.out; omega
                  have hm9 : m < 256 := by have := hmj.out; omega
                  obtain ⟨b1, hb1⟩ : ∃ b, e + 1 = b := ⟨_, rfl⟩
                  obtain ⟨b2, hb2⟩ : ∃ b, e + 2 = b := ⟨_, rfl⟩
                  obtain ⟨b3, hb3⟩ : ∃ b, e + 3 = b := ⟨_, rfl⟩
                  have u0 : e < s.size := by omega
                  have u1 : b1 < s.size := by omega
                  have u2 : b2 < s.size := by omega
                  have u3 : b3 < s.size := by omega
                  obtain ⟨c0, hc0⟩ : ∃ c, s[e]'u0 = c := ⟨_, rfl⟩
                  obtain ⟨c1, hc1⟩ : ∃ c, s[b1]'u1 = c := ⟨_, rfl⟩
                  obtain ⟨c2, hc2⟩ : ∃ c, s[b2]'u2 = c := ⟨_, rfl⟩
                  obtain ⟨c3, hc3⟩ : ∃ c, s[b3]'u3 = c := ⟨_, rfl⟩
                  have l0 := at_of HL u0
                  have l1 := at_of HL u1
                  have l2 := at_of HL u2
                  have l3 := at_of HL u3
                  rw [hc0] at l0
                  rw [hc1, ← hb1] at l1
                  rw [hc2, ← hb2] at l2
                  rw [hc3, ← hb3] at l3
                  obtain ⟨D, hD, hD', hD2⟩ := by_of c0
                  obtain ⟨E, hE, hE', hE2⟩ := by_of c1
                  obtain ⟨F, hF, hF', hF2⟩ := by_of c2
                  obtain ⟨G, hG, hG', hG2⟩ := by_of c3
                  obtain ⟨y1, hy1⟩ : ∃ y, 256 * E = y := ⟨_, rfl⟩
                  obtain ⟨z1, hz1⟩ : ∃ y, D + y1 = y := ⟨_, rfl⟩
                  obtain ⟨y2, hy2⟩ : ∃ y, 65536 * F = y := ⟨_, rfl⟩
                  obtain ⟨z2, hz2⟩ : ∃ y, z1 + y2 = y := ⟨_, rfl⟩
                  obtain ⟨y3, hy3⟩ : ∃ y, 16777216 * G = y := ⟨_, rfl⟩
                  obtain ⟨z, hz⟩ : ∃ y, z2 + y3 = y := ⟨_, rfl⟩
                  have Hz : Hid (rd l (a + 1 + 4 * m) 4 = z) := hide (by rw [← hem.out, rd_four l0 l1 l2 l3, hD', hE', hF', hG']; omega)
                  have hz32 : z < 4294967296 := by omega
                  have wD : IntKind.i64.wrap (D : Int) = (D : Int) := w_num rfl (by omega)
                  have wE : IntKind.i64.wrap (E : Int) = (E : Int) := w_num rfl (by omega)
                  have wF : IntKind.i64.wrap (F : Int) = (F : Int) := w_num rfl (by omega)
                  have wG : IntKind.i64.wrap (G : Int) = (G : Int) := w_num rfl (by omega)
                  have x1 : IntKind.i64.wrap (256 * (E : Int)) = (y1 : Int) := w_num (by omega) (by omega)
                  have x2 : IntKind.i64.wrap (65536 * (F : Int)) = (y2 : Int) := w_num (by omega) (by omega)
                  have x3 : IntKind.i64.wrap (16777216 * (G : Int)) = (y3 : Int) := w_num (by omega) (by omega)
                  have x4 : IntKind.i64.wrap ((D : Int) + (y1 : Int)) = (z1 : Int) := w_num (by omega) (by omega)
                  have x5 : IntKind.i64.wrap ((z1 : Int) + (y2 : Int)) = (z2 : Int) := w_num (by omega) (by omega)
                  have x6 : IntKind.i64.wrap ((z2 : Int) + (y3 : Int)) = (z : Int) := w_num (by omega) (by omega)
                  have v1 : IntKind.i64.wrap ((e : Int) + 1) = (b1 : Int) := w_num (by omega) (by omega)
                  have v2 : IntKind.i64.wrap ((e : Int) + 2) = (b2 : Int) := w_num (by omega) (by omega)
                  have v3 : IntKind.i64.wrap ((e : Int) + 3) = (b3 : Int) := w_num (by omega) (by omega)
                  have i0 : (e : Int) < (s.size : Int) := by omega
                  have i1 : (b1 : Int) < (s.size : Int) := by omega
                  have i2 : (b2 : Int) < (s.size : Int) := by omega
                  have i3 : (b3 : Int) < (s.size : Int) := by omega
                  obtain ⟨i, hi⟩ : ∃ i, j = i + 1 := ⟨j - 1, by omega⟩
                  have hwj : wrap64 ((j : Int) - 1) = (i : Int) := by unfold wrap64; have := hmj.out; omega
                  replace hi := hide hi
                  clear hb1 hb2 hb3 hy1 hy2 hy3 hz1 hz2 hz l0 l1 l2 l3 hD' hE' hF' hG' hD2 hE2 hF2 hG2
                  go_wp2
                  go_quiet ((go_at_call 96; exact Calls.quiet_of_same (s_FromBitsT hz32)))
                  clear wD wE wF wG x1 x2 x3 x4 x5 x6 v1 v2 v3 hc0 hc1 hc2 hc3 hD hE hF hG i1 i2 i3
                  have e3 : (wr.drewN nq).cell? ⟨w.heap.size + 1, 3, none⟩ = some (.slice SA m sc) := (HX.out.drewN nq).cell 3
                  have f3 : (wr.drewN nq).frozen? ⟨w.heap.size + 1, 3, none⟩ = false := (HX.out.drewN nq).frozen 3
                  have e3a : ((wr.drewN nq).alloc (.cells #[.float .f32 z] 63)).cell? ⟨w.heap.size + 1, 3, none⟩ = some (.slice SA m sc) := ((HX.out.drewN nq).alloc _).cell 3
                  have hzd : B2 ≤ (wr.drewN nq).heap.size := hzr
                  have hzX : w.heap.size + 1 < (wr.drewN nq).heap.size := by omega
                  go_wp2_with (at_builtin; refine wpList_append1 rfl (.tmp 125) (.tmp 127) 31 rfl B2 63 (.float .f32 0) _ 4 info_f32 Try.underlying31 rfl rfl _ _ _ rfl (own_drewN HF.out nq) rfl rfl (by omega) (by omega) hzd ?_)
                  intro v9 w9 ho9 hb9
                  obtain ⟨SA9, sc9, rfl⟩ := own_shape ho9
                  have s3 : w9.cell? ⟨w.heap.size + 1, 3, none⟩ = some (.slice SA m sc) := (hb9.cell (by show w.heap.size + 1 < _; omega)).trans e3
                  have sf3 : w9.frozen? ⟨w.heap.size + 1, 3, none⟩ = false := (hb9.frozen (by show w.heap.size + 1 < _; omega)).trans f3
                  have HR9 := hide ((Blk.below (HR.out.drewN nq) hb9 (by omega)).far (p := ⟨w.heap.size + 1, 3, none⟩) (by show w.heap.size ≠ w.heap.size + 1; omega) (.slice SA9 (m + 1) sc9))
                  have HX9 := hide ((Blk.below (HX.out.drewN nq) hb9 (by omega)).set_ 3 (.slice SA9 (m + 1) sc9))
                  have HO9 := hide (own_put (own_kept_lt (own_drewN HO.out nq) hb9 Hlt.out) (p := ⟨w.heap.size + 1, 3, none⟩) (by show w.heap.size + 1 < w.heap.size + 2; omega) (.slice SA9 (m + 1) sc9))
                  have HF9 := hide (own_put (own_fl ho9) (p := ⟨w.heap.size + 1, 3, none⟩) (by show w.heap.size + 1 < B2; omega) (.slice SA9 (m + 1) sc9))
                  have bel9 := ((below_drewN bel nq).trans (hb9.mono (by omega))).setCell (p := ⟨w.heap.size + 1, 3, none⟩) (by show w.heap.size ≤ w.heap.size + 1; omega) (.slice SA9 (m + 1) sc9)
                  have hz9 : B2 ≤ (w9.setCell ⟨w.heap.size + 1, 3, none⟩ (.slice SA9 (m + 1) sc9)).heap.size := by have := hb9.size; simp [World.setCell] at this ⊢; omega
                  have HZ9 : Hid (zs ++ [z] = dXs l (m + 1)) := hide (by
                    rw [dXs_succ, HZ.out]
                    unfold dO
                    rw [HC.out, HK.out, show 7 + C + 2 * k + 1 + 4 * m = a + 1 + 4 * m by rw [hak.out], Hz.out])
                  have HY9 : Hid (∀ x ∈ zs ++ [z], x < 4294967296) := hide (fun x hx => by
                    rcases List.mem_append.1 hx with h | h
                    · exact HY.out x h
                    · rw [List.mem_singleton] at h; subst h; exact hz32)
                  clear e3 f3 e3a ho9 hb9 HR HX HO HF HZ HY bel hzr hzd hzX
                  go_wp2
                  go_roundw
                  case rel => exact ⟨m + 1, i, e + 4, SA9, sc9, zs ++ [z], hide (by have := hmj.out; have := hi.out; omega), hide (by have := hem.out; omega), by go_num, by first | rfl | go_num, HR9, HX9, HO9, HF9, HZ9, HY9, bel9, hz9⟩
                  case measure => (have := hi.out; simp [intOf]; omega)
                  -- L2]
              -- EB]
            -- EXIT]
          · -- [L1
            have gj : (0 : Int) < (j : Int) := by omega
            have h8 : a < s.size := by have := hak.out; have := hkj.out; omega
            have h9 : a + 1 < s.size := by have := hak.out; have := hkj.out; omega
            have hk9 : k < 256 := by have := hkj.out; omega
            obtain ⟨cd, hcd⟩ : ∃ c, s[a]'h8 = c := ⟨_, rfl⟩
            obtain ⟨b, hab⟩ : ∃ b, a + 1 = b := ⟨_, rfl⟩
            have h9b : b < s.size := by omega
            obtain ⟨ce, hce⟩ : ∃ c, s[b]'h9b = c := ⟨_, rfl⟩
            have hld := at_of HL h8
            rw [hcd] at hld
            have hle := at_of HL h9b
            rw [hce, ← hab] at hle
            obtain ⟨D, hD, hD', hD2⟩ := by_of cd
            obtain ⟨E, hE, hE', hE2⟩ := by_of ce
            obtain ⟨z, hz⟩ : ∃ z, D + 256 * E = z := ⟨_, rfl⟩
            have Hz : Hid (rd l (7 + C + 2 * k) 2 = z) := hide (by rw [← hak.out, rd_two hld hle, hD', hE', hz])
            obtain ⟨y, hy⟩ : ∃ y, 256 * E = y := ⟨_, rfl⟩
            obtain ⟨i, hi⟩ : ∃ i, j = i + 1 := ⟨j - 1, by omega⟩
            have hwj : wrap64 ((j : Int) - 1) = (i : Int) := by unfold wrap64; have := hkj.out; omega
            replace hi := hide hi
            have hwD : IntKind.i64.wrap (D : Int) = (D : Int) := by rw [IntKind.wrap_i64]; omega
            have hwE : IntKind.i64.wrap (E : Int) = (E : Int) := by rw [IntKind.wrap_i64]; omega
            have hwy : IntKind.i64.wrap (256 * (E : Int)) = (y : Int) := by rw [IntKind.wrap_i64]; omega
            have hwz : IntKind.i64.wrap ((D : Int) + (y : Int)) = (z : Int) := by rw [IntKind.wrap_i64]; omega
            have hwb : IntKind.i64.wrap ((a : Int) + 1) = (b : Int) := by rw [IntKind.wrap_i64]; omega
            have hDI : (D : Int) < 256 := by omega
            have hD0 : (0 : Int) ≤ (D : Int) := by omega
            have hEI : (E : Int) < 256 := by omega
            have hE0 : (0 : Int) ≤ (E : Int) := by omega
            have hz2 : z < 65536 := by omega
            have i1 : (a : Int) < (s.size : Int) := by omega
            have i2 : (b : Int) < (s.size : Int) := by omega
            clear hld hle hD' hE' hz hy hab hD2 hE2
            have e2 : wr.cell? ⟨w.heap.size + 1, 2, none⟩ = some (.slice PA k pc) := HX.out.cell 2
            have f2 : wr.frozen? ⟨w.heap.size + 1, 2, none⟩ = false := HX.out.frozen 2
            have e2a : (wr.alloc (.cells #[.int .i64 (z : Int)] 2)).cell? ⟨w.heap.size + 1, 2, none⟩ = some (.slice PA k pc) := (HX.out.alloc _).cell 2
            have HOd : wr.drew.ownsRow (w.heap.size + 2) 2 1 (.slice PA k pc) k (il ps) := HO.out
            have hzd : w.heap.size + 2 ≤ wr.drew.heap.size := hzr
            go_wp2
            go_region_law (refine step_append1c rfl (.tmp 55) (.tmp 67) 28 rfl (w.heap.size + 2) 2 (.int .i64 0) _ 8 info_i64 Try.underlying28 rfl rfl (.slice PA k pc) k (il ps) (by simp [Act.eval]; done) HOd (by simp [Act.eval]; done) rfl (by omega) (by omega) hzd ?_; intro v8 w8 hown8 hb8; obtain ⟨PA8, pc8, rfl⟩ := own_shape hown8; have s2 : w8.cell? ⟨w.heap.size + 1, 2, none⟩ = some (.slice PA k pc) := (hb8.cell (by show w.heap.size + 1 < _; omega)).trans e2; have sf2 : w8.frozen? ⟨w.heap.size + 1, 2, none⟩ = false := (hb8.frozen (by show w.heap.size + 1 < _; omega)).trans f2)
            all_goals clear e2 f2 e2a s2 sf2
            all_goals have HR8 := hide ((Blk.below (w := wr.drew) HR.out hb8 (by omega)).far (p := ⟨w.heap.size + 1, 2, none⟩) (by show w.heap.size ≠ w.heap.size + 1; omega) (.slice PA8 (k + 1) pc8))
            all_goals have HX8 := hide ((Blk.below (w := wr.drew) HX.out hb8 (by omega)).set_ 2 (.slice PA8 (k + 1) pc8))
            all_goals have HO8 := hide (own_put (own_il hown8) (p := ⟨w.heap.size + 1, 2, none⟩) (by show w.heap.size + 1 < w.heap.size + 2; omega) (.slice PA8 (k + 1) pc8))
            all_goals have bel8 := (bel.drew.trans (hb8.mono (by omega))).setCell (p := ⟨w.heap.size + 1, 2, none⟩) (by show w.heap.size ≤ w.heap.size + 1; omega) (.slice PA8 (k + 1) pc8)
            all_goals have hz8 : w.heap.size + 2 ≤ (w8.setCell ⟨w.heap.size + 1, 2, none⟩ (.slice PA8 (k + 1) pc8)).heap.size := by have := hb8.size; simp [World.setCell] at this ⊢; omega
            all_goals have HP8 : Hid (ps ++ [(z : Int)] = dPs l (k + 1)) := hide (by rw [dPs_succ, HC.out, Hz.out, HPs.out])
            all_goals have HB8 : Hid (∀ p ∈ ps ++ [(z : Int)], 0 ≤ p ∧ p < 65536) := hide (fun p hp => by
              rcases List.mem_append.1 hp with h | h
              · exact HB.out p h
              · rw [List.mem_singleton] at h; subst h; omega)
            all_goals clear hown8 hb8 HR HX HO HOd HPs HB bel hzr hzd
            all_goals go_wp2
            all_goals go_roundw
            all_goals first | exact ⟨k + 1, i, a + 2, PA8, pc8, ps ++ [(z : Int)], hide (by have := hkj.out; have := hi.out; omega), hide (by have := hak.out; omega), by go_num, by first | rfl | go_num, HR8, HX8, HO8, HP8, HB8, bel8, hz8⟩ | (have := hi.out; simp [intOf]; omega)
            -- L1]
        -- BBB]
      -- BB]
    -- B]
end Go.Proofs.Ytjfmjeffmnjilaa
