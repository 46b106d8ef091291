/-
  Marks that are written over what was loaded, and found again.
-/
import Derived.Test.YtjfmjeffmnjilaaTkC
import Derived.Test.YtjfmjeffmnjilaaTkB
namespace Go.Proofs.Ytjfmjeffmnjilaa
open Go.RowKit Fl Mem
set_option linter.unusedVariables false
set_option maxRecDepth 100000

set_option maxHeartbeats 2000000 in
theorem s_LoadSaved {s : ByteArray} {w : World} (hs : s.size ≤ 1048576) :
    Calls Try.prog 30 #[.string s] w fun e w' => ∃ q : Sv, e = .returned (.tuple #[svV q, .bool (whB s.data.toList)]) ∧ Below w.heap.size w w' ∧
      ((whB s.data.toList = false ∧ q = sv0) ∨ (whB s.data.toList = true ∧ svT q = dQ s.data.toList ∧ SvOwn w' w.heap.size q ∧ SvLe 1048576 q)) := by
  have hN : s.size = s.data.toList.length := by rw [Array.length_toList]; rfl
  obtain ⟨b, hb⟩ : ∃ b, whB s.data.toList = b := ⟨_, rfl⟩
  have Hb := hide hb
  rw [hb]
  clear hb
  go_enter Try.func30, Try.ntmps30
  go_wp2_with fail
  refine (s_l07Begin hs).mono ?_
  rintro e w1 ⟨q, n, rfl, hB, hq⟩
  have HR : Hid (Blk w1 w.heap.size 38 #[.string .empty, .int .i64 0, .slice none 0 0, .slice none 0 0]) := hide (((Blk.new w _ _)).below hB (by simp))
  have bel : Below w.heap.size w w1 := ((Below.refl _ _).alloc (Nat.le_refl _) _).trans (hB.mono (by simp))
  rcases q with ⟨nm, pp, PA, k, pc, ps, SA, m, sc, zs⟩
  have hz : w.heap.size + 1 ≤ w1.heap.size := by have := hB.size; simpa using this
  have HS := hide (Blk.new w1 38 #[.string nm, .int .i64 pp, .slice PA k pc, .slice SA m sc])
  replace HR := hide (HR.out.alloc (.cells #[.string nm, .int .i64 pp, .slice PA k pc, .slice SA m sc] 38))
  replace bel := bel.alloc (by omega) (.cells #[.string nm, .int .i64 pp, .slice PA k pc, .slice SA m sc] 38)
  clear hB
  have x0 : (w1.alloc (.cells #[.string nm, .int .i64 pp, .slice PA k pc, .slice SA m sc] 38)).cell? ⟨w1.heap.size, 0, none⟩ = some (.string nm) := HS.out.cell 0
  have x1 : (w1.alloc (.cells #[.string nm, .int .i64 pp, .slice PA k pc, .slice SA m sc] 38)).cell? ⟨w1.heap.size, 1, none⟩ = some (.int .i64 pp) := HS.out.cell 1
  have x2 : (w1.alloc (.cells #[.string nm, .int .i64 pp, .slice PA k pc, .slice SA m sc] 38)).cell? ⟨w1.heap.size, 2, none⟩ = some (.slice PA k pc) := HS.out.cell 2
  have x3 : (w1.alloc (.cells #[.string nm, .int .i64 pp, .slice PA k pc, .slice SA m sc] 38)).cell? ⟨w1.heap.size, 3, none⟩ = some (.slice SA m sc) := HS.out.cell 3
  have r0 : (w1.alloc (.cells #[.string nm, .int .i64 pp, .slice PA k pc, .slice SA m sc] 38)).cell? ⟨w.heap.size, 0, none⟩ = some (.string .empty) := HR.out.cell 0
  have r1 : (w1.alloc (.cells #[.string nm, .int .i64 pp, .slice PA k pc, .slice SA m sc] 38)).cell? ⟨w.heap.size, 1, none⟩ = some (.int .i64 0) := HR.out.cell 1
  have r2 : (w1.alloc (.cells #[.string nm, .int .i64 pp, .slice PA k pc, .slice SA m sc] 38)).cell? ⟨w.heap.size, 2, none⟩ = some (.slice none 0 0) := HR.out.cell 2
  have r3 : (w1.alloc (.cells #[.string nm, .int .i64 pp, .slice PA k pc, .slice SA m sc] 38)).cell? ⟨w.heap.size, 3, none⟩ = some (.slice none 0 0) := HR.out.cell 3
  have t0 : (w1.alloc (.cells #[.string nm, .int .i64 pp, .slice PA k pc, .slice SA m sc] 38)).frozen? ⟨w.heap.size, 0, none⟩ = false := HR.out.frozen 0
  have t1 : (w1.alloc (.cells #[.string nm, .int .i64 pp, .slice PA k pc, .slice SA m sc] 38)).frozen? ⟨w.heap.size, 1, none⟩ = false := HR.out.frozen 1
  have t2 : (w1.alloc (.cells #[.string nm, .int .i64 pp, .slice PA k pc, .slice SA m sc] 38)).frozen? ⟨w.heap.size, 2, none⟩ = false := HR.out.frozen 2
  have t3 : (w1.alloc (.cells #[.string nm, .int .i64 pp, .slice PA k pc, .slice SA m sc] 38)).frozen? ⟨w.heap.size, 3, none⟩ = false := HR.out.frozen 3
  rcases hq with ⟨h1, hn, h2⟩ | ⟨h1, hn, h2, h3, h4⟩
  · subst hn
    have HN : Hid (b = false) := hide (by rw [← Hb.out]; unfold whB; rw [h1]; rfl)
    clear h1 h2 x0 x1 x2 x3
    go_wp2
    refine bodyPost_ret (results_row_tmpS (P := Try.prog) rfl _ _ w.heap.size 38 #[.string .empty, .int .i64 0, .slice none 0 0, .slice none 0 0] (0, 0) _ rfl ((((HR.out.set_ 0 _).set_ 1 _).set_ 2 _).set_ 3 _) Try.underlying38 rfl (by kernel_rfl)) rfl ?_
    exact ⟨sv0, by rw [HN.out]; rfl, (((bel.setCell (Nat.le_refl _) _).setCell (Nat.le_refl _) _).setCell (Nat.le_refl _) _).setCell (Nat.le_refl _) _, .inl ⟨HN.out, rfl⟩⟩
  · have hE : dE s.data.toList = 10 + dC s.data.toList + 2 * dK s.data.toList + 4 * dM s.data.toList := by unfold dE dO; omega
    have hn0 : ¬ n = 0 := by omega
    have hn1 : ((n : Int) == 0) = false := by rw [beq_eq_false_iff_ne]; omega
    have H2 := hide h2
    have H3 := hide ((SvOwn.alloc h3 (.cells #[.string nm, .int .i64 pp, .slice PA k pc, .slice SA m sc] 38)).up (b' := w.heap.size + 1) (by simp))
    have H4 := hide h4
    by_cases he : n = s.size
    · have hn2 : ((n : Int) != (s.size : Int)) = false := by rw [he]; simp
      have HY : Hid (b = true) := hide (by rw [← Hb.out]; unfold whB; rw [h1, decide_eq_true (by omega)]; rfl)
      clear h1 h2 h3 h4 hE he hn hN
      go_wp2
      refine bodyPost_ret (results_row_tmpS (P := Try.prog) rfl _ _ w.heap.size 38 #[.string nm, .int .i64 pp, .slice PA k pc, .slice SA m sc] (0, 0) _ rfl ((((HR.out.set_ 0 _).set_ 1 _).set_ 2 _).set_ 3 _) Try.underlying38 rfl (by kernel_rfl)) rfl ?_
      have hw3 : w.heap.size < w.heap.size + 1 := by omega
      exact ⟨⟨nm, pp, PA, k, pc, ps, SA, m, sc, zs⟩, by rw [HY.out]; rfl, (((bel.setCell (Nat.le_refl _) _).setCell (Nat.le_refl _) _).setCell (Nat.le_refl _) _).setCell (Nat.le_refl _) _, .inr ⟨HY.out, H2.out, (((((H3.out.put (p := ⟨w.heap.size, 0, none⟩) hw3 (.string nm)).put (p := ⟨w.heap.size, 1, none⟩) hw3 (.int .i64 pp)).put (p := ⟨w.heap.size, 2, none⟩) hw3 (.slice PA k pc)).put (p := ⟨w.heap.size, 3, none⟩) hw3 (.slice SA m sc)).up (b' := w.heap.size) (by omega)), H4.out⟩⟩
    · have hn2 : ((n : Int) != (s.size : Int)) = true := by rw [bne_iff_ne]; omega
      have HN : Hid (b = false) := hide (by rw [← Hb.out]; unfold whB; rw [h1, decide_eq_false (by omega)]; rfl)
      clear h1 h2 h3 h4 hE he hn hN H2 H3 H4 x0 x1 x2 x3
      go_wp2
      refine bodyPost_ret (results_row_tmpS (P := Try.prog) rfl _ _ w.heap.size 38 #[.string .empty, .int .i64 0, .slice none 0 0, .slice none 0 0] (0, 0) _ rfl ((((HR.out.set_ 0 _).set_ 1 _).set_ 2 _).set_ 3 _) Try.underlying38 rfl (by kernel_rfl)) rfl ?_
      exact ⟨sv0, by rw [HN.out]; rfl, (((bel.setCell (Nat.le_refl _) _).setCell (Nat.le_refl _) _).setCell (Nat.le_refl _) _).setCell (Nat.le_refl _) _, .inl ⟨HN.out, rfl⟩⟩
/-- What is loaded, told by the bytes alone. -/
def ldT (l : List UInt8) : ByteArray × Int × List Int × List Nat := if whB l = true then dQ l else svT sv0
theorem sv0_own (w : World) (b : Nat) : SvOwn w b sv0 := ⟨own_nil _ _ _ _, own_nil _ _ _ _, (fun a h => by cases h), (fun a h => by cases h), by decide⟩
theorem sv0_le (n : Nat) : SvLe n sv0 := ⟨Nat.zero_le _, Nat.zero_le _, Nat.zero_le _⟩
theorem ld_both {l : List UInt8} {w' : World} {b : Nat} {q : Sv} (h : (whB l = false ∧ q = sv0) ∨ (whB l = true ∧ svT q = dQ l ∧ SvOwn w' b q ∧ SvLe 1048576 q)) : svT q = ldT l ∧ SvOwn w' b q ∧ SvLe 1048576 q := by
  unfold ldT
  rcases h with ⟨h, rfl⟩ | ⟨h, h1, h2, h3⟩
  · rw [h]; exact ⟨rfl, sv0_own _ _, sv0_le _⟩
  · rw [if_pos h]; exact ⟨h1, h2, h3⟩
theorem s_LoadSaved_told {s : ByteArray} {w : World} (hs : s.size ≤ 1048576) :
    Calls Try.prog 30 #[.string s] w fun e w' => ∃ q : Sv, e = .returned (.tuple #[svV q, .bool (whB s.data.toList)]) ∧ Below w.heap.size w w' ∧ svT q = ldT s.data.toList ∧ SvOwn w' w.heap.size q ∧ SvLe 1048576 q :=
  (s_LoadSaved hs).mono fun e w' ⟨q, h1, h2, h3⟩ => ⟨q, h1, h2, ld_both h3⟩
theorem i_LoadSaved_told {s : ByteArray} {w : World} (hs : s.size ≤ 1048576) :
    Calls Try.prog 25 #[.string s] w fun e w' => ∃ q : Sv, e = .returned (.tuple #[svV q, .bool (whB s.data.toList)]) ∧ Below w.heap.size w w' ∧ svT q = ldT s.data.toList ∧ SvOwn w' w.heap.size q ∧ SvLe 1048576 q :=
  (i_LoadSaved hs).mono fun e w' ⟨q, h1, h2, h3⟩ => ⟨q, h1, h2, ld_both h3⟩
end Go.Proofs.Ytjfmjeffmnjilaa
namespace Go.Proofs.Ytjfmjeffmnjilaa
open Go.RowKit Fl Mem
set_option linter.unusedVariables false
set_option maxRecDepth 100000

theorem own_apart_ty {w : World} {b1 b2 : Nat} {e1 e2 : TypeId} {s1 s2 n1 n2 : Nat} {v1 v2 : Value} {xs1 xs2 : List Value} (h1 : w.ownsRow b1 e1 s1 v1 n1 xs1) (h2 : w.ownsRow b2 e2 s2 v2 n2 xs2)
    (he : e1 ≠ e2) : v1.ownBlock = none ∨ v1.ownBlock ≠ v2.ownBlock := by
  rcases h1.2 with ⟨e, _⟩ | ⟨g, cap, cur, rfl, _, hg, _⟩
  · exact .inl (by rw [e]; rfl)
  · refine .inr (fun hh => ?_)
    rcases h2.2 with ⟨e, _⟩ | ⟨g', cap', cur', rfl, _, hg', _⟩
    · rw [e] at hh; cases hh
    · change some g = some g' at hh
      injection hh with hh
      subst hh
      rw [hg] at hg'
      injection hg' with hg'
      injection hg' with _ h3 _
      exact he h3
set_option maxHeartbeats 1000000 in
theorem l_markSystem {st : Int} {A : Option Addr} {n c : Nat} {ps : List Int} {b : Nat} {w : World} {k : Int} (h : w.ownsRow b 2 1 (.slice A n c) n (il ps)) (h0 : 0 ≤ k) (hk : n + k ≤ 1099511627776) :
    Calls Try.prog 64 #[sysV st A n c, .int .i64 k] w fun e w' => e = .returned (.int .i64 (k + n)) ∧ w'.ownsRow b 2 1 (.slice A n c) n (marksOf mkI k.toNat n) ∧ w.grownBy w' (Value.slice A n c).ownBlock := by
  have HO := fun o => World.ownsRow.alloc h o
  go_enter Try.func64, Try.ntmps64
  go_wp2_with (go_at_call 69; refine (markI (HO _) h0 hk).mono ?_; rintro e w3 ⟨rfl, ho, hg⟩)
  go_ret
  exact ⟨rfl, ho, grownBy_trans (grownBy_below ((Below.refl _ _).alloc (Nat.le_refl _) _) _) hg⟩
set_option maxHeartbeats 1000000 in
theorem l_heldSystem {st : Int} {A : Option Addr} {n c B : Nat} {w : World} {k : Int} (h : Reads w B 1 A n (marksOf mkI k.toNat n)) (hB : B ≤ w.heap.size) (h0 : 0 ≤ k) (hk : n + k ≤ 1099511627776) :
    Calls Try.prog 66 #[sysV st A n c, .int .i64 k] w fun e w' => e = .returned (.int .i64 (k + n)) ∧ Below w.heap.size w w' := by
  have HO := fun o => h.alloc hB o
  have i1 : ¬ k + (n : Int) < 0 := by omega
  go_enter Try.func66, Try.ntmps66
  go_wp2_with (go_at_call 70; refine (heldI (HO _) h0 hk).mono ?_; rintro e w3 ⟨rfl, hg⟩)
  go_ret
  exact ⟨rfl, ((Below.refl _ _).alloc (Nat.le_refl _) _).trans (hg.mono (by simp))⟩
set_option maxHeartbeats 2000000 in
theorem l_markSaved {s : Sv} {b : Nat} {w : World} {k : Int} (h : SvOwn w b s) (hle : SvLe 1048576 s) (hb : b ≤ w.heap.size) (h0 : 0 ≤ k) (hk : k ≤ 1048576) :
    Calls Try.prog 31 #[svV s, .int .i64 k] w fun e w' => e = .returned (.int .i64 (k + s.pn + s.sn)) ∧ w'.ownsRow b 2 1 (.slice s.PA s.pn s.pc) s.pn (marksOf mkI k.toNat s.pn) ∧
      w'.ownsRow b 63 1 (.slice s.SA s.sn s.sc) s.sn (marksOf mkF (k + s.pn).toNat s.sn) ∧ Below b w w' ∧
      ∀ g, g < w.heap.size → (Value.slice s.PA s.pn s.pc).ownBlock ≠ some g → (Value.slice s.SA s.sn s.sc).ownBlock ≠ some g → w'.heap[g]? = w.heap[g]? := by
  rcases s with ⟨nm, parts, PA, pn, pc, ps, SA, sn, sc, xs⟩
  obtain ⟨hP, hS, _, _, _⟩ := h
  have l1 := hle.pn
  have l2 := hle.sn
  dsimp only at hP hS l1 l2 ⊢
  have HP := fun o => World.ownsRow.alloc hP o
  have HS := fun o => World.ownsRow.alloc hS o
  have hap := own_apart_ty hS hP (by decide)
  have hap2 := own_apart_ty hP hS (by decide)
  go_enter Try.func31, Try.ntmps31
  go_wp2_with fail
  refine (l_markSystem (HP _) h0 (by omega)).mono ?_
  rintro e w3 ⟨rfl, ho, hg⟩
  have hlow : ∀ g, (Value.slice PA pn pc).ownBlock = some g → b ≤ g := fun g e => (hP.lt g e).1
  have hlt : ∀ g, (Value.slice PA pn pc).ownBlock = some g → g < w.heap.size := fun g e => (hP.lt g e).2
  have B1 := (Blk.new w 38 #[.string nm, .int .i64 parts, .slice PA pn pc, .slice SA sn sc]).grown hg (fun e => by have := hlt _ e.symm; omega)
  have c3 : w3.cell? ⟨w.heap.size, 3, none⟩ = some (.slice SA sn sc) := B1.cell 3
  have hS3 := (HS (.cells #[.string nm, .int .i64 parts, .slice PA pn pc, .slice SA sn sc] 38)).kept hg hap
  have bel := ((Below.refl b w).alloc hb (.cells #[.string nm, .int .i64 parts, .slice PA pn pc, .slice SA sn sc] 38)).grown hg (by simp; omega) hlow
  have hz : b ≤ w3.heap.size := by have := hg.size; simp at this; omega
  have kb3 := hg.block
  have kz3 := hg.size
  clear hg B1
  go_wp2_with fail
  refine (markF hS3 (by omega) (by omega)).mono ?_
  rintro e w4 ⟨rfl, ho4, hg4⟩
  have hlow4 : ∀ g, (Value.slice SA sn sc).ownBlock = some g → b ≤ g := fun g e => (hS.lt g e).1
  have ho3 := ho.kept hg4 hap2
  have bel4 := bel.grown hg4 hz hlow4
  have kb4 := hg4.block
  clear hg4
  go_wp2
  go_ret
  rw [World.size_alloc] at kz3
  refine ⟨rfl, ho3, ho4, bel4, fun g h1 h2 h3 => ?_⟩
  have hal : (w.alloc (.cells #[.string nm, .int .i64 parts, .slice PA pn pc, .slice SA sn sc] 38)).heap[g]? = w.heap[g]? := ((Below.refl w.heap.size w).alloc (Nat.le_refl _) (.cells #[.string nm, .int .i64 parts, .slice PA pn pc, .slice SA sn sc] 38)).block g h1
  exact ((kb4 g (by omega) (fun e => h3 e.symm)).trans (kb3 g (by rw [World.size_alloc]; omega) (fun e => h2 e.symm))).trans hal
set_option maxHeartbeats 2000000 in
theorem l_heldSaved {s : Sv} {B : Nat} {w : World} {k : Int} (hP : Reads w B 1 s.PA s.pn (marksOf mkI k.toNat s.pn)) (hS : Reads w B 1 s.SA s.sn (marksOf mkF (k + s.pn).toNat s.sn)) (hB : B ≤ w.heap.size) (h0 : 0 ≤ k) (hk : k ≤ 1048576) (hle : SvLe 1048576 s) :
    Calls Try.prog 32 #[svV s, .int .i64 k] w fun e w' => e = .returned (.int .i64 (k + s.pn + s.sn)) ∧ Below w.heap.size w w' := by
  rcases s with ⟨nm, parts, PA, pn, pc, ps, SA, sn, sc, xs⟩
  have l1 := hle.pn
  have l2 := hle.sn
  dsimp only at hP hS l1 l2 ⊢
  have HP := fun o => hP.alloc hB o
  have HS := fun o => hS.alloc hB o
  have i1 : ¬ k + (pn : Int) < 0 := by omega
  have i2 : ¬ k + (pn : Int) + (sn : Int) < 0 := by omega
  go_enter Try.func32, Try.ntmps32
  go_wp2_with fail
  refine (l_heldSystem (HP _) (by simp; omega) h0 (by omega)).mono ?_
  rintro e w3 ⟨rfl, hb⟩
  have B1 := (Blk.new w 38 #[.string nm, .int .i64 parts, .slice PA pn pc, .slice SA sn sc]).below hb (by simp)
  have c3 : w3.cell? ⟨w.heap.size, 3, none⟩ = some (.slice SA sn sc) := B1.cell 3
  have hS3 := (HS (.cells #[.string nm, .int .i64 parts, .slice PA pn pc, .slice SA sn sc] 38)).below (hb.mono (by simp; omega))
  have bel := ((Below.refl w.heap.size w).alloc (Nat.le_refl _) (.cells #[.string nm, .int .i64 parts, .slice PA pn pc, .slice SA sn sc] 38)).trans (hb.mono (by simp))
  clear hb B1
  go_wp2_with fail
  refine (heldF hS3 (by omega) (by omega)).mono ?_
  rintro e w4 ⟨rfl, hb4⟩
  have bel4 := bel.trans (hb4.mono bel.size)
  clear hb4
  go_wp2
  go_ret
  exact ⟨rfl, bel4⟩
/-- The lists' blocks lie under a bound. -/
structure SvLt (B : Nat) (s : Sv) : Prop where
  paths : ∀ g, (Value.slice s.PA s.pn s.pc).ownBlock = some g → g < B
  sig : ∀ g, (Value.slice s.SA s.sn s.sc).ownBlock = some g → g < B
theorem SvOwn.lts {w : World} {b : Nat} {s : Sv} (h : SvOwn w b s) : SvLt w.heap.size s := ⟨fun g hg => (h.paths.lt g hg).2, fun g hg => (h.sig.lt g hg).2⟩
theorem SvOwn.under {w w' : World} {b B : Nat} {s : Sv} (h : SvOwn w b s) (hb : Below B w w') (hl : SvLt B s) : SvOwn w' b s := ⟨own_kept_lt h.paths hb hl.paths, own_kept_lt h.sig hb hl.sig, h.wf, h.wfi, h.wfp⟩
end Go.Proofs.Ytjfmjeffmnjilaa
