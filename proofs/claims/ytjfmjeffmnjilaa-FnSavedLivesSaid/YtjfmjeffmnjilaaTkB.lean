/-
  What bytes begin with: the reference's walk.
-/
import Derived.Test.YtjfmjeffmnjilaaTkT
namespace Go.Proofs.Ytjfmjeffmnjilaa
open Go.RowKit Fl Mem
set_option linter.unusedVariables false
set_option maxRecDepth 100000

/-- Is a text just what is saved. -/
def whB (l : List UInt8) : Bool := begB l && decide (dE l = l.length)
theorem SvOwn.alloc {w : World} {b : Nat} {s : Sv} (h : SvOwn w b s) (o : Obj) : SvOwn (w.alloc o) b s := ⟨World.ownsRow.alloc h.paths o, World.ownsRow.alloc h.sig o, h.wf, h.wfi, h.wfp⟩
set_option maxHeartbeats 2000000 in
theorem i_LoadSaved {s : ByteArray} {w : World} (hs : s.size ≤ 1048576) :
    Calls Try.prog 25 #[.string s] w fun e w' => ∃ q : Sv, e = .returned (.tuple #[svV q, .bool (whB s.data.toList)]) ∧ Below w.heap.size w w' ∧
      ((whB s.data.toList = false ∧ q = sv0) ∨ (whB s.data.toList = true ∧ svT q = dQ s.data.toList ∧ SvOwn w' w.heap.size q ∧ SvLe 1048576 q)) := by
  have hN : s.size = s.data.toList.length := by rw [Array.length_toList]; rfl
  obtain ⟨b, hb⟩ : ∃ b, whB s.data.toList = b := ⟨_, rfl⟩
  have Hb := hide hb
  rw [hb]
  clear hb
  go_enter Try.func25, Try.ntmps25
  go_wp2_with fail
  refine (i_taken hs).mono ?_
  rintro e w1 ⟨q, n, rfl, hB, hq⟩
  have HR : Hid (Blk w1 w.heap.size 38 #[.string .empty, .int .i64 0, .slice none 0 0, .slice none 0 0]) := hide (((Blk.new w _ _)).below hB (by simp))
  have bel : Below w.heap.size w w1 := ((Below.refl _ _).alloc (Nat.le_refl _) _).trans (hB.mono (by simp))
  rcases q with ⟨nm, pp, PA, k, pc, ps, SA, m, sc, zs⟩
  have hz : w.heap.size + 1 ≤ w1.heap.size := by have := hB.size; simpa using this
  have HS := hide (Blk.new w1 38 #[.string nm, .int .i64 pp, .slice PA k pc, .slice SA m sc])
  replace HR := hide (HR.out.alloc (.cells #[.string nm, .int .i64 pp, .slice PA k pc, .slice SA m sc] 38))
  replace bel := bel.alloc (by omega) (.cells #[.string nm, .int .i64 pp, .slice PA k pc, .slice SA m sc] 38)
  clear hB
  have x0 : (w1.alloc (.cells #[.string nm, .int .i64 pp, .slice PA k pc, .slice SA m sc] 38)).cell? ⟨w1.heap.size, 0, none⟩ = some (.string nm) := HS.out.cell 0
  have x1 : (w1.alloc (.cells #[.string nm, .int .i64 pp, .slice PA k pc, .slice SA m sc] 38)).cell? ⟨w1.heap.size, 1, none⟩ = some (.int .i64 pp) := HS.out.cell 1
  have x2 : (w1.alloc (.cells #[.string nm, .int .i64 pp, .slice PA k pc, .slice SA m sc] 38)).cell? ⟨w1.heap.size, 2, none⟩ = some (.slice PA k pc) := HS.out.cell 2
  have x3 : (w1.alloc (.cells #[.string nm, .int .i64 pp, .slice PA k pc, .slice SA m sc] 38)).cell? ⟨w1.heap.size, 3, none⟩ = some (.slice SA m sc) := HS.out.cell 3
  have r0 : (w1.alloc (.cells #[.string nm, .int .i64 pp, .slice PA k pc, .slice SA m sc] 38)).cell? ⟨w.heap.size, 0, none⟩ = some (.string .empty) := HR.out.cell 0
  have r1 : (w1.alloc (.cells #[.string nm, .int .i64 pp, .slice PA k pc, .slice SA m sc] 38)).cell? ⟨w.heap.size, 1, none⟩ = some (.int .i64 0) := HR.out.cell 1
  have r2 : (w1.alloc (.cells #[.string nm, .int .i64 pp, .slice PA k pc, .slice SA m sc] 38)).cell? ⟨w.heap.size, 2, none⟩ = some (.slice none 0 0) := HR.out.cell 2
  have r3 : (w1.alloc (.cells #[.string nm, .int .i64 pp, .slice PA k pc, .slice SA m sc] 38)).cell? ⟨w.heap.size, 3, none⟩ = some (.slice none 0 0) := HR.out.cell 3
  have t0 : (w1.alloc (.cells #[.string nm, .int .i64 pp, .slice PA k pc, .slice SA m sc] 38)).frozen? ⟨w.heap.size, 0, none⟩ = false := HR.out.frozen 0
  have t1 : (w1.alloc (.cells #[.string nm, .int .i64 pp, .slice PA k pc, .slice SA m sc] 38)).frozen? ⟨w.heap.size, 1, none⟩ = false := HR.out.frozen 1
  have t2 : (w1.alloc (.cells #[.string nm, .int .i64 pp, .slice PA k pc, .slice SA m sc] 38)).frozen? ⟨w.heap.size, 2, none⟩ = false := HR.out.frozen 2
  have t3 : (w1.alloc (.cells #[.string nm, .int .i64 pp, .slice PA k pc, .slice SA m sc] 38)).frozen? ⟨w.heap.size, 3, none⟩ = false := HR.out.frozen 3
  rcases hq with ⟨h1, hn, h2⟩ | ⟨h1, hn, h2, h3, h4⟩
  · subst hn
    have HN : Hid (b = false) := hide (by rw [← Hb.out]; unfold whB; rw [h1]; rfl)
    clear h1 h2 x0 x1 x2 x3
    go_wp2
    refine bodyPost_ret (results_row_tmpS (P := Try.prog) rfl _ _ w.heap.size 38 #[.string .empty, .int .i64 0, .slice none 0 0, .slice none 0 0] (0, 0) _ rfl ((((HR.out.set_ 0 _).set_ 1 _).set_ 2 _).set_ 3 _) Try.underlying38 rfl (by kernel_rfl)) rfl ?_
    exact ⟨sv0, by rw [HN.out]; rfl, (((bel.setCell (Nat.le_refl _) _).setCell (Nat.le_refl _) _).setCell (Nat.le_refl _) _).setCell (Nat.le_refl _) _, .inl ⟨HN.out, rfl⟩⟩
  · have hE : dE s.data.toList = 10 + dC s.data.toList + 2 * dK s.data.toList + 4 * dM s.data.toList := by unfold dE dO; omega
    have hn0 : ¬ n = 0 := by omega
    have hn1 : ((n : Int) == 0) = false := by rw [beq_eq_false_iff_ne]; omega
    have H2 := hide h2
    have H3 := hide ((SvOwn.alloc h3 (.cells #[.string nm, .int .i64 pp, .slice PA k pc, .slice SA m sc] 38)).up (b' := w.heap.size + 1) (by simp))
    have H4 := hide h4
    by_cases he : n = s.size
    · have hn2 : ((n : Int) != (s.size : Int)) = false := by rw [he]; simp
      have HY : Hid (b = true) := hide (by rw [← Hb.out]; unfold whB; rw [h1, decide_eq_true (by omega)]; rfl)
      clear h1 h2 h3 h4 hE he hn hN
      go_wp2
      refine bodyPost_ret (results_row_tmpS (P := Try.prog) rfl _ _ w.heap.size 38 #[.string nm, .int .i64 pp, .slice PA k pc, .slice SA m sc] (0, 0) _ rfl ((((HR.out.set_ 0 _).set_ 1 _).set_ 2 _).set_ 3 _) Try.underlying38 rfl (by kernel_rfl)) rfl ?_
      have hw3 : w.heap.size < w.heap.size + 1 := by omega
      exact ⟨⟨nm, pp, PA, k, pc, ps, SA, m, sc, zs⟩, by rw [HY.out]; rfl, (((bel.setCell (Nat.le_refl _) _).setCell (Nat.le_refl _) _).setCell (Nat.le_refl _) _).setCell (Nat.le_refl _) _, .inr ⟨HY.out, H2.out, (((((H3.out.put (p := ⟨w.heap.size, 0, none⟩) hw3 (.string nm)).put (p := ⟨w.heap.size, 1, none⟩) hw3 (.int .i64 pp)).put (p := ⟨w.heap.size, 2, none⟩) hw3 (.slice PA k pc)).put (p := ⟨w.heap.size, 3, none⟩) hw3 (.slice SA m sc)).up (b' := w.heap.size) (by omega)), H4.out⟩⟩
    · have hn2 : ((n : Int) != (s.size : Int)) = true := by rw [bne_iff_ne]; omega
      have HN : Hid (b = false) := hide (by rw [← Hb.out]; unfold whB; rw [h1, decide_eq_false (by omega)]; rfl)
      clear h1 h2 h3 h4 hE he hn hN H2 H3 H4 x0 x1 x2 x3
      go_wp2
      refine bodyPost_ret (results_row_tmpS (P := Try.prog) rfl _ _ w.heap.size 38 #[.string .empty, .int .i64 0, .slice none 0 0, .slice none 0 0] (0, 0) _ rfl ((((HR.out.set_ 0 _).set_ 1 _).set_ 2 _).set_ 3 _) Try.underlying38 rfl (by kernel_rfl)) rfl ?_
      exact ⟨sv0, by rw [HN.out]; rfl, (((bel.setCell (Nat.le_refl _) _).setCell (Nat.le_refl _) _).setCell (Nat.le_refl _) _).setCell (Nat.le_refl _) _, .inl ⟨HN.out, rfl⟩⟩
end Go.Proofs.Ytjfmjeffmnjilaa
namespace Go.Proofs.Ytjfmjeffmnjilaa
open Go.RowKit Fl Mem
set_option linter.unusedVariables false
set_option maxRecDepth 100000

theorem rd_one {l : List UInt8} {a : Nat} {c : UInt8} (h : l[a]? = some c) : rd l a 1 = c.toNat := by
  unfold rd
  obtain ⟨h1, h2⟩ := List.getElem?_eq_some_iff.1 h
  rw [List.drop_eq_getElem_cons h1, h2]
  simp [leN]
theorem rd_more {l : List UInt8} {a k : Nat} {c : UInt8} (h : l[a]? = some c) : rd l a (k + 1) = c.toNat + 256 * rd l (a + 1) k := by
  unfold rd
  obtain ⟨h1, h2⟩ := List.getElem?_eq_some_iff.1 h
  rw [List.drop_eq_getElem_cons h1, h2, List.take_succ_cons]
  rfl
theorem rd_zero (l : List UInt8) (a : Nat) : rd l a 0 = 0 := rfl
theorem rd_two {l : List UInt8} {a : Nat} {c d : UInt8} (h : l[a]? = some c) (h1 : l[a + 1]? = some d) : rd l a 2 = c.toNat + 256 * d.toNat := by
  rw [rd_more h, rd_more h1, rd_zero]; rfl
theorem rd_four {l : List UInt8} {a : Nat} {c d e f : UInt8} (h : l[a]? = some c) (h1 : l[a + 1]? = some d) (h2 : l[a + 2]? = some e) (h3 : l[a + 3]? = some f) :
    rd l a 4 = c.toNat + 256 * d.toNat + 65536 * e.toNat + 16777216 * f.toNat := by
  rw [rd_more h, rd_more h1, rd_more (a := a + 1 + 1) h2, rd_more (a := a + 1 + 1 + 1) h3, rd_zero]
  omega
end Go.Proofs.Ytjfmjeffmnjilaa
