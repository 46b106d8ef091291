/-
  The best plan, and two sets: the program's walks.
-/
import Derived.Test.YtlpfnpcnidaijaaDoorPln2
import Derived.Test.YtlpfnpcnidaijaaDoorWithin
import Derived.Test.YtlpfnpcnidaijaaDoorReadP
namespace Go.Proofs.YtlpfnpcnidaijaaDoor
open Go.RowKit Mem
set_option linter.unusedVariables false
set_option maxRecDepth 100000

/-- What a best plan keeps. -/
def bestOk (lot good bad risk chance sz ac : Int) : Prop := 1 ≤ sz ∧ sz ≤ lot ∧ 0 ≤ ac ∧ ac ≤ sz ∧ (1000 - risk) * chI lot sz ≤ accI lot good sz ac * 1000 ∧ accI lot bad sz ac * 1000 ≤ chance * chI lot sz
def Best (lot good bad risk chance : Int) (w : World) (e : Ending) (w' : World) : Prop :=
  Below w.heap.size w w' ∧ ∃ (sz ac : Int) (ok : Bool), e = .returned (.tuple #[.agg #[.int .i64 sz, .int .i64 ac], .bool ok]) ∧ (ok = true → bestOk lot good bad risk chance sz ac)
theorem mulI_bd {a b : Int} (h0 : 0 ≤ a) (h1 : a ≤ 1000) (h2 : 0 ≤ b) (h3 : b ≤ 1099511627776) : 0 ≤ a * b ∧ a * b ≤ 1099511627776000 := by
  refine ⟨Int.mul_nonneg h0 h2, ?_⟩
  have := Int.mul_le_mul h1 h3 h2 (by omega)
  omega
set_option maxHeartbeats 4000000 in
theorem i_BestPlan {lot good bad risk chance : Int} {w : World} (l1 : 1 ≤ lot) (l2 : lot ≤ 40) (g0 : 0 ≤ good) (gb : good < bad) (bl : bad ≤ lot) (r0 : 0 ≤ risk) (r1 : risk ≤ 1000) (c0 : 0 ≤ chance) (c1 : chance ≤ 1000) :
    Calls Tryd.prog 11 #[.int .i64 lot, .int .i64 good, .int .i64 bad, .int .i64 risk, .int .i64 chance] w (Best lot good bad risk chance w) := by
  have e1 : inB lot 1 40 = true := by unfold inB; simp; omega
  have e2 : inB good 0 lot = true := by unfold inB; simp; omega
  have e3 : inB bad (good + 1) lot = true := by unfold inB; simp; omega
  have e4 : [risk, chance].all (fun x => inB x 0 1000) = true := by simp [inB]; omega
  go_enter Tryd.func11, Tryd.ntmps11
  go_wp2_with fail
  refine (i_within _ _ _ _).mono ?_
  rintro e w1 ⟨rfl, rfl⟩
  rw [e1]
  go_wp2_with fail
  refine (i_within _ _ _ _).mono ?_
  rintro e w1 ⟨rfl, rfl⟩
  rw [e2]
  go_wp2_with fail
  refine (i_within _ _ _ _).mono ?_
  rintro e w1 ⟨rfl, rfl⟩
  rw [e3]
  go_wp2_with fail
  have hown : ((w.alloc (.cells #[.int .i64 0, .int .i64 0] 26)).alloc (.cells #[.int .i64 risk, .int .i64 chance] 2)).ownsRow 0 2 1 (.slice (some ⟨w.heap.size + 1, 0, none⟩) 2 2) 2 (il [risk, chance]) :=
    own_of_blk (by have := Blk.new (w.alloc (.cells #[.int .i64 0, .int .i64 0] 26)) 2 #[.int .i64 risk, .int .i64 chance]; simpa using this) (Nat.zero_le _) rfl (by simp [maxLen])
  refine (i_areWithin (lo := 0) (hi := 1000) (xs := [risk, chance]) (Reads.of_own hown) (Nat.le_refl _) (by simp [maxLen])).mono ?_
  rintro e w1 ⟨rfl, hb⟩
  rw [e4]
  have blk := ((Blk.new w 26 #[.int .i64 0, .int .i64 0]).alloc (.cells #[.int .i64 risk, .int .i64 chance] 2)).below hb (by simp; omega)
  have bel : Below w.heap.size w w1 := (((Below.refl _ _).alloc (Nat.le_refl _) _).alloc (by simp) _).trans (hb.mono (by simp; omega))
  have q0 := blk.cell 0
  have q1 := blk.cell 1
  have f0 := blk.frozen 0
  have f1 := blk.frozen 1
  have Hblk := hide blk
  clear hown hb blk
  go_wp2_with fail
  go_loopw [12] (fun s wr => ∃ sz : Int, 1 ≤ sz ∧ sz ≤ lot + 1 ∧ s = .int .i64 sz ∧ wr = w1) (fun s _ => (lot + 1 - intOf s).toNat)
  case atStart => exact ⟨1, by omega, by omega, rfl, rfl⟩
  case round =>
    obtain ⟨sz, z1, z2, rfl, rfl⟩ := hrel
    by_cases hz : sz ≤ lot
    · obtain ⟨k1, k2⟩ := mulI_bd (a := 1000 - risk) (b := chI lot sz) (by omega) (by omega) (chI_nn _ _) (chI_le (by omega) l2 _)
      obtain ⟨k3, k4⟩ := mulI_bd (a := chance) (b := chI lot sz) (by omega) (by omega) (chI_nn _ _) (chI_le (by omega) l2 _)
      go_wp2_with (go_at_call 18; refine (i_choose l2).mono ?_; rintro e w' ⟨rfl, rfl⟩)
      go_loopw [50] (fun s wz => ∃ q : Int, 0 ≤ q ∧ q ≤ sz + 1 ∧ s = .int .i64 q ∧ wz = w') (fun s _ => (sz + 1 - intOf s).toNat)
      case atStart => exact ⟨0, by omega, by omega, rfl, rfl⟩
      case round =>
        obtain ⟨q, y1, y2, rfl, rfl⟩ := hrel
        by_cases hy : q < sz + 1
        · have a1 := accI_nn lot good sz q
          have a2 := accI_le l2 g0 (by omega : good ≤ lot) sz (a := q) (by omega)
          have a3 := accI_nn lot bad sz q
          have a4 := accI_le l2 (by omega : 0 ≤ bad) bl sz (a := q) (by omega)
          by_cases t1 : (1000 - risk) * chI lot sz ≤ accI lot good sz q * 1000
          · by_cases t2 : accI lot bad sz q * 1000 ≤ chance * chI lot sz
            · have HB : Hid (bestOk lot good bad risk chance sz q) := hide ⟨z1, hz, y1, by omega, t1, t2⟩
              go_wp2_with (go_at_call 17; refine (i_accepts (by omega) (by omega) (by omega) (by omega) (by omega) (by omega) (by omega)).mono ?_; rintro e w' ⟨rfl, rfl⟩)
              refine bodyPost_ret (results_row_tmp (P := Tryd.prog) rfl _ _ w.heap.size 26 #[.int .i64 sz, .int .i64 q] (0, 0) _ rfl ((Hblk.out.set_ 0 _).set_ 1 _) Tryd.underlying26 rfl (by kernel_rfl)) rfl ?_
              exact ⟨(bel.setCell (Nat.le_refl _) _).setCell (Nat.le_refl _) _, _, _, _, rfl, fun _ => HB.out⟩
            · go_wp2_with (go_at_call 17; refine (i_accepts (by omega) (by omega) (by omega) (by omega) (by omega) (by omega) (by omega)).mono ?_; rintro e w' ⟨rfl, rfl⟩)
              go_roundw
              case rel => exact ⟨q + 1, by omega, by omega, by go_num, trivial⟩
              case measure => (simp [intOf]; try omega)
          · go_wp2_with (go_at_call 17; refine (i_accepts (by omega) (by omega) (by omega) (by omega) (by omega) (by omega) (by omega)).mono ?_; rintro e w' ⟨rfl, rfl⟩)
            go_roundw
            case rel => exact ⟨q + 1, by omega, by omega, by go_num, trivial⟩
            case measure => (simp [intOf]; try omega)
        · go_wp2
          go_roundw
          case rel => exact ⟨sz + 1, by omega, by omega, by go_num, trivial⟩
          case measure => (simp [intOf]; try omega)
    · go_wp2
      refine bodyPost_ret (results_row_tmp (P := Tryd.prog) rfl _ _ w.heap.size 26 #[.int .i64 0, .int .i64 0] (0, 0) _ rfl ((Hblk.out.set_ 0 _).set_ 1 _) Tryd.underlying26 rfl (by kernel_rfl)) rfl ?_
      exact ⟨(bel.setCell (Nat.le_refl _) _).setCell (Nat.le_refl _) _, _, _, _, rfl, fun h => by cases h⟩
end Go.Proofs.YtlpfnpcnidaijaaDoor
