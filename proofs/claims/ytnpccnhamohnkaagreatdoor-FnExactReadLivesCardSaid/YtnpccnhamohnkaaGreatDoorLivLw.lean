/-
  The law FnExactReadLives returns true for all texts.
-/
import Derived.Test.YtnpccnhamohnkaaGreatDoorLivS
import Derived.Test.YtnpccnhamohnkaaGreatDoorDesk
import Derived.Test.YtnpccnhamohnkaaGreatDoorKit
namespace Go.Proofs.YtnpccnhamohnkaaGreatDoor
open Go.RowKit Mem Fl Go.Shelf
set_option linter.unusedVariables false
set_option maxRecDepth 100000

theorem lvL_max (t : ByteArray) : (lvL (livesV t)).length ≤ 256 := by
  rw [livesV_cut]
  split
  · unfold livesMk
    cases hn : numsV (cutA 59 t) with
    | none => simp [lvL]
    | some xs =>
      have := numsV_max hn
      rw [Option.bind_some]
      split
      · rename_i h
        simp only [lvL, Option.getD_some]
        rw [lifesOf_len (by rw [Array.length_toList]; exact h.1)]
        exact this
      · simp [lvL]
  · simp [lvL]
theorem markL {v : Value} {n : Nat} {k : Int} {cs : List Value} {base : Nat} {w : World} (ho : w.ownsRow base 91 2 v n cs) (h0 : 0 ≤ k) (hn : n + k ≤ 1099511627776) :
    Calls Tryz.prog 16 #[v, .int .i64 k] w fun e w' => e = .returned (.int .i64 (k + 2 * n)) ∧ w'.ownsRow base 91 2 v n (marksL k.toNat n) ∧ w.grownBy w' v.ownBlock := by
  obtain ⟨q, rfl⟩ := Int.eq_ofNat_of_zero_le h0
  exact (markLifeS v n q cs base w ho (by omega)).mono fun _ _ ⟨h1, h2⟩ => ⟨by rw [h1, Int.natCast_add, Int.natCast_mul]; rfl, h2⟩
theorem heldL {A : Option Addr} {n c : Nat} {k : Int} {B : Nat} {w : World} (h : Reads w B 2 A n (marksL k.toNat n)) (h0 : 0 ≤ k) (hn : n + k ≤ 1099511627776) :
    Calls Tryz.prog 17 #[.slice A n c, .int .i64 k] w fun e w' => e = .returned (.int .i64 (k + 2 * n)) ∧ Below w.heap.size w w' := by
  obtain ⟨q, rfl⟩ := Int.eq_ofNat_of_zero_le h0
  exact (heldLifeS A n c q B w h (by omega)).mono fun _ _ ⟨h1, _, h2⟩ => ⟨by rw [h1, Int.natCast_add, Int.natCast_mul]; rfl, below_of h2⟩
set_option maxHeartbeats 2000000 in
theorem law_ReadLives {t : ByteArray} {bm bs : Int} {w : World}
    (hm : w.cell? ⟨renCutF.g 1, 0, none⟩ = some (.int .i64 bm)) (hm2 : w.cell? ⟨renSplit.g 1, 0, none⟩ = some (.int .i64 bs)) (he : Errs w) (ht : w.cell? ⟨8, 15, none⟩ = some (.int .u8 4)) :
    Calls Tryz.prog 4 #[.string t] w fun e w' => e = .returned (.bool true) ∧ Below w.heap.size w w' := by
  by_cases hs : t.size ≤ 1048576
  · have hsI : ¬ (1048576 : Int) < (t.size : Int) := by omega
    have HI : Hid (∀ (W : World), Below w.heap.size w W → _) := hide (fun W hb => i_ReadLives (t := t) (w := W) hs ((hb.cell (p := ⟨renCutF.g 1, 0, none⟩) (Go.Clock.block_lt hm)).trans hm) ((hb.cell (p := ⟨renSplit.g 1, 0, none⟩) (Go.Clock.block_lt hm2)).trans hm2) (he.below hb) ((hb.cell (p := ⟨8, 15, none⟩) (Go.Clock.block_lt ht)).trans ht))
    have hS := s_ReadLives (w := w) hs
    have hlen := lvL_max t
    clear hm hm2 he ht hs
    unfold LvR at hS HI
    generalize (livesV t).isSome = O at *
    have HS := hide hS
    clear hS
    go_enter Tryz.func4, Tryz.ntmps4
    go_wp2_with fail
    refine HS.out.mono ?_
    rintro e w1 ⟨⟨Aw, _, cw, rfl, how, rfl⟩, bel⟩
    have hcw := how
    have sz1 := bel.size
    go_wp2_with fail
    refine (HI.out _ bel).mono ?_
    rintro e w2 ⟨⟨Ag, _, cg, rfl, hog, rfl⟩, hb⟩
    have hcg := hog
    have sz2 := hb.size
    replace how := own_below how hb
    replace bel := bel.trans (hb.mono bel.size)
    clear hb
    go_wp2_with fail
    refine (eqLifeS (Reads.of_own hog) (Reads.of_own how) (Nat.le_refl _) (Nat.le_refl _) (by omega)).mono ?_
    rintro e w3 ⟨rfl, hb⟩
    have sz3 := hb.size
    replace how := own_below how hb
    replace hog := own_below hog hb
    replace bel := bel.trans (hb.mono bel.size)
    clear hb
    go_wp2_with fail
    refine (markL (k := 1) hog (by omega) (by omega)).mono ?_
    rintro e w4 ⟨rfl, ho, hg⟩
    have sz4 := hg.size
    have hlow : ∀ g, (Value.slice Ag (lvL (livesV t)).length cg).ownBlock = some g → w.heap.size ≤ g := fun g hgg => by have h1 := (hcg.lt g hgg).1; omega
    replace how := how.kept hg (own_apart hcw hcg (by omega))
    replace hog := ho
    replace bel := bel.grown hg bel.size hlow
    clear hg hlow ho
    go_wp2_with fail
    refine (heldL (k := 1) (Reads.of_own hog) (by omega) (by omega)).mono ?_
    rintro e w5 ⟨rfl, hb⟩
    have sz5 := hb.size
    replace how := own_below how hb
    replace hog := own_below hog hb
    replace bel := bel.trans (hb.mono bel.size)
    clear hb
    go_wp2_with fail
    refine (HI.out _ bel).mono ?_
    rintro e w6 ⟨⟨Ah, _, ch, rfl, hoh, rfl⟩, hb⟩
    replace how := own_below how hb
    replace hog := own_below hog hb
    replace bel := bel.trans (hb.mono bel.size)
    clear hb
    go_wp2_with fail
    refine (eqLifeS (Reads.of_own hoh) (Reads.of_own how) (Nat.le_refl _) (Nat.le_refl _) (by omega)).mono ?_
    rintro e w7 ⟨rfl, hb⟩
    replace hog := own_below hog hb
    replace bel := bel.trans (hb.mono bel.size)
    clear hb how hoh
    go_wp2_with fail
    refine (heldL (k := 1) (Reads.of_own hog) (by omega) (by omega)).mono ?_
    rintro e w8 ⟨rfl, hb⟩
    replace bel := bel.trans (hb.mono bel.size)
    clear hb hog
    go_wp2
    go_ret
    exact ⟨rfl, bel⟩
  · have hsI : (1048576 : Int) < (t.size : Int) := by omega
    go_enter Tryz.func4, Tryz.ntmps4
    go_wp2
    go_ret
    exact ⟨rfl, Below.refl _ _⟩
end Go.Proofs.YtnpccnhamohnkaaGreatDoor
