/-
  The law FnExactReadChain returns true for all texts.
-/
import Derived.Test.YtnpccnhamohnkaaGreatDoorReadCS
import Derived.Test.YtnpccnhamohnkaaGreatDoorDesk
import Derived.Test.YtnpccnhamohnkaaGreatDoorKit
namespace Go.Proofs.YtnpccnhamohnkaaGreatDoor
open Go.RowKit Mem Fl Go.Shelf
set_option linter.unusedVariables false
set_option maxRecDepth 100000

theorem markC {st : Int} {A : Option Addr} {n c : Nat} {k : Int} {cs : List Value} {base : Nat} {w : World} (ho : w.ownsRow base 37 1 (.slice A n c) n cs) (h0 : 0 ≤ k) (hn : n + k ≤ 1099511627776) :
    Calls Tryz.prog 11 #[.agg #[.int .i64 st, .slice A n c], .int .i64 k] w fun e w' => e = .returned (.int .i64 (k + n)) ∧ w'.ownsRow base 37 1 (.slice A n c) n (marksOf mkF k.toNat n) ∧ w.grownBy w' (Value.slice A n c).ownBlock := by
  obtain ⟨q, rfl⟩ := Int.eq_ofNat_of_zero_le h0
  exact (markChain st A n c q cs base w ho (by omega)).mono fun _ _ ⟨h1, h2⟩ => ⟨by rw [h1]; rfl, h2⟩
theorem heldC {st : Int} {A : Option Addr} {n c : Nat} {k : Int} {B : Nat} {w : World} (h : Reads w B 1 A n (marksOf mkF k.toNat n)) (hB : B ≤ w.heap.size) (h0 : 0 ≤ k) (hn : n + k ≤ 1099511627776) :
    Calls Tryz.prog 12 #[.agg #[.int .i64 st, .slice A n c], .int .i64 k] w fun e w' => e = .returned (.int .i64 (k + n)) ∧ Below w.heap.size w w' := by
  obtain ⟨q, rfl⟩ := Int.eq_ofNat_of_zero_le h0
  exact (heldChain st A n c q B w h hB (by omega)).mono fun _ _ ⟨h1, h2⟩ => ⟨by rw [h1]; rfl, h2⟩
set_option maxHeartbeats 2000000 in
theorem law_ReadChain {t : ByteArray} {bm bs : Int} {w : World}
    (hm : w.cell? ⟨renCutF.g 1, 0, none⟩ = some (.int .i64 bm)) (hm2 : w.cell? ⟨renSplit.g 1, 0, none⟩ = some (.int .i64 bs)) (he : Errs w) (htab : Lib.TabIs Tryz.prog w "internal/strconv.uint64pow10" .u64 Lib.pow10Tab) (ht : w.cell? ⟨8, 15, none⟩ = some (.int .u8 4)) :
    Calls Tryz.prog 3 #[.string t] w fun e w' => e = .returned (.bool true) ∧ Below w.heap.size w w' := by
  by_cases hs : t.size ≤ 1048576
  · have hsI : ¬ (1048576 : Int) < (t.size : Int) := by omega
    have HI : Hid (∀ (W : World), Below w.heap.size w W → _) := hide (fun W hb => i_ReadChain (t := t) (w := W) hs ((hb.cell (p := ⟨renCutF.g 1, 0, none⟩) (Go.Clock.block_lt hm)).trans hm) ((hb.cell (p := ⟨renSplit.g 1, 0, none⟩) (Go.Clock.block_lt hm2)).trans hm2) (he.below hb) (pow_kept htab hb) ((hb.cell (p := ⟨8, 15, none⟩) (Go.Clock.block_lt ht)).trans ht))
    have hS := s_ReadChain (w := w) hs
    have hlen := chL_max t
    clear hm hm2 he htab ht hs
    unfold CRd at hS HI
    generalize (chainV t).isSome = O at *
    have HS := hide hS
    clear hS
    go_enter Tryz.func3, Tryz.ntmps3
    go_wp2_with fail
    refine HS.out.mono ?_
    rintro e w1 ⟨⟨_, Aw, _, cw, rfl, how, rfl, rfl⟩, bel⟩
    have sz1 := bel.size
    have hcw := how
    have blkW := Blk.new w1 24 (chA (chN (chainV t)) (.slice Aw (chL (chainV t)).length cw))
    replace how := how.alloc (.cells (chA (chN (chainV t)) (.slice Aw (chL (chainV t)).length cw)) 24)
    replace bel := bel.alloc sz1 (.cells (chA (chN (chainV t)) (.slice Aw (chL (chainV t)).length cw)) 24)
    go_wp2_with fail
    refine (HI.out _ bel).mono ?_
    rintro e w2 ⟨⟨_, Ag, _, cg, rfl, hog, rfl, rfl⟩, hb⟩
    have sz2 := hb.size
    simp only [World.size_alloc] at sz2
    have hcg := hog
    replace how := own_below how hb
    replace blkW := blkW.below hb blkW.lt
    replace bel := bel.trans (hb.mono bel.size)
    clear hb
    have k0 := blkW.cell 0
    have k1 := blkW.cell 1
    have hltW := blkW.lt
    have hneW : ¬ w1.heap.size = w2.heap.size := by omega
    have blkG := Blk.new w2 24 (chA (chN (chainV t)) (.slice Ag (chL (chainV t)).length cg))
    replace blkW := blkW.alloc (.cells (chA (chN (chainV t)) (.slice Ag (chL (chainV t)).length cg)) 24)
    replace how := how.alloc (.cells (chA (chN (chainV t)) (.slice Ag (chL (chainV t)).length cg)) 24)
    replace hog := hog.alloc (.cells (chA (chN (chainV t)) (.slice Ag (chL (chainV t)).length cg)) 24)
    replace bel := bel.alloc bel.size (.cells (chA (chN (chainV t)) (.slice Ag (chL (chainV t)).length cg)) 24)
    go_wp2_with fail
    refine (eqChain (chN (chainV t)) (Reads.of_own hog) (Reads.of_own how) (Nat.le_refl _) (Nat.le_refl _) (by omega)).mono ?_
    rintro e w3 ⟨rfl, hb⟩
    clear k0 k1 hltW hneW
    have sz3 := hb.size
    simp only [World.size_alloc] at sz3
    replace how := own_below how hb
    replace hog := own_below hog hb
    replace blkW := blkW.below hb blkW.lt
    replace blkG := blkG.below hb blkG.lt
    replace bel := bel.trans (hb.mono bel.size)
    clear hb
    have q0 := blkG.cell 0
    have q1 := blkG.cell 1
    go_wp2_with fail
    refine (markC (k := 1) hog (by omega) (by omega)).mono ?_
    rintro e w4 ⟨rfl, ho, hg⟩
    clear q0 q1
    have sz4 := hg.size
    have hlow : ∀ g, (Value.slice Ag (chL (chainV t)).length cg).ownBlock = some g → w1.heap.size + 1 ≤ g ∧ g < w2.heap.size := fun g hgg => by have h1 := hcg.lt g hgg; simp only [World.size_alloc] at h1; omega
    replace how := how.kept hg (own_apart hcw hcg (by simp))
    replace blkW := blkW.grown hg (fun e => by have := hlow _ e.symm; omega)
    replace blkG := blkG.grown hg (fun e => by have := hlow _ e.symm; omega)
    replace hog := ho
    replace bel := bel.grown hg bel.size (fun g hgg => by have := hlow g hgg; omega)
    clear hg hlow ho
    have q0 := blkG.cell 0
    have q1 := blkG.cell 1
    go_wp2_with fail
    refine (heldC (k := 1) (Reads.of_own hog) (Nat.le_refl _) (by omega) (by omega)).mono ?_
    rintro e w5 ⟨rfl, hb⟩
    clear q0 q1
    have sz5 := hb.size
    replace how := own_below how hb
    replace hog := own_below hog hb
    replace blkW := blkW.below hb blkW.lt
    replace blkG := blkG.below hb blkG.lt
    replace bel := bel.trans (hb.mono bel.size)
    clear hb
    go_wp2_with fail
    refine (HI.out _ bel).mono ?_
    rintro e w6 ⟨⟨_, Ah, _, ch, rfl, hoh, rfl, rfl⟩, hb⟩
    have sz6 := hb.size
    replace how := own_below how hb
    replace hog := own_below hog hb
    replace blkW := blkW.below hb blkW.lt
    replace blkG := blkG.below hb blkG.lt
    replace bel := bel.trans (hb.mono bel.size)
    clear hb
    have k0 := blkW.cell 0
    have k1 := blkW.cell 1
    have hltW := blkW.lt
    have hneW : ¬ w1.heap.size = w6.heap.size := by omega
    replace blkG := blkG.alloc (.cells (chA (chN (chainV t)) (.slice Ah (chL (chainV t)).length ch)) 24)
    replace how := how.alloc (.cells (chA (chN (chainV t)) (.slice Ah (chL (chainV t)).length ch)) 24)
    replace hog := hog.alloc (.cells (chA (chN (chainV t)) (.slice Ah (chL (chainV t)).length ch)) 24)
    replace hoh := hoh.alloc (.cells (chA (chN (chainV t)) (.slice Ah (chL (chainV t)).length ch)) 24)
    replace bel := bel.alloc bel.size (.cells (chA (chN (chainV t)) (.slice Ah (chL (chainV t)).length ch)) 24)
    clear blkW
    go_wp2_with fail
    refine (eqChain (chN (chainV t)) (Reads.of_own hoh) (Reads.of_own how) (Nat.le_refl _) (Nat.le_refl _) (by omega)).mono ?_
    rintro e w7 ⟨rfl, hb⟩
    clear k0 k1 hltW hneW
    replace hog := own_below hog hb
    replace blkG := blkG.below hb blkG.lt
    replace bel := bel.trans (hb.mono bel.size)
    clear hb how hoh
    have q0 := blkG.cell 0
    have q1 := blkG.cell 1
    go_wp2_with fail
    refine (heldC (k := 1) (Reads.of_own hog) (Nat.le_refl _) (by omega) (by omega)).mono ?_
    rintro e w8 ⟨rfl, hb⟩
    replace bel := bel.trans (hb.mono bel.size)
    clear hb hog
    go_wp2
    go_ret
    exact ⟨rfl, bel⟩
  · have hsI : (1048576 : Int) < (t.size : Int) := by omega
    go_enter Tryz.func3, Tryz.ntmps3
    go_wp2
    go_ret
    exact ⟨rfl, Below.refl _ _⟩
end Go.Proofs.YtnpccnhamohnkaaGreatDoor
