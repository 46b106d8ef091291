/-
  The law FnExactChainText returns true for all chains.
-/
import Derived.Test.YtempapfphliniaaDoorChainT
import Derived.Test.YtempapfphliniaaDoorCopy
import Derived.Deep.RegionHeld3
namespace Go.Proofs.YtempapfphliniaaDoor
open Go.RowKit Mem Fl
set_option linter.unusedVariables false
set_option maxRecDepth 100000

def chainS (st : Int) (xs : List Nat) : ByteArray := if chainOk st xs = true then headB st (joinedB (tx xs)) else ⟨#[]⟩
theorem i_ChainTextB {st : Int} {A : Option Addr} {n c : Nat} {xs : List Nat} {w : World} (hr : Reads w w.heap.size 1 A n (fl .f32 xs)) (hn : n ≤ 1048576) (wx : ∀ a ∈ xs, Wf .f32 a) (ht : w.cell? ⟨6, 15, none⟩ = some (.int .u8 4)) :
    Calls Tryd.prog 29 #[.agg #[.int .i64 st, .slice A n c]] w fun e w' => e = .returned (.tuple #[.string (chainS st xs), .bool (chainOk st xs)]) ∧ Below w.heap.size w w' := by
  unfold chainS
  cases h : chainOk st xs
  · exact i_ChainText_no h hr hn
  · exact i_ChainText h hr hn wx ht
theorem s_ChainTextB {st : Int} {A : Option Addr} {n c : Nat} {xs : List Nat} {w : World} (hr : Reads w w.heap.size 1 A n (fl .f32 xs)) (hn : n ≤ 1048576) (wx : ∀ a ∈ xs, Wf .f32 a) :
    Calls Tryd.prog 27 #[.agg #[.int .i64 st, .slice A n c]] w fun e w' => e = .returned (.tuple #[.string (chainS st xs), .bool (chainOk st xs)]) ∧ Below w.heap.size w w' := by
  unfold chainS
  cases h : chainOk st xs
  · exact s_ChainText_no h hr hn
  · exact s_ChainText h hr hn wx
theorem blk2 {W : World} {g : Nat} {t : TypeId} {a b : Value} (h : Blk W g t #[a, b]) : W.cell? ⟨g, 0, none⟩ = some a ∧ W.cell? ⟨g, 1, none⟩ = some b := ⟨h.cell 0, h.cell 1⟩
theorem blkB {w w' : World} {g : Nat} {t : TypeId} {cs : Array Value} (h : Blk w g t cs) (hb : Below w.heap.size w w') : Blk w' g t cs := Blk.below h hb h.lt
set_option maxHeartbeats 4000000 in
theorem law_ChainText {st : Int} {A : Option Addr} {n c : Nat} {xs : List Nat} {w : World} (hr : Reads w w.heap.size 1 A n (fl .f32 xs)) (hn : n ≤ 9223372036854775807) (wx : ∀ a ∈ xs, Wf .f32 a) (ht : w.cell? ⟨6, 15, none⟩ = some (.int .u8 4)) :
    Calls Tryd.prog 7 #[.agg #[.int .i64 st, .slice A n c]] w fun e w' => e = .returned (.bool true) ∧ Below w.heap.size w w' := by
  have hlt := Go.Clock.block_lt ht
  by_cases hbig : n ≤ 1048576
  · have hz : szR 1048576 n = 1048576 - (n : Int) := szR_yes (by omega)
    go_enter Tryd.func7, Tryd.ntmps7
    go_wp2_with fail
    refine (l_szChain (by decide) (by decide) (by omega)).mono ?_
    rintro e v1 ⟨rfl, hb⟩
    rw [hz]
    have K1 := blkB (Blk.new w 48 #[.int .i64 st, .slice A n c]) hb
    have bel := ((Below.refl w.heap.size w).alloc (Nat.le_refl _) _).trans (hb.mono (by simp))
    have hg1 : w.heap.size < v1.heap.size := K1.lt
    obtain ⟨c0, c1⟩ := blk2 K1
    clear hb hz
    go_wp2_with fail
    refine (l_toChain (xs := xs) (hr.below bel) bel.size hbig).mono ?_
    rintro e v2 ⟨g2, rfl, ho2, hb2⟩
    have K2 := hide (blkB K1 hb2)
    replace bel := bel.trans (hb2.mono bel.size)
    have r2 := Reads.of_own ho2
    clear K1 hb2 ho2 c0 c1
    go_wp2_with fail
    refine (s_ChainTextB (xs := xs) r2 hbig wx).mono ?_
    rintro e v3 ⟨rfl, hb3⟩
    generalize hT : chainS st xs = T
    generalize hO : chainOk st xs = O
    have K3 := blkB K2.out hb3
    replace bel := bel.trans (hb3.mono bel.size)
    clear K2 hb3 r2
    obtain ⟨c0, c1⟩ := blk2 K3
    go_wp2_with fail
    refine (l_toChain (xs := xs) (hr.below bel) bel.size hbig).mono ?_
    rintro e v4 ⟨g4, rfl, ho4, hb4⟩
    have K4 := hide (blkB K3 hb4)
    replace bel := bel.trans (hb4.mono bel.size)
    have r4 := hide (Reads.of_own ho4)
    clear K3 hb4 ho4 c0 c1
    go_wp2_with fail
    have hb4 : Below w.heap.size w (v4.alloc (.cells #[.int .i64 st, .slice (some ⟨g4, 0, none⟩) n n] 51)) := bel.alloc bel.size _
    refine (i_ChainTextB (xs := xs) ((r4.out.alloc (Nat.le_refl _) _).more (by simp)) hbig wx ((hb4.cell (p := ⟨6, 15, none⟩) hlt).trans ht)).mono ?_
    rintro e v5 ⟨rfl, hb5⟩
    rw [hT, hO]
    have K5 := blkB (K4.out.alloc (.cells #[.int .i64 st, .slice (some ⟨g4, 0, none⟩) n n] 51)) hb5
    have X5 := blkB (Blk.new v4 51 #[.int .i64 st, .slice (some ⟨g4, 0, none⟩) n n]) hb5
    have r5 := hide ((r4.out.alloc (Nat.le_refl _) (.cells #[.int .i64 st, .slice (some ⟨g4, 0, none⟩) n n] 51)).below (hb5.mono (by simp)))
    have z5 := hb5.size
    simp only [World.size_alloc] at z5
    have bel5 := hb4.trans (hb5.mono (by have := bel.size; simp; omega))
    have l4 : v4.heap.size < v5.heap.size := by omega
    have l0 : w.heap.size < v5.heap.size := K5.lt
    have lw : w.heap.size ≤ v5.heap.size := bel5.size
    have hr5 := hide (hr.below bel5)
    obtain ⟨a0, a1⟩ := blk2 K5
    obtain ⟨b0, b1⟩ := blk2 X5
    have n0 := World.new_ne v5 _ a0
    have n1 := World.new_ne v5 _ b0
    clear K4 r4 hb4 hb5 K5 X5 bel hT hO ht hr wx
    go_wp2
    go_region_held3 (fun w' => w'.cell? ⟨w.heap.size, 0, none⟩ = some (.int .i64 st) ∧ w'.cell? ⟨w.heap.size, 1, none⟩ = some (.slice A n c) ∧ w'.cell? ⟨v4.heap.size, 0, none⟩ = some (.int .i64 st) ∧ w'.cell? ⟨v4.heap.size, 1, none⟩ = some (.slice (some ⟨g4, 0, none⟩) n n)) (first | assumption | go_keep)
      (first
        | (go_at_call 28; refine (l_toChain (xs := xs) (B := w.heap.size) hr5.out.drew (by simp; omega) hbig).mono ?_; rintro e v6 ⟨g6, rfl, ho6, hb6⟩; have bel6 : Below w.heap.size w v6 := bel5.trans ((below_undrew hb6).mono bel5.size); have l6 : v5.heap.size ≤ v6.heap.size := (below_undrew hb6).size; have K6 : v6.cell? ⟨w.heap.size, 0, none⟩ = some (.int .i64 st) ∧ v6.cell? ⟨w.heap.size, 1, none⟩ = some (.slice A n c) ∧ v6.cell? ⟨v4.heap.size, 0, none⟩ = some (.int .i64 st) ∧ v6.cell? ⟨v4.heap.size, 1, none⟩ = some (.slice (some ⟨g4, 0, none⟩) n n) := ⟨(hb6.cell l0).trans a0, (hb6.cell l0).trans a1, (hb6.cell l4).trans b0, (hb6.cell l4).trans b1⟩)
        | (go_at_call 30; refine (eqChain st (xs := xs) (B := v4.heap.size) (B' := v6.heap.size) (r5.out.below ((below_undrew hb6).mono (by omega))) (Reads.of_own ho6) (by omega) (Nat.le_refl _) (by omega)).mono ?_; rintro e v7 ⟨rfl, hb7⟩; have bel7 : Below w.heap.size w v7 := bel6.trans (hb7.mono bel6.size); have K7 : v7.cell? ⟨w.heap.size, 0, none⟩ = some (.int .i64 st) ∧ v7.cell? ⟨w.heap.size, 1, none⟩ = some (.slice A n c) ∧ v7.cell? ⟨v4.heap.size, 0, none⟩ = some (.int .i64 st) ∧ v7.cell? ⟨v4.heap.size, 1, none⟩ = some (.slice (some ⟨g4, 0, none⟩) n n) := ⟨(hb7.cell (Nat.lt_of_lt_of_le l0 l6)).trans K6.1, (hb7.cell (Nat.lt_of_lt_of_le l0 l6)).trans K6.2.1, (hb7.cell (Nat.lt_of_lt_of_le l4 l6)).trans K6.2.2.1, (hb7.cell (Nat.lt_of_lt_of_le l4 l6)).trans K6.2.2.2⟩))
    all_goals
      go_wp2
      go_ret
      exact ⟨rfl, bel7⟩
  · have hz : szR 1048576 n < 0 := by rw [szR_no (by omega)]; decide
    go_enter Tryd.func7, Tryd.ntmps7
    go_wp2_with fail
    refine (l_szChain (by decide) (by decide) (by omega)).mono ?_
    rintro e v1 ⟨rfl, hb⟩
    go_wp2
    go_ret
    exact ⟨rfl, ((Below.refl w.heap.size w).alloc (Nat.le_refl _) _).trans (hb.mono (by simp))⟩
end Go.Proofs.YtempapfphliniaaDoor
