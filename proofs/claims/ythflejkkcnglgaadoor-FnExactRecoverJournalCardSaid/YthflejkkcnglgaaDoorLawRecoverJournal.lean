/-
  The law FnExactRecoverJournal returns true for all texts.
-/
import Derived.Test.YthflejkkcnglgaaDoorRecS
import Derived.Test.YthflejkkcnglgaaDoorMarkS
import Derived.Test.YthflejkkcnglgaaDoorKit
namespace Go.Proofs.YthflejkkcnglgaaDoor
open Go.RowKit Mem Go.Shelf
set_option linter.unusedVariables false
set_option maxRecDepth 100000

def rjL (t : ByteArray) : List ByteArray := if t.size ≤ 16000 then (rres 0 (linesL t)).1 else []
def rjN (t : ByteArray) : Nat := if t.size ≤ 16000 then (rres 0 (linesL t)).2 else 0
theorem rjL_len (t : ByteArray) : (rjL t).length ≤ 16000 := by
  unfold rjL
  split
  · have h1 := rres_len 0 (linesL t)
    have h2 := linesL_size t
    omega
  · simp
set_option maxHeartbeats 1000000 in
theorem i_RecoverJournal {t : ByteArray} {bm : Int} {w : World} (hs : t.size ≤ 1048576) (hm : w.cell? ⟨renCutF.g 1, 0, none⟩ = some (.int .i64 bm)) (htab : Lib.TabIs Tryd.prog w "internal/strconv.uint64pow10" .u64 Lib.pow10Tab) :
    Calls Tryd.prog 6 #[.string t] w fun e w' => ∃ v, e = .returned (.tuple #[v, .int .i64 (rjN t : Nat), .bool (decide (t.size ≤ 16000))]) ∧ w'.ownsRow w.heap.size 9 1 v (rjL t).length ((rjL t).map .string) ∧ Below w.heap.size w w' := by
  unfold rjL rjN
  by_cases h16 : t.size ≤ 16000
  · rw [if_pos h16, if_pos h16, decide_eq_true h16]
    have hi : ¬ (16000 : Int) < (t.size : Int) := by omega
    go_enter Tryd.func6, Tryd.ntmps6
    go_wp2_with fail
    refine (i_recovered hs hm htab).mono ?_
    rintro e w1 ⟨v, rfl, ho, hb⟩
    go_wp2
    go_ret3
    exact ⟨_, rfl, ho, hb⟩
  · rw [if_neg h16, if_neg h16, decide_eq_false h16]
    have hi : (16000 : Int) < (t.size : Int) := by omega
    go_enter Tryd.func6, Tryd.ntmps6
    go_wp2
    go_ret3
    exact ⟨_, rfl, own_nil _ _ _ _, Below.refl _ _⟩
set_option maxHeartbeats 1000000 in
theorem s_RecoverJournal {t : ByteArray} {w : World} (hs : t.size ≤ 1048576) :
    Calls Tryd.prog 5 #[.string t] w fun e w' => ∃ v, e = .returned (.tuple #[v, .int .i64 (rjN t : Nat), .bool (decide (t.size ≤ 16000))]) ∧ w'.ownsRow w.heap.size 9 1 v (rjL t).length ((rjL t).map .string) ∧ Below w.heap.size w w' := by
  unfold rjL rjN
  by_cases h16 : t.size ≤ 16000
  · rw [if_pos h16, if_pos h16, decide_eq_true h16]
    have hi : ¬ (16000 : Int) < (t.size : Int) := by omega
    go_enter Tryd.func5, Tryd.ntmps5
    go_wp2_with fail
    refine (s_l08Recover hs).mono ?_
    rintro e w1 ⟨v, rfl, ho, hb⟩
    go_wp2
    go_ret3
    exact ⟨_, rfl, ho, hb⟩
  · rw [if_neg h16, if_neg h16, decide_eq_false h16]
    have hi : (16000 : Int) < (t.size : Int) := by omega
    go_enter Tryd.func5, Tryd.ntmps5
    go_wp2
    go_ret3
    exact ⟨_, rfl, own_nil _ _ _ _, Below.refl _ _⟩
theorem markS {v : Value} {n : Nat} {k : Int} {cs : List Value} {base : Nat} {w : World} (ho : w.ownsRow base 9 1 v n cs) (h0 : 0 ≤ k) (hn : n + k ≤ 1099511627776) :
    Calls Tryd.prog 8 #[v, .int .i64 k] w fun e w' => e = .returned (.int .i64 (k + n)) ∧ w'.ownsRow base 9 1 v n (marksOf mkS k.toNat n) ∧ w.grownBy w' v.ownBlock := by
  obtain ⟨q, rfl⟩ := Int.eq_ofNat_of_zero_le h0
  exact (markStringS v n q cs base w ho (by omega)).mono fun _ _ ⟨h1, h2⟩ => ⟨by rw [h1]; rfl, h2⟩
theorem heldS {A : Option Addr} {n c : Nat} {k : Int} {B : Nat} {w : World} (h : Reads w B 1 A n (marksOf mkS k.toNat n)) (hB : B ≤ w.heap.size) (h0 : 0 ≤ k) (hn : n + k ≤ 1099511627776) :
    Calls Tryd.prog 9 #[.slice A n c, .int .i64 k] w fun e w' => e = .returned (.int .i64 (k + n)) ∧ Below w.heap.size w w' := by
  obtain ⟨q, rfl⟩ := Int.eq_ofNat_of_zero_le h0
  exact (heldStringS A n c q B w h hB (by omega)).mono fun _ _ ⟨h1, h2⟩ => ⟨by rw [h1]; rfl, h2⟩
theorem eqS {A A' : Option Addr} {n n' c c' B B' : Nat} {xs : List ByteArray} {w : World} (h : Reads w B 1 A n (xs.map Value.string)) (h' : Reads w B' 1 A' n' (xs.map Value.string)) (hn : n ≤ 1099511627776) :
    Calls Tryd.prog 7 #[.slice A n c, .slice A' n' c'] w fun e w' => e = .returned (.bool true) ∧ Below w.heap.size w w' :=
  (eqStringS_eq _ _ _ _ _ _ xs _ _ _ h h' (by unfold maxLen; omega)).mono fun _ _ ⟨h1, _, h2⟩ => ⟨h1, below_of h2⟩
set_option maxHeartbeats 2000000 in
theorem law_RecoverJournal {t : ByteArray} {bm : Int} {w : World}
    (hm : w.cell? ⟨renCutF.g 1, 0, none⟩ = some (.int .i64 bm)) (htab : Lib.TabIs Tryd.prog w "internal/strconv.uint64pow10" .u64 Lib.pow10Tab) :
    Calls Tryd.prog 3 #[.string t] w fun e w' => e = .returned (.bool true) ∧ Below w.heap.size w w' := by
  by_cases hs : t.size ≤ 1048576
  · have hsI : ¬ (1048576 : Int) < (t.size : Int) := by omega
    have hlt := Go.Clock.block_lt hm
    have hlen := rjL_len t
    go_enter Tryd.func3, Tryd.ntmps3
    go_wp2_with fail
    refine (s_RecoverJournal hs).mono ?_
    rintro e w1 ⟨vw, rfl, how, bel⟩
    have hcw := how
    have sz1 := bel.size
    obtain ⟨Aw, cw, rfl⟩ := own_shape how
    go_wp2_with fail
    refine (i_RecoverJournal hs ((bel.cell (p := ⟨renCutF.g 1, 0, none⟩) hlt).trans hm) (pow_kept htab bel)).mono ?_
    rintro e w2 ⟨vg, rfl, hog, hb⟩
    have hcg := hog
    have sz2 := hb.size
    obtain ⟨Ag, cg, rfl⟩ := own_shape hog
    replace how := own_below how hb
    replace bel := bel.trans (hb.mono bel.size)
    clear hb
    generalize hL : rjL t = L at *
    generalize hN : rjN t = N at *
    generalize hO : decide (t.size ≤ 16000) = O at *
    have HL := hide hL
    have HN := hide hN
    have HO := hide hO
    clear hL hN hO
    go_wp2_with fail
    refine (eqS (Reads.of_own hog) (Reads.of_own how) (by omega)).mono ?_
    rintro e w3 ⟨rfl, hb⟩
    have sz3 := hb.size
    replace how := own_below how hb
    replace hog := own_below hog hb
    replace bel := bel.trans (hb.mono bel.size)
    clear hb
    go_wp2_with fail
    refine (markS (k := 1) hog (by omega) (by omega)).mono ?_
    rintro e w4 ⟨rfl, ho, hg⟩
    have sz4 := hg.size
    have hlow : ∀ g, (Value.slice Ag _ cg).ownBlock = some g → w.heap.size ≤ g := fun g hgg => by have h1 := (hcg.lt g hgg).1; omega
    replace how := how.kept hg (own_apart hcw hcg (by omega))
    replace hog := ho
    replace bel := bel.grown hg bel.size hlow
    clear hg hlow ho
    go_wp2_with fail
    refine (heldS (k := 1) (Reads.of_own hog) (Nat.le_refl _) (by omega) (by omega)).mono ?_
    rintro e w5 ⟨rfl, hb⟩
    have sz5 := hb.size
    replace how := own_below how hb
    replace hog := own_below hog hb
    replace bel := bel.trans (hb.mono bel.size)
    clear hb
    go_wp2_with fail
    refine (i_RecoverJournal hs ((bel.cell (p := ⟨renCutF.g 1, 0, none⟩) hlt).trans hm) (pow_kept htab bel)).mono ?_
    rintro e w6 ⟨vh, rfl, hoh, hb⟩
    rw [HL.out] at hoh
    rw [HN.out, HO.out]
    obtain ⟨Ah, ch, rfl⟩ := own_shape hoh
    replace how := own_below how hb
    replace hog := own_below hog hb
    replace bel := bel.trans (hb.mono bel.size)
    clear hb
    go_wp2_with fail
    refine (eqS (Reads.of_own hoh) (Reads.of_own how) (by omega)).mono ?_
    rintro e w7 ⟨rfl, hb⟩
    replace hog := own_below hog hb
    replace bel := bel.trans (hb.mono bel.size)
    clear hb how hoh
    go_wp2_with fail
    refine (heldS (k := 1) (Reads.of_own hog) (Nat.le_refl _) (by omega) (by omega)).mono ?_
    rintro e w8 ⟨rfl, hb⟩
    replace bel := bel.trans (hb.mono bel.size)
    clear hb hog
    go_wp2
    go_ret
    exact ⟨rfl, bel⟩
  · have hsI : (1048576 : Int) < (t.size : Int) := by omega
    go_enter Tryd.func3, Tryd.ntmps3
    go_wp2
    go_ret
    exact ⟨rfl, Below.refl _ _⟩
end Go.Proofs.YthflejkkcnglgaaDoor
