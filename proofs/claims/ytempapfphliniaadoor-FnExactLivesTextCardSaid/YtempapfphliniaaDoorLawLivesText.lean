/-
  The law FnExactLivesText returns true for all lists of lives.
-/
import Derived.Test.YtempapfphliniaaDoorLivesT
import Derived.Test.YtempapfphliniaaDoorCopy
namespace Go.Proofs.YtempapfphliniaaDoor
open Go.RowKit Mem Fl
set_option linter.unusedVariables false
set_option maxRecDepth 100000

set_option maxHeartbeats 2000000 in
theorem law_LivesText {A : Option Addr} {n c : Nat} {xs : List (Nat × Bool)} {w : World} (hr : Reads w w.heap.size 2 A n (ll xs)) (hn : n ≤ 9223372036854775807) (wx : ∀ p ∈ xs, Wf .f32 p.1) (ht : w.cell? ⟨6, 15, none⟩ = some (.int .u8 4)) :
    Calls Tryd.prog 6 #[.slice A n c] w fun e w' => e = .returned (.bool true) ∧ Below w.heap.size w w' := by
  have hlt := Go.Clock.block_lt ht
  by_cases hbig : n ≤ 1048576
  · have hz : szR 1048576 n = 1048576 - (n : Int) := szR_yes (by omega)
    go_enter Tryd.func6, Tryd.ntmps6
    go_wp2_with fail
    refine (l_szLifeS (by decide) (by decide) hn).mono ?_
    rintro e v1 ⟨rfl, rfl⟩
    rw [hz]
    go_wp2_with fail
    refine (l_toLifeS (xs := xs) hr (Nat.le_refl _) hbig).mono ?_
    rintro e v2 ⟨g2, rfl, ho2, hb2⟩
    go_wp2_with fail
    refine (s_LivesTextB (xs := xs) (Reads.of_own ho2) hbig wx).mono ?_
    rintro e v3 ⟨rfl, hb3⟩
    generalize hT : livesS xs = T
    generalize hO : livesOk xs = O
    have bel3 := hb2.trans (hb3.mono hb2.size)
    clear hb2 hb3 ho2
    go_wp2_with fail
    refine (l_toLifeS (xs := xs) (hr.below bel3) bel3.size hbig).mono ?_
    rintro e v4 ⟨g4, rfl, ho4, hb4⟩
    have bel4 := bel3.trans (hb4.mono bel3.size)
    have r4 := hide (Reads.of_own ho4)
    clear hb4 ho4
    go_wp2_with fail
    refine (i_LivesTextB (xs := xs) r4.out hbig wx ((bel4.cell (p := ⟨6, 15, none⟩) hlt).trans ht)).mono ?_
    rintro e v5 ⟨rfl, hb5⟩
    rw [hT, hO]
    have bel5 := bel4.trans (hb5.mono bel4.size)
    have r5 := hide ((r4.out.below hb5).more hb5.size)
    clear hb5 r4
    go_wp2_with fail
    refine (l_toLifeS (xs := xs) (hr.below bel5) bel5.size hbig).mono ?_
    rintro e v6 ⟨g6, rfl, ho6, hb6⟩
    have bel6 := bel5.trans (hb6.mono bel5.size)
    have r6 := Reads.of_own ho6
    have r5' := (r5.out.below hb6).more hb6.size
    clear hb6 r5 ho6
    go_wp2_with fail
    refine (eqLifeS (xs := xs) r5' r6 (Nat.le_refl _) (Nat.le_refl _) (by omega)).mono ?_
    rintro e v7 ⟨rfl, hb7⟩
    go_wp2
    go_ret
    exact ⟨rfl, bel6.trans (hb7.mono bel6.size)⟩
  · have hz : szR 1048576 n < 0 := by rw [szR_no (by omega)]; decide
    go_enter Tryd.func6, Tryd.ntmps6
    go_wp2_with fail
    refine (l_szLifeS (by decide) (by decide) hn).mono ?_
    rintro e v1 ⟨rfl, rfl⟩
    go_wp2
    go_ret
    exact ⟨rfl, Below.refl _ _⟩
end Go.Proofs.YtempapfphliniaaDoor
