/-
  The law FnExactJournalOf returns true for all lists of texts.
-/
import Derived.Test.YtempapfphliniaaDoorJourI
import Derived.Test.YtempapfphliniaaDoorJourS
import Derived.Test.YtempapfphliniaaDoorStrs
namespace Go.Proofs.YtempapfphliniaaDoor
open Go.RowKit Mem Fl
set_option linter.unusedVariables false
set_option maxRecDepth 100000

set_option maxHeartbeats 2000000 in
theorem law_JournalOf {A : Option Addr} {n c : Nat} {xs : List ByteArray} {bm : Int} {w : World} (hr : Reads w w.heap.size 1 A n (xs.map Value.string)) (hn : n ≤ 9223372036854775807) (hx : ∀ x ∈ xs, x.size ≤ 9223372036854775807)
    (hm : w.cell? ⟨renContains.g 1, 0, none⟩ = some (.int .i64 bm)) (htab : Lib.TabIs Tryd.prog w "internal/strconv.uint64pow10" .u64 Lib.pow10Tab) :
    Calls Tryd.prog 3 #[.slice A n c] w fun e w' => e = .returned (.bool true) ∧ Below w.heap.size w w' := by
  have hlt := Go.Clock.block_lt hm
  go_enter Tryd.func3, Tryd.ntmps3
  go_wp2_with fail
  refine (szStringS hr (by decide) (by decide) hn hx).mono ?_
  rintro e v1 ⟨⟨r, rfl, hz⟩, rfl⟩
  rcases hz with hz | ⟨hz, hbig, hxb⟩
  · go_wp2
    go_ret
    exact ⟨rfl, Below.refl _ _⟩
  · have hz' : ¬ r < 0 := by omega
    go_wp2_with fail
    refine (toStringS (xs := xs) hr (Nat.le_refl _) hbig).mono ?_
    rintro e v2 ⟨g2, rfl, ho2, hb2⟩
    go_wp2_with fail
    refine (s_JournalOf (xs := xs) (Reads.of_own ho2) hbig hxb).mono ?_
    rintro e v3 ⟨rfl, hb3⟩
    generalize hT : jourT xs = T
    generalize hO : jourOk xs = O
    have bel3 := hb2.trans (hb3.mono hb2.size)
    clear hb2 hb3 ho2
    go_wp2_with fail
    refine (toStringS (xs := xs) (hr.below bel3) bel3.size hbig).mono ?_
    rintro e v4 ⟨g4, rfl, ho4, hb4⟩
    have bel4 := bel3.trans (hb4.mono bel3.size)
    have r4 := hide (Reads.of_own ho4)
    clear hb4 ho4
    go_wp2_with fail
    refine (i_JournalOf (xs := xs) r4.out hbig hxb ((bel4.cell (p := ⟨renContains.g 1, 0, none⟩) hlt).trans hm) (pow_kept htab bel4)).mono ?_
    rintro e v5 ⟨rfl, hb5⟩
    rw [hT, hO]
    have bel5 := bel4.trans (hb5.mono bel4.size)
    have r5 := hide ((r4.out.below hb5).more hb5.size)
    clear hb5 r4
    go_wp2_with fail
    refine (toStringS (xs := xs) (hr.below bel5) bel5.size hbig).mono ?_
    rintro e v6 ⟨g6, rfl, ho6, hb6⟩
    have bel6 := bel5.trans (hb6.mono bel5.size)
    have r6 := Reads.of_own ho6
    have r5' := (r5.out.below hb6).more hb6.size
    clear hb6 r5 ho6
    go_wp2_with fail
    refine (eqStringS_eq _ _ _ _ _ _ xs _ _ _ r5' r6 (by unfold maxLen; omega)).mono ?_
    rintro e v7 ⟨rfl, m, rfl⟩
    go_wp2
    go_ret
    exact ⟨rfl, below_drewN bel6 m⟩
end Go.Proofs.YtempapfphliniaaDoor
