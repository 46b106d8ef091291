/-
  JournalOf: the program's walk.
-/
import Derived.Test.YtempapfphliniaaDoorJour
namespace Go.Proofs.YtempapfphliniaaDoor
open Go.RowKit Mem Go.Shelf
set_option linter.unusedVariables false
set_option maxRecDepth 100000

set_option maxHeartbeats 2000000 in
theorem i_JournalOf {A : Option Addr} {n c : Nat} {xs : List ByteArray} {bm : Int} {w : World} (hr : Reads w w.heap.size 1 A n (xs.map Value.string)) (hn : n ≤ 1048576) (hx : ∀ x ∈ xs, x.size ≤ 1048576)
    (hm : w.cell? ⟨renContains.g 1, 0, none⟩ = some (.int .i64 bm)) (htab : Lib.TabIs Tryd.prog w "internal/strconv.uint64pow10" .u64 Lib.pow10Tab) :
    Calls Tryd.prog 12 #[.slice A n c] w fun e w' => e = .returned (.tuple #[.string (jourT xs), .bool (jourOk xs)]) ∧ Below w.heap.size w w' := by
  have hl := hr.map_len
  have hmlt := Go.Clock.block_lt hm
  go_enter Tryd.func12, Tryd.ntmps12
  go_wp2
  go_loopw [5, 11] (fun cv i wr => ∃ k m : Nat, k ≤ n ∧ i = .int .i64 k ∧ cv = .int .i64 m ∧ Hid (m = (jour (xs.take k)).1) ∧ Hid (Bld w.heap.size w.heap.size (jour (xs.take k)).2 wr) ∧ Hid ((jour (xs.take k)).2.size ≤ 16000) ∧ Hid ((xs.take k).all noNl = true) ∧ Below w.heap.size w wr) (fun _ i _ => n - (intOf i).toNat)
  case atStart => exact ⟨0, 0, Nat.zero_le _, rfl, rfl, hide rfl, hide (Lib.IsBuilderF.of (Lib.fresh_isBuilder _ _ _)), hide (by show (jour []).2.size ≤ 16000; decide), hide rfl, (Below.refl _ _).alloc (Nat.le_refl _) _⟩
  case round =>
    obtain ⟨k, m, hk, rfl, rfl, hmm, hbl, hsz, hall, hbel⟩ := hrel
    by_cases hk2 : k < n
    · obtain ⟨ad, x, rfl, _, hxk, hc⟩ := (hr.below hbel).map_at hk2
      have hkI : (k : Int) < (n : Int) := by omega
      have hxs := hx x (List.mem_of_getElem? hxk)
      have hm1 := (hbel.cell (p := ⟨renContains.g 1, 0, none⟩) hmlt).trans hm
      have htab1 := pow_kept htab hbel
      have mlt : m < 65003 := by rw [hmm.out]; exact jour_lt _
      obtain ⟨hs1, hs2, hs3⟩ := entry_ops mlt x (by omega)
      have he := entry_size mlt x
      have HJ : Hid (jour (xs.take (k + 1)) = (chk m x, (jour (xs.take k)).2 ++ entryB m x)) := hide (by rw [jour_succ hxk, hmm.out]; rfl)
      go_wp2_with fail
      refine (contains_calls (by omega) hm1).mono ?_
      rintro e w1 ⟨rfl, rfl⟩
      cases hnl : noNl x with
      | false =>
        have HN := hide (jourOk_nl hxk hnl)
        clear hxk
        go_wp2
        go_ret2
        exact ⟨by rw [HN.out, jourT_no HN.out]; rfl, hbel⟩
      | true =>
        have HA := hide (all_succ hxk hall.out hnl)
        have hjs : (jour (xs.take (k + 1))).2.size = (jour (xs.take k)).2.size + (entryB m x).size := by rw [HJ.out]; exact ByteArray.size_append
        have hsz0 := hsz.out
        have hjt := jour_take xs (k + 1)
        clear hxk hall
        go_wp2_with fail
        refine (i_CheckOf mlt (by omega)).mono ?_
        rintro e w2 ⟨rfl, rfl⟩
        go_wp2_with fail
        refine (i_DecimalA (by omega) (by have := chkL_lt mlt x.data.toList; unfold chk; omega) htab1).mono ?_
        rintro e w3 ⟨rfl, hb3⟩
        have hbel3 := hbel.trans (hb3.mono hbel.size)
        have hbl3 := builder_below hbl.out hb3
        clear hbl hb3 hm1 htab1 hc
        go_wp2_with fail
        refine (writeString_calls (t := entryB m x) hbl3 (by omega) hbel3.size).mono ?_
        rintro e w4 ⟨rfl, hbl4, hb4⟩
        have hbel4 := hbel3.trans hb4
        clear hb4 hbl3
        go_wp2_with fail
        refine (builderLen_calls hbl4).mono ?_
        rintro e w5 ⟨rfl, rfl⟩
        by_cases hbig : (jour (xs.take k)).2.size + (entryB m x).size ≤ 16000
        · have hbi : ¬ (16000 : Int) < ((jour (xs.take k)).2.size : Int) + ((entryB m x).size : Int) := by omega
          have HB : Hid (Bld w.heap.size w.heap.size (jour (xs.take (k + 1))).2 w5) := hide (by rw [HJ.out]; exact hbl4)
          have HS : Hid ((jour (xs.take (k + 1))).2.size ≤ 16000) := hide (by rw [hjs]; exact hbig)
          go_wp2
          go_roundw
          case rel => exact ⟨k + 1, chk m x, by omega, by go_num, rfl, hide (by rw [HJ.out]), HB, HS, HA, hbel4⟩
          case measure => (simp [intOf]; try omega)
        · have hbi : (16000 : Int) < ((jour (xs.take k)).2.size : Int) + ((entryB m x).size : Int) := by omega
          have HN := hide (jourOk_big (xs := xs) (by omega))
          go_wp2
          go_ret2
          exact ⟨by rw [HN.out, jourT_no HN.out]; rfl, hbel4⟩
    · have hke : k = n := by omega
      have hta : xs.take k = xs := List.take_of_length_le (by omega)
      have hkI : ¬ (k : Int) < (n : Int) := by omega
      rw [hta] at hbl hsz hall
      have HN := hide (jourOk_yes hall.out hsz.out)
      go_wp2_with fail
      refine (builderString_calls hbl.out hbel.size).mono ?_
      rintro e w1 ⟨rfl, hb1⟩
      go_wp2
      go_ret2
      exact ⟨by rw [HN.out, jourT_yes HN.out]; rfl, hbel.trans hb1⟩
end Go.Proofs.YtempapfphliniaaDoor
