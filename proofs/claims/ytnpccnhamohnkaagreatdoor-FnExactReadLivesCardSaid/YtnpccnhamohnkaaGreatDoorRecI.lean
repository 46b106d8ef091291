/-
  RecoverJournal: the program's walk.
-/
import Derived.Test.YtnpccnhamohnkaaGreatDoorRecP
import Derived.Clock
namespace Go.Proofs.YtnpccnhamohnkaaGreatDoor
open Go.RowKit Mem Go.Shelf
set_option linter.unusedVariables false
set_option maxRecDepth 100000

theorem linesL_size (s : ByteArray) : (linesL s).length ≤ s.size := by
  have : (splitS s 10).length = Lib.countB s (markB 10) + 1 := Lib.splitB_all (markB 10) (Nat.le_refl 1) 0 _ s rfl
  have h2 := Lib.countB_le (markB 10) (Nat.le_refl 1) s.size s (Nat.le_refl _)
  unfold linesL
  rw [List.length_dropLast]
  omega
theorem rres_len (c : Nat) (xs : List ByteArray) : (rres c xs).1.length ≤ xs.length := by
  induction xs generalizing c with
  | nil => simp [rres]
  | cons x xs ih =>
    rw [rres]
    split
    · have := ih (chk c (rline x)); simp; omega
    · simp
theorem ext_all (t : ByteArray) : t.extract 0 t.size = t := by
  apply ba_ext; rw [Lib.extract_data]
  have hl : t.data.toList.length = t.size := Array.length_toList
  rw [List.drop_zero, List.take_of_length_le (by omega)]
theorem index_calls {s : ByteArray} {w : World} {r : Int} (h : Lib.indexByte s.data.toList 10 = r) : Calls Tryz.prog 162 #[.string s, .int .u8 10] w fun e w' => e = .returned (.int .i64 r) ∧ w' = w := by
  subst h; exact indexByte_calls
theorem str_eq (a b : ByteArray) : (a.toList == b.toList) = decide (a = b) := by
  by_cases h : a = b
  · subst h; simp
  · rw [decide_eq_false h]
    simp only [Lib.toList_data, beq_eq_false_iff_ne]
    exact fun e => h (ba_ext e)
theorem str_ne (a b : ByteArray) : (!a.toList == b.toList) = !decide (a = b) := by rw [str_eq]
set_option maxHeartbeats 4000000 in
theorem i_recovered {t : ByteArray} {bm : Int} {w : World} (hs : t.size ≤ 1048576) (hm : w.cell? ⟨renCutF.g 1, 0, none⟩ = some (.int .i64 bm)) (htab : Lib.TabIs Tryz.prog w "internal/strconv.uint64pow10" .u64 Lib.pow10Tab) :
    Calls Tryz.prog 101 #[.string t] w fun e w' => ∃ v, e = .returned (.tuple #[v, .int .i64 ((rres 0 (linesL t)).2 : Nat)]) ∧ w'.ownsRow w.heap.size 9 1 v (rres 0 (linesL t)).1.length ((rres 0 (linesL t)).1.map .string) ∧ Below w.heap.size w w' := by
  have hmlt := Go.Clock.block_lt hm
  go_enter Tryz.func101, Tryz.ntmps101
  go_wp2
  go_loopw [4, 5, 6] (fun out cv av wr => ∃ a m : Nat, ∃ L : List ByteArray, a ≤ t.size ∧ av = .int .i64 a ∧ cv = .int .i64 m ∧ m < 65003 ∧ Hid (rres 0 (linesL t) = (L ++ (rres m (linesL (t.extract a t.size))).1, a + (rres m (linesL (t.extract a t.size))).2)) ∧ Hid (L.length ≤ a) ∧ Hid (wr.ownsRow w.heap.size 9 1 out L.length (L.map .string)) ∧ Below w.heap.size w wr) (fun _ _ a _ => t.size - (intOf a).toNat)
  case atStart => exact ⟨0, 0, [], Nat.zero_le _, rfl, rfl, by decide, hide (by rw [ext_all]; simp), hide (Nat.le_refl _), hide (World.ownsRow_made _ _ _ (Nat.le_refl _) (by simp [maxLen]) (by simp)), (Below.refl _ _).alloc (Nat.le_refl _) _⟩
  case round =>
    obtain ⟨a, m, L, ha, rfl, rfl, mlt, hres, hL, hown, hbel⟩ := hrel
    have hrs : (t.extract a t.size).size = t.size - a := by rw [ByteArray.size_extract]; omega
    have ha1 : (0 : Int) ≤ a := by omega
    have ha2 : (a : Int) ≤ t.size := by omega
    have hm1 := (hbel.cell (p := ⟨renCutF.g 1, 0, none⟩) hmlt).trans hm
    have htab1 := pow_kept htab hbel
    rcases indexByte_cases 10 (t.extract a t.size).data.toList with ⟨hi, hmiss⟩ | ⟨j, hi, hj, hn⟩
    · have HE : Hid (rres 0 (linesL t) = (L, a)) := hide (by rw [hres.out, linesL_miss hmiss]; simp [rres])
      clear hres hmiss
      go_wp2_with fail
      refine (index_calls hi).mono ?_
      rintro e w1 ⟨rfl, rfl⟩
      go_wp2
      go_ret2
      exact ⟨_, by rw [HE.out]; rfl, by rw [HE.out]; exact hown.out, hbel⟩
    · have hl : (t.extract a t.size).data.toList.length = t.size - a := by rw [← hrs]; exact Array.length_toList
      have hjl : j < t.size - a := by rw [← hl]; exact (List.getElem?_eq_some_iff.1 hj).1
      have e1 : (t.extract a t.size).extract 0 j = t.extract a (a + j) := by
        have := ext_ext (s := t) (f := a) (k := a + j) (by omega) (by omega)
        rwa [show a + j - a = j by omega] at this
      have e2 : (t.extract a t.size).extract (j + 1) (t.extract a t.size).size = t.extract (a + j + 1) t.size := by
        have := ext_rest (s := t) (f := a) (k := a + j) (by omega) (by omega)
        rwa [show a + j - a + 1 = j + 1 by omega] at this
      have HL : Hid (linesL (t.extract a t.size) = t.extract a (a + j) :: linesL (t.extract (a + j + 1) t.size)) := hide (by rw [linesL_hit hj hn, e1, e2])
      have hxz : (t.extract a (a + j)).size = j := by rw [ByteArray.size_extract]; omega
      have hja : (a : Int) + (j : Int) ≤ t.size := by omega
      have hj0 : (0 : Int) ≤ (j : Int) := by omega
      clear hj hn hl e1 e2 hrs
      go_wp2_with fail
      refine (index_calls hi).mono ?_
      rintro e w1 ⟨rfl, rfl⟩
      clear hi
      go_wp2_with fail
      refine (cut_calls (s := t.extract a (a + j)) (by omega) hm1).mono ?_
      rintro e w2 ⟨rfl, q, rfl⟩
      have hlz := rline_size (t.extract a (a + j))
      have hbelq := below_drewN hbel q
      have hownq := hide (own_drewN hown.out q)
      have htabq := pow_kept htab hbelq
      clear hbel hown htab1 hm1
      generalize hX : t.extract a (a + j) = x at *
      generalize hwq : w1.drewN q = wq at *
      replace hX := hide hX
      replace hwq := hide hwq
      cases hh : rhas x with
      | false =>
        have HE : Hid (rres 0 (linesL t) = (L, a)) := hide (by rw [hres.out, HL.out, rres_no (by unfold rok; rw [hh]; rfl)]; simp)
        clear hres
        go_wp2_with fail
        refine (i_CheckOf mlt (by omega)).mono ?_
        rintro e w3 ⟨rfl, rfl⟩
        go_wp2
        go_ret2
        exact ⟨_, by rw [HE.out]; rfl, by rw [HE.out]; exact hownq.out, hbelq⟩
      | true =>
        go_wp2_with fail
        refine (i_CheckOf mlt (by omega)).mono ?_
        rintro e w3 ⟨rfl, rfl⟩
        go_wp2_with fail
        refine (i_DecimalA (by omega) (by have := chkL_lt mlt (rline x).data.toList; unfold chk; omega) htabq).mono ?_
        rintro e w4 ⟨rfl, hb4⟩
        have hbel4 := hbelq.trans (hb4.mono hbelq.size)
        have hown4 := hide (own_below hownq.out hb4)
        clear hb4 htabq hownq hbelq
        by_cases hq : rword x = numS (chk m (rline x) : Nat)
        · have hs1 : (!(rword x).toList == (numS (chk m (rline x) : Nat)).toList) = false := by rw [str_ne, decide_eq_true hq]; rfl
          have hok : rok m x = true := by unfold rok; rw [hh, decide_eq_true hq]; rfl
          have HE : Hid (rres 0 (linesL t) = ((L ++ [rline x]) ++ (rres (chk m (rline x)) (linesL (t.extract (a + j + 1) t.size))).1, (a + j + 1) + (rres (chk m (rline x)) (linesL (t.extract (a + j + 1) t.size))).2)) := hide (by
            rw [hres.out, HL.out, rres_yes hok, hxz]
            simp; omega)
          have hcl : chk m (rline x) < 65003 := chkL_lt mlt _
          have hLL := hL.out
          clear hres hq hok
          go_wp2_with (at_builtin; refine wpList_append1 rfl (.tmp 49) (.tmp 51) 72 rfl w.heap.size 9 (.string ByteArray.empty) _ 16 info_str Tryz.underlying72 rfl rfl _ _ _ rfl hown4.out rfl rfl (by omega) (by omega) hbel4.size ?_)
          intro v' w' hown' hb'
          have hbel5 := hbel4.trans hb'
          have HO : Hid (w'.ownsRow w.heap.size 9 1 v' (L ++ [rline x]).length ((L ++ [rline x]).map .string)) := hide (by simpa using hown')
          clear hown' hb' hown4 hbel4
          go_wp2
          go_roundw
          case rel => exact ⟨a + j + 1, chk m (rline x), L ++ [rline x], by omega, by go_num, rfl, hcl, HE, hide (by simp; omega), HO, hbel5⟩
          case measure => (simp [intOf]; try omega)
        · have hs1 : (!(rword x).toList == (numS (chk m (rline x) : Nat)).toList) = true := by rw [str_ne, decide_eq_false hq]; rfl
          have HE : Hid (rres 0 (linesL t) = (L, a)) := hide (by rw [hres.out, HL.out, rres_no (by unfold rok; rw [hh, decide_eq_false hq]; rfl)]; simp)
          clear hres hq
          go_wp2
          go_ret2
          exact ⟨_, by rw [HE.out]; rfl, by rw [HE.out]; exact hown4.out, hbel4⟩
end Go.Proofs.YtnpccnhamohnkaaGreatDoor
