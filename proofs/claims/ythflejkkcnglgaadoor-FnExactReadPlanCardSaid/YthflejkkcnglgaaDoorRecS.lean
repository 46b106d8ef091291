/-
  RecoverJournal: the reference's walk.
-/
import Derived.Test.YthflejkkcnglgaaDoorRecI
import Derived.Test.YthflejkkcnglgaaDoorLinesS
import Derived.Deep.LoopGhost
import Derived.Deep.RegionHeld3
namespace Go.Proofs.YthflejkkcnglgaaDoor
open Go.RowKit Mem Go.Shelf
set_option linter.unusedVariables false
set_option maxRecDepth 100000

theorem last_of' (s : ByteArray) : ∃ x, (splitS s 10)[(splitS s 10).length - 1]? = some x :=
  ⟨_, List.getElem?_eq_getElem (by have := splitS_pos s 10; omega)⟩
theorem splitS_mem (m : UInt8) : ∀ (N : Nat) (s : ByteArray), s.size ≤ N → ∀ x ∈ splitS s m, x.size ≤ s.size := by
  intro N
  induction N with
  | zero =>
    intro s h x hx
    have hl : s.data.toList.length = s.size := Array.length_toList
    rw [splitS_miss (fun i => by rw [List.getElem?_eq_none (by omega)]; simp)] at hx
    simp at hx; subst hx; exact Nat.le_refl _
  | succ N ih =>
    intro s h x hx
    have hl : s.data.toList.length = s.size := Array.length_toList
    rcases indexByte_cases m s.data.toList with ⟨_, hm⟩ | ⟨j, _, hj, hn⟩
    · rw [splitS_miss hm] at hx
      simp at hx; subst hx; exact Nat.le_refl _
    · have hjl : j < s.size := by rw [← hl]; exact (List.getElem?_eq_some_iff.1 hj).1
      rw [splitS_hit hj hn] at hx
      have e1 : (s.extract 0 j).size ≤ s.size := by rw [ByteArray.size_extract]; omega
      have e2 : (s.extract (j + 1) s.size).size = s.size - (j + 1) := by rw [ByteArray.size_extract]; omega
      rcases List.mem_cons.1 hx with rfl | hx
      · exact e1
      · have := ih _ (by omega) x hx
        omega
theorem own_base {w : World} {base base' n : Nat} {e : TypeId} {size : Nat} {v : Value} {xs : List Value} (h : w.ownsRow base e size v n xs) (hle : base' ≤ base) : w.ownsRow base' e size v n xs := by
  obtain ⟨h1, h2⟩ := h
  refine ⟨h1, ?_⟩
  rcases h2 with h2 | ⟨g, cap, cur, hv, hb, h3⟩
  · exact .inl h2
  · exact .inr ⟨g, cap, cur, hv, Nat.le_trans hle hb, h3⟩
theorem rres_nil (c : Nat) : rres c [] = ([], 0) := rfl
set_option maxHeartbeats 4000000 in
theorem s_l08Recover {t : ByteArray} {w : World} (hs : t.size ≤ 1048576) :
    Calls Tryd.prog 13 #[.string t] w fun e w' => ∃ v, e = .returned (.tuple #[v, .int .i64 ((rres 0 (linesL t)).2 : Nat)]) ∧ w'.ownsRow w.heap.size 9 1 v (rres 0 (linesL t)).1.length ((rres 0 (linesL t)).1.map .string) ∧ Below w.heap.size w w' := by
  obtain ⟨y, hy⟩ := last_of' t
  have hle := splitS_le t 10
  have hp := splitS_pos t 10
  have HM : Hid (∀ x ∈ linesL t, x.size ≤ t.size) := hide (fun x hx => splitS_mem 10 _ t (Nat.le_refl _) x (List.dropLast_subset _ hx))
  have hlen : (linesL t).length = (splitS t 10).length - 1 := List.length_dropLast
  go_enter Tryd.func13, Tryd.ntmps13
  go_wp2_with fail
  refine (s_l08Lines hs hy).mono ?_
  rintro e w1 ⟨g, cap, rfl, hg, hgl, hcell, hb⟩
  have HC : Hid (∀ (j : Nat) (u : ByteArray), (linesL t)[j]? = some u → w1.cell? ⟨g, j, none⟩ = some (.string u)) := hide (fun j u hu => hcell j u (by
    unfold linesL at hu
    rw [List.getElem?_dropLast] at hu
    split at hu
    · exact hu
    · cases hu))
  clear hcell hy
  generalize hN : (splitS t 10).length - 1 = n at *
  generalize hL : linesL t = ls at *
  have HN := hide hN
  have HL := hide hL
  have Hlen := hide hlen
  have hn1 : n ≤ 1048576 := by omega
  clear hN hL hlen hle hp
  have hb0 := hb.size
  go_wp2
  go_loopw [6, 7, 8, 9] (fun out cv nv i wr => ∃ k m q : Nat, ∃ A : List ByteArray, k ≤ n ∧ i = .int .i64 k ∧ cv = .int .i64 m ∧ nv = .int .i64 q ∧ m < 65003 ∧ q ≤ k * 1048577 ∧ Hid (rres 0 ls = (A ++ (rres m (ls.drop k)).1, q + (rres m (ls.drop k)).2)) ∧ Hid (A.length ≤ k) ∧ Hid (wr.ownsRow w1.heap.size 9 1 out A.length (A.map .string)) ∧ Below w1.heap.size w1 wr) (fun _ _ _ i _ => n - (intOf i).toNat)
  case atStart => exact ⟨0, 0, 0, [], Nat.zero_le _, rfl, rfl, rfl, by decide, by omega, hide (by simp), hide (Nat.le_refl _), hide (World.ownsRow_made _ _ _ (Nat.le_refl _) (by simp [maxLen]) (by simp)), (Below.refl _ _).alloc (Nat.le_refl _) _⟩
  case round =>
    obtain ⟨k, m, q, A, hk, rfl, rfl, rfl, mlt, hq, hres, hA, hown, hbel⟩ := hrel
    by_cases hk2 : k < n
    · obtain ⟨x, hx⟩ : ∃ x, ls[k]? = some x := ⟨_, List.getElem?_eq_getElem (by rw [Hlen.out]; exact hk2)⟩
      have hc : wr.cell? ⟨g, k, none⟩ = some (.string x) := (hbel.cell (p := ⟨g, k, none⟩) hgl).trans (HC.out k x hx)
      have hxs : x.size ≤ t.size := HM.out x (List.mem_of_getElem? hx)
      have HD : Hid (ls.drop k = x :: ls.drop (k + 1)) := hide (drop_eq hx)
      have hkI : (k : Int) < (n : Int) := by omega
      have hk0 : (0 : Int) ≤ k := by omega
      clear hx
      go_wp2_with fail
      go_loopw [10] (fun cv wz => ∃ p : Nat, p ≤ x.size ∧ cv = .int .i64 p ∧ Hid (∀ i : Nat, i < p → x.data.toList[i]? ≠ some 32) ∧ wz = wr) (fun c _ => x.size - (intOf c).toNat)
      case atStart => exact ⟨0, Nat.zero_le _, rfl, hide (fun i hi => absurd hi (by omega)), rfl⟩
      case round =>
        obtain ⟨p, hp, rfl, hmiss, rfl⟩ := hrel
        by_cases hp2 : p < x.size
        · have hpI : (p : Int) < (x.size : Int) := by omega
          have hp0 : (0 : Int) ≤ p := by omega
          by_cases hsp : x[p] = 32
          · have hbi : ((x[p]).toNat : Int) = 32 := by rw [hsp]; rfl
            obtain ⟨hh, hw1, hw2⟩ := cut_hit (by rw [byte_at hp2, hsp]) hmiss.out
            have hlz := rline_size x
            have hpn : ¬ (p : Int) = (x.size : Int) := by omega
            have hcl : chk m (rline x) < 65003 := chkL_lt mlt _
            have hgw := Nat.lt_of_lt_of_le hgl hbel.size
            have ne0 := World.new_ne _ _ hc
            have hp1 : (p : Int) + 1 ≤ x.size := by omega
            by_cases hq2 : rword x = numS (chk m (rline x) : Nat)
            · have hok : rok m x = true := by unfold rok; rw [hh, decide_eq_true hq2]; rfl
              have HE : Hid (rres 0 ls = ((A ++ [rline x]) ++ (rres (chk m (rline x)) (ls.drop (k + 1))).1, (q + (x.size + 1)) + (rres (chk m (rline x)) (ls.drop (k + 1))).2)) := hide (by
                rw [hres.out, HD.out, rres_yes hok]
                simp; omega)
              have hs1 : (!(rword x).toList == (numS (chk m (rline x) : Nat)).toList) = false := by rw [str_ne, decide_eq_true hq2]; rfl
              have hA1 := hA.out
              rw [hw1] at hs1
              generalize hlx : rline x = lx at *
              clear hlx hres hq2 hok hw1 hh hmiss hsp
              have hs2 : x.extract (p + 1) x.size = lx := hw2.symm
              clear hw2
              go_wp2_with fail
              refine (s_l01Check mlt (by omega)).mono ?_
              rintro e w2 ⟨rfl, rfl⟩
              clear hs2
              go_wp2_with fail
              go_region_held3 (fun w' => w'.cell? ⟨g, k, none⟩ = some (.string x)) (first | assumption | go_keep)
                (first | (go_at_call 22; refine (s_l01DecS (n := (chk m lx : Nat)) (by omega) (by omega)).mono ?_; rintro e wd ⟨rfl, hbd⟩; have KD : wd.cell? ⟨g, k, none⟩ = some (.string x) := (hbd.cell hgw).trans hc; have BD := below_undrew hbd))
              all_goals
                have hbel4 := hbel.trans (BD.mono hbel.size)
                have hown4 := hide (own_below hown.out BD)
                have hc4 := (BD.cell (p := ⟨g, k, none⟩) hgw).trans hc
                clear hown hbel hc hbi
                go_wp2_with (at_builtin; refine wpList_append1 rfl (.tmp 68) (.tmp 70) 22 rfl w1.heap.size 9 (.string ByteArray.empty) _ 16 info_str Tryd.underlying22 rfl rfl _ _ _ rfl hown4.out rfl rfl (by omega) (by omega) hbel4.size ?_)
                intro v' w' hown' hb'
                have hc5 := (hb'.cell (p := ⟨g, k, none⟩) hgl).trans hc4
                have hbel5 := hbel4.trans hb'
                have HO : Hid (w'.ownsRow w1.heap.size 9 1 v' (A ++ [lx]).length ((A ++ [lx]).map .string)) := hide (by simpa using hown')
                clear hown' hb' hown4 hbel4 hc4
                go_wp2
                go_roundw
                case rel => exact ⟨k + 1, chk m lx, q + (x.size + 1), A ++ [lx], by omega, by go_num, rfl, by go_num, hcl, by omega, HE, hide (by simp; omega), HO, hbel5⟩
                case measure => (simp [intOf]; try omega)
            · have HE : Hid (rres 0 ls = (A, q)) := hide (by
                rw [hres.out, HD.out, rres_no (by unfold rok; rw [hh, decide_eq_false hq2]; rfl)]; simp)
              have hs1 : (!(rword x).toList == (numS (chk m (rline x) : Nat)).toList) = true := by rw [str_ne, decide_eq_false hq2]; rfl
              have hA1 := hA.out
              rw [hw1] at hs1
              generalize hlx : rline x = lx at *
              clear hlx hres hq2 hw1 hh hmiss hsp
              have hs2 : x.extract (p + 1) x.size = lx := hw2.symm
              clear hw2
              go_wp2_with fail
              refine (s_l01Check mlt (by omega)).mono ?_
              rintro e w2 ⟨rfl, rfl⟩
              clear hs2
              go_wp2_with fail
              go_region_held3 (fun w' => w'.cell? ⟨g, k, none⟩ = some (.string x)) (first | assumption | go_keep)
                (first | (go_at_call 22; refine (s_l01DecS (n := (chk m lx : Nat)) (by omega) (by omega)).mono ?_; rintro e wd ⟨rfl, hbd⟩; have KD : wd.cell? ⟨g, k, none⟩ = some (.string x) := (hbd.cell hgw).trans hc; have BD := below_undrew hbd))
              all_goals
                have hbel4 := hbel.trans (BD.mono hbel.size)
                have hown4 := hide (own_below hown.out BD)
                clear hown hbel hc hbi
                go_wp2
                go_ret2
                exact ⟨_, by rw [HL.out, HE.out]; rfl, by rw [HL.out, HE.out]; exact own_base hown4.out hb0, hb.trans (hbel4.mono hb0)⟩
          · have hbi : ¬ ((x[p]).toNat : Int) = 32 := fun e => hsp (UInt8.toNat_inj.1 (by show (x[p]).toNat = 32; omega))
            have HQ : Hid (∀ i : Nat, i < p + 1 → x.data.toList[i]? ≠ some 32) := hide (fun i hi => by
              rcases Nat.lt_or_ge i p with h | h
              · exact hmiss.out i h
              · obtain rfl : i = p := by omega
                rw [byte_at hp2]; simpa using hsp)
            go_wp2
            go_roundw
            case rel => exact ⟨p + 1, by omega, by go_num, HQ, trivial⟩
            case measure => (simp [intOf]; try omega)
        · obtain rfl : p = x.size := by omega
          have hpI : ¬ (x.size : Int) < (x.size : Int) := by omega
          have hl : x.data.toList.length = x.size := Array.length_toList
          have HE : Hid (rres 0 ls = (A, q)) := hide (by
            have hh : rhas x = false := cut_miss (fun i => by
              rcases Nat.lt_or_ge i x.size with h | h
              · exact hmiss.out i h
              · rw [List.getElem?_eq_none (by omega)]; simp)
            rw [hres.out, HD.out, rres_no (by unfold rok; rw [hh]; rfl)]; simp)
          clear hres hl
          go_wp2
          go_ret2
          exact ⟨_, by rw [HL.out, HE.out]; rfl, by rw [HL.out, HE.out]; exact own_base hown.out hb0, hb.trans (hbel.mono hb0)⟩
    · obtain rfl : k = n := by omega
      have hkI : ¬ (k : Int) < (k : Int) := by omega
      have HE : Hid (rres 0 ls = (A, q)) := hide (by
        rw [hres.out, List.drop_of_length_le (by rw [Hlen.out]; exact Nat.le_refl _), rres_nil]; simp)
      clear hres
      go_wp2
      go_ret2
      exact ⟨_, by rw [HL.out, HE.out]; rfl, by rw [HL.out, HE.out]; exact own_base hown.out hb0, hb.trans (hbel.mono hb0)⟩
end Go.Proofs.YthflejkkcnglgaaDoor
