/-
  ReadNumbers, as the reference has it.
-/
import Derived.Test.YtnpccnhamohnkaaGreatDoorNumI
namespace Go.Proofs.YtnpccnhamohnkaaGreatDoor
open Go.RowKit Mem Fl Go.Shelf
set_option linter.unusedVariables false
set_option maxRecDepth 100000

/-- What the inner loop holds of a piece. -/
def Hd (l : List UInt8) (k a : Nat) : Prop := a < 16 ^ k ∧ ∀ n, hexF 0 l = n → hexF a (l.drop k) = n
theorem hd_zero (l : List UInt8) : Hd l 0 0 := ⟨by simp, fun n h => by simpa using h⟩
theorem hd_bd {l : List UInt8} {k a : Nat} (h : Hd l k a) (hk : k ≤ 7) : a < 268435456 := by
  have : 16 ^ k ≤ 16 ^ 7 := Nat.pow_le_pow_right (by decide : 0 < 16) hk
  have h2 := h.1
  have h3 : 16 ^ 7 = 268435456 := by decide
  omega
theorem drop_hd {l : List UInt8} {k : Nat} {c : UInt8} (hc : l[k]? = some c) : l.drop k = c :: l.drop (k + 1) := by
  have hk : k < l.length := by
    rcases Nat.lt_or_ge k l.length with h | h
    · exact h
    · rw [List.getElem?_eq_none h] at hc; cases hc
  rw [List.drop_eq_getElem_cons hk]
  rw [List.getElem?_eq_getElem hk] at hc
  injection hc with hc
  rw [hc]
theorem hd_succ {l : List UInt8} {k a d : Nat} {c : UInt8} (h : Hd l k a) (hc : l[k]? = some c) (hd : lowd c = some d) : Hd l (k + 1) (16 * a + d) := by
  obtain ⟨h1, h2⟩ := h
  refine ⟨by have := lowd_lt hd; rw [Nat.pow_succ]; omega, fun n hn => ?_⟩
  have := h2 n hn
  rw [drop_hd hc] at this
  simpa only [hexF, hd] using this
theorem hd_none {l : List UInt8} {k a : Nat} {c : UInt8} (h : Hd l k a) (hc : l[k]? = some c) (hd : lowd c = none) : hexF 0 l = none := by
  have := h.2 _ rfl
  rw [drop_hd hc] at this
  simp only [hexF, hd] at this
  exact this.symm
theorem hd_end {l : List UInt8} {a : Nat} (h : Hd l 8 a) (hl : l.length = 8) : a < 4294967296 ∧ hexF 0 l = some a := by
  have h1 := h.1
  have h3 : 16 ^ 8 = 4294967296 := by decide
  have := h.2 _ rfl
  rw [List.drop_eq_nil_of_le (by omega)] at this
  simp only [hexF] at this
  exact ⟨by omega, this.symm⟩
theorem numsV_bad {s p : ByteArray} {k : Nat} (hq : s ≠ noneB) (hp : (splitS s 44)[k]? = some p) (h : readN p = none) : numsV s = none := by
  unfold numsV
  rw [if_neg hq]
  split
  · exact allN_bad (List.mem_of_getElem? hp) h
  · rfl
set_option maxHeartbeats 4000000 in
theorem s_l01NRead {s : ByteArray} {w : World} (hs : s.size ≤ 1048576) :
    Calls Tryz.prog 108 #[.string s] w fun e w' => NR w.heap.size (numsV s) e w' ∧ Below w.heap.size w w' := by
  by_cases hq : s = noneB
  · have hs1 : (s.toList == [110, 111, 110, 101]) = true := by rw [none_list]; exact decide_eq_true hq
    have HR : Hid (numsV s = some []) := hide (if_pos hq)
    clear hq
    go_enter Tryz.func108, Tryz.ntmps108
    go_wp2
    go_ret2
    exact ⟨NR.yes HR.out rfl (World.ownsRow_made _ _ _ (Nat.le_refl _) (by simp [maxLen]) (by simp)) (fun x hx => by cases hx), (Below.refl _ _).alloc (Nat.le_refl _) _⟩
  · have hs1 : (s.toList == [110, 111, 110, 101]) = false := by rw [none_list]; exact decide_eq_false hq
    have hle := splitS_le s 44
    have Hq := hide hq
    clear hq
    go_enter Tryz.func108, Tryz.ntmps108
    go_wp2_with fail
    refine (s_l01Cut (m := 44) hs).mono ?_
    rintro e w1 ⟨v, rfl, hown, hb⟩
    rw [cutAll_split] at hown
    have hpos := splitS_pos s 44
    obtain ⟨g, cap, rfl, hg0, hg, hcap, hcell⟩ := row_of_own hpos hown
    have bel1 : Below w.heap.size w w1 := ((Below.refl _ _).alloc (Nat.le_refl _) _).trans (hb.mono (by simp))
    have own1 : Hid (w1.ownsRow w.heap.size 37 1 (.slice (some ⟨w.heap.size, 0, none⟩) 0 0) 0 (fl .f32 [])) := hide (own_below (World.ownsRow_made _ _ _ (Nat.le_refl _) (by simp [maxLen]) (by simp)) hb)
    have hpr : Hid (PR w1 (some ⟨g, 0, none⟩) (splitS s 44)) := hide (fun j q hj => ⟨g, rfl, hg, hcell j _ (by rw [List.getElem?_map, hj]; rfl)⟩)
    have hne1 : Hid ((Value.slice (some ⟨w.heap.size, 0, none⟩) 0 0).ownBlock ≠ some g) := hide (by
      intro e
      injection e with e
      rw [World.size_alloc] at hg0
      change w.heap.size = g at e
      omega)
    clear hown hcell hb hg0
    generalize hn : (splitS s 44).length = n at hle hpos hcap
    replace hn := hide hn
    by_cases h6 : n ≤ 256
    · have h6I : ¬ (256 : Int) < (n : Int) := by omega
      go_wp2
      go_loopw [4, 6] (fun v i wr => ∃ (k : Nat) (xs : List Nat), k ≤ n ∧ i = .int .i64 k ∧ Hid (xs.length = k) ∧ Hid (allN ((splitS s 44).take k) = some xs) ∧ Hid (∀ x ∈ xs, x < 4294967296) ∧ Hid (wr.ownsRow w.heap.size 37 1 v k (fl .f32 xs)) ∧ Hid (PR wr (some ⟨g, 0, none⟩) (splitS s 44)) ∧ Hid (v.ownBlock ≠ some g) ∧ Below w.heap.size w wr) (fun _ i _ => n - (intOf i).toNat)
      case atStart => exact ⟨0, [], Nat.zero_le _, rfl, hide rfl, hide rfl, hide (fun x hx => by cases hx), own1, hpr, hne1, bel1⟩
      case round =>
        clear own1 hpr hne1 bel1
        obtain ⟨k, xs, hk, rfl, hxl, hall, hx32, hown, hpr, hne, hbel⟩ := hrel
        by_cases hk2 : k < n
        · obtain ⟨p, hp⟩ : ∃ p, (splitS s 44)[k]? = some p := ⟨_, List.getElem?_eq_getElem (by rw [hn.out]; exact hk2)⟩
          obtain ⟨hgw, hc⟩ : g < wr.heap.size ∧ wr.cell? ⟨g, k, none⟩ = some (.string p) := by
            obtain ⟨g', e, h1, h2⟩ := hpr.out k p hp
            injection e with e
            injection e with e
            subst e
            exact ⟨h1, h2⟩
          have hkI : (k : Int) < (n : Int) := by omega
          have Hp := hide hp
          clear hp
          by_cases h8 : p.size = 8
          · have h8I : (p.size : Int) = 8 := by omega
            go_wp2
            clear h8I
            replace h8 := hide h8
            go_loopw [7, 8] (fun vn vj wr' => ∃ j a : Nat, j ≤ 8 ∧ vn = .int .i64 a ∧ vj = .int .i64 j ∧ Hid (Hd p.data.toList j a) ∧ wr' = wr) (fun _ vj _ => 8 - (intOf vj).toNat)
            case atStart => exact ⟨0, 0, Nat.zero_le _, rfl, rfl, hide (hd_zero _), rfl⟩
            case round =>
              obtain ⟨j, a, hj, rfl, rfl, hd, rfl⟩ := hrel
              by_cases hj2 : j < 8
              · have hjp : j < p.size := by rw [h8.out]; exact hj2
                have hb : p.data.toList[j]? = some p[j] := by
                  rw [List.getElem?_eq_getElem (show j < p.data.toList.length by simp only [Array.length_toList]; exact hjp)]; rfl
                obtain ⟨cb, hcb⟩ : ∃ cb, p[j] = cb := ⟨_, rfl⟩
                rw [hcb] at hb
                obtain ⟨mb, hmb⟩ : ∃ mb : Int, (cb.toNat : Int) = mb := ⟨_, rfl⟩
                have m0 : 0 ≤ mb := by omega
                have m1 : mb ≤ 255 := by have := cb.toNat_lt; omega
                have hjI : (j : Int) < 8 := by omega
                have hjpI : (j : Int) < (p.size : Int) := by exact_mod_cast hjp
                have ab := hd_bd hd.out (by omega)
                have abI : (a : Int) < 268435456 := by omega
                by_cases hd1 : 48 ≤ cb.toNat ∧ cb.toNat ≤ 57
                · obtain ⟨d0, d1⟩ := hd1
                  have i0 : 48 ≤ mb := by omega
                  have i1 : mb ≤ 57 := by omega
                  have i2 : ¬ 97 ≤ mb := by omega
                  have i4 : ¬ mb - 48 < 0 := by omega
                  have HN := hide (hd_succ hd.out hb (show lowd cb = some (cb.toNat - 48) by unfold lowd; rw [if_pos ⟨d0, d1⟩]))
                  clear hb d0 d1
                  go_wp2
                  go_roundw
                  case rel => exact ⟨j + 1, 16 * a + (cb.toNat - 48), by omega, by first | go_num | (congr 1; omega), by go_num, HN, trivial⟩
                  case measure => (simp [intOf]; try omega)
                · by_cases hd2 : 97 ≤ cb.toNat ∧ cb.toNat ≤ 102
                  · obtain ⟨d0, d1⟩ := hd2
                    have i0 : 97 ≤ mb := by omega
                    have i1 : mb ≤ 102 := by omega
                    have i2 : 48 ≤ mb := by omega
                    have i3 : ¬ mb ≤ 57 := by omega
                    have i4 : ¬ mb - 97 + 10 < 0 := by omega
                    have HN := hide (hd_succ hd.out hb (show lowd cb = some (cb.toNat - 87) by unfold lowd; rw [if_neg hd1, if_pos ⟨d0, d1⟩]))
                    clear hb hd1 d0 d1
                    go_wp2
                    go_roundw
                    case rel => exact ⟨j + 1, 16 * a + (cb.toNat - 87), by omega, by first | go_num | (congr 1; omega), by go_num, HN, trivial⟩
                    case measure => (simp [intOf]; try omega)
                  · have HR := hide (numsV_bad Hq.out Hp.out (by
                      have h9 := hd_none hd.out hb (show lowd cb = none by unfold lowd; rw [if_neg hd1, if_neg hd2])
                      unfold readN hexV
                      rw [h9]; split <;> rfl))
                    clear hb
                    rcases (show cb.toNat < 48 ∨ (57 < cb.toNat ∧ cb.toNat < 97) ∨ 102 < cb.toNat by omega) with h | ⟨h, h'⟩ | h
                    · have i0 : ¬ 48 ≤ mb := by omega
                      have i1 : ¬ 97 ≤ mb := by omega
                      clear hd1 hd2 h
                      go_wp2
                      go_ret2
                      exact ⟨NR.no HR.out, hbel⟩
                    · have i0 : 48 ≤ mb := by omega
                      have i1 : ¬ mb ≤ 57 := by omega
                      have i2 : ¬ 97 ≤ mb := by omega
                      clear hd1 hd2 h h'
                      go_wp2
                      go_ret2
                      exact ⟨NR.no HR.out, hbel⟩
                    · have i0 : 48 ≤ mb := by omega
                      have i1 : ¬ mb ≤ 57 := by omega
                      have i2 : 97 ≤ mb := by omega
                      have i3 : ¬ mb ≤ 102 := by omega
                      clear hd1 hd2 h
                      go_wp2
                      go_ret2
                      exact ⟨NR.no HR.out, hbel⟩
              · obtain rfl : j = 8 := by omega
                obtain ⟨a32, hF⟩ := hd_end hd.out (by rw [Array.length_toList]; exact h8.out)
                have aI : (a : Int) < 4294967296 := by omega
                have hF' := hide hF
                clear hF hd
                go_wp2_with fail
                refine (s_l01From a32).mono ?_
                rintro e w2 ⟨rfl, rfl⟩
                go_wp2_with fail
                refine (s_l01Bits (wf_lt a32)).mono ?_
                rintro e w2 ⟨rfl, rfl⟩
                by_cases hcn : cn .f32 a = a
                · rw [hcn]
                  have hr : readN p = some a := readN_iff.2 ⟨h8.out, hF'.out, hcn⟩
                  have HA := hide (allN_take hall.out Hp.out hr)
                  have HXl : Hid ((xs ++ [a]).length = k + 1) := hide (by simp [hxl.out])
                  have H32 : Hid (∀ x ∈ xs ++ [a], x < 4294967296) := hide (fun x hx => by
                    rcases List.mem_append.1 hx with h | h
                    · exact hx32.out x h
                    · rw [List.mem_singleton] at h; rw [h]; exact a32)
                  have HO0 := fun o => own_below hown.out ((Below.refl wr.heap.size wr).alloc (Nat.le_refl _) o)
                  have hsz := hbel.size
                  clear hc hcn hr
                  go_wp2_with (at_builtin; refine wpList_append1b rfl (.tmp 74) (.tmp 76) 22 rfl w.heap.size 37 (.float .f32 0) _ 4 info_f32 Tryz.underlying22 rfl rfl _ _ _ rfl hown.out (by show Value.slice (some ⟨wr.heap.size, 0, none⟩) 1 1 = _; simp) rfl (by omega) (by omega) hsz ?_)
                  intro v' w' hown' hb' hkeep hblk
                  have hbel5 := hbel.trans hb'
                  have HO : Hid (w'.ownsRow w.heap.size 37 1 v' (k + 1) (fl .f32 (xs ++ [a]))) := hide (by simpa [fl] using hown')
                  have HP : Hid (PR w' (some ⟨g, 0, none⟩) (splitS s 44)) := hide (fun j q hq => by
                    obtain ⟨g', e, hg', hc'⟩ := hpr.out j q hq
                    injection e with e
                    injection e with e
                    subst e
                    exact ⟨_, rfl, Nat.lt_of_lt_of_le hg' hb'.size, hkeep _ _ _ hg' hne.out hc'⟩)
                  have HN : Hid (v'.ownBlock ≠ some g) := hide (hblk _ hgw hne.out)
                  clear hown' hb' hkeep hblk hown hpr hne HO0
                  go_wp2
                  go_roundw
                  case rel => exact ⟨k + 1, xs ++ [a], by omega, by go_num, HXl, HA, H32, HO, HP, HN, hbel5⟩
                  case measure => (simp [intOf]; try omega)
                · have hcI : ((cn .f32 a : Int) != (a : Int)) = true := by simp; omega
                  have hcJ : ¬ (cn .f32 a : Int) = (a : Int) := by omega
                  have HR := hide (numsV_bad Hq.out Hp.out (by
                    cases h : readN p with
                    | none => rfl
                    | some m =>
                      obtain ⟨_, r2, r3⟩ := readN_iff.1 h
                      have : some m = some a := r2.symm.trans hF'.out
                      injection this with this
                      subst this
                      exact absurd r3 hcn))
                  clear hcn
                  go_wp2
                  go_ret2
                  exact ⟨NR.no HR.out, hbel⟩
          · have h8I : ¬ (p.size : Int) = 8 := by omega
            have HR := hide (numsV_bad Hq.out Hp.out (readN_size h8))
            go_wp2
            go_ret2
            exact ⟨NR.no HR.out, hbel⟩
        · obtain rfl : k = n := by omega
          have HR : Hid (numsV s = some xs) := hide (by
            unfold numsV
            rw [if_neg Hq.out, if_pos (by rw [hn.out]; exact h6)]
            have := hall.out
            rwa [List.take_of_length_le (by rw [hn.out]; exact Nat.le_refl _)] at this)
          go_wp2
          go_ret2
          exact ⟨NR.yes HR.out hxl.out.symm hown.out hx32.out, hbel⟩
    · have h6I : (256 : Int) < (n : Int) := by omega
      have HR : Hid (numsV s = none) := hide (by unfold numsV; rw [if_neg Hq.out, if_neg (by rw [hn.out]; exact h6)])
      go_wp2
      go_ret2
      exact ⟨NR.no HR.out, bel1⟩
end Go.Proofs.YtnpccnhamohnkaaGreatDoor
