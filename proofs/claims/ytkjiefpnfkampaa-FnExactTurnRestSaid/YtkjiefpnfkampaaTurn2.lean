/-
  Contracts of TurnMean: the reference's.
-/
import Derived.Test.YtkjiefpnfkampaaTurn
import Derived.RegionTactic
import Derived.BigRegion
namespace Go.Proofs.Ytkjiefpnfkampaa
open Go.RowKit Fl Mem
set_option linter.unusedVariables false
set_option maxRecDepth 100000

/-- The sums and the counts behind k numbers. -/
def sumsAt (xs : List Nat) (p k : Nat) : List Nat := (List.range p).map fun r => fsum (pickTo xs p r k)
def countsAt (xs : List Nat) (p k : Nat) : List Nat := (List.range p).map fun r => (pickTo xs p r k).length

theorem sumsAt_len (xs : List Nat) (p k : Nat) : (sumsAt xs p k).length = p := by simp [sumsAt]
theorem sumsAt_at {xs : List Nat} {p k r : Nat} (h : r < p) : (sumsAt xs p k)[r]? = some (fsum (pickTo xs p r k)) := by simp [sumsAt, h]
theorem countsAt_at {xs : List Nat} {p k r : Nat} (h : r < p) : (countsAt xs p k)[r]? = some (pickTo xs p r k).length := by simp [countsAt, h]
theorem sumsAt_succ {xs : List Nat} {p k x : Nat} (hp : 0 < p) (hx : xs[k]? = some x) : sumsAt xs p (k + 1) = (sumsAt xs p k).set (k % p) (fb .add .f32 (fsum (pickTo xs p (k % p) k)) x) := by
  have hr := Nat.mod_lt k hp
  apply List.ext_getElem?
  intro i
  rcases Nat.lt_or_ge i p with hi | hi
  · rw [sumsAt_at hi, List.getElem?_set, sumsAt_at hi]
    by_cases he : k % p = i
    · rw [if_pos he, if_pos (by rw [sumsAt_len]; omega), he, pickTo_yes hx he, fsum_snoc]
    · rw [if_neg he, pickTo_no he]
  · rw [List.getElem?_eq_none (by rw [sumsAt_len]; omega), List.getElem?_eq_none (by rw [List.length_set, sumsAt_len]; omega)]
theorem countsAt_succ {xs : List Nat} {p k x : Nat} (hp : 0 < p) (hx : xs[k]? = some x) : countsAt xs p (k + 1) = (countsAt xs p k).set (k % p) ((pickTo xs p (k % p) k).length + 1) := by
  have hr := Nat.mod_lt k hp
  have hl : ∀ k, (countsAt xs p k).length = p := by intro k; simp [countsAt]
  apply List.ext_getElem?
  intro i
  rcases Nat.lt_or_ge i p with hi | hi
  · rw [countsAt_at hi, List.getElem?_set, countsAt_at hi]
    by_cases he : k % p = i
    · rw [if_pos he, if_pos (by rw [hl]; omega), he, pickTo_yes hx he, List.length_append]; rfl
    · rw [if_neg he, pickTo_no he]
  · rw [List.getElem?_eq_none (by rw [hl]; omega), List.getElem?_eq_none (by rw [List.length_set, hl]; omega)]
theorem at_cn {zs ys : List Nat} {i z y : Nat} (h : zs.map (cn .f32) = ys) (hz : zs[i]? = some z) (hy : ys[i]? = some y) : cn .f32 z = y := by
  rw [← h, List.getElem?_map, hz] at hy
  injection hy
theorem blk_setF {α : Type} (F : α → Value) {w : World} {g : Nat} {t : TypeId} {xs : List α} {k : Nat} {y : α} (h : Blk w g t (xs.map F).toArray) : Blk (w.setCell ⟨g, k, none⟩ (F y)) g t ((xs.set k y).map F).toArray := by
  have := h.set_ k (F y)
  rwa [show ((xs.map F).toArray.setIfInBounds k (F y)) = ((xs.set k y).map F).toArray by simp [List.map_set]] at this

set_option maxHeartbeats 1000000 in
theorem s_l07Turn {A : Option Addr} {n c : Nat} {xs : List Nat} {p : Nat} {w : World} (h : Reads w w.heap.size 1 A n (fl .f32 xs)) (hn : n ≤ 96) (hp : 1 ≤ p) (hpn : p ≤ n) :
    Calls Try.prog 65 #[.slice A n c, .int .i64 (p : Int)] w fun e w' => ∃ A' c' zs, e = .returned (.slice A' p c') ∧
      w'.ownsRow w.heap.size 31 1 (.slice A' p c') p (fl .f32 zs) ∧ Hid (zs.map (cn .f32) = turnL xs p) ∧ Below w.heap.size w w' := by
  have Hl := hide h.map_len
  have hmk1 : ∀ W : World, (Instr.makeSlice 22 (.int .i64 (p : Int)) (.int .i64 (p : Int))).run Try.prog W = .ok (.slice (some ⟨W.heap.size, 0, none⟩) p p) (W.alloc (.cells (fl .f32 (List.replicate p 0)).toArray 31)) := by
    intro W
    have := run_make1 22 31 (.float .f32 0) 4 info_f32 Try.underlying22 rfl p (by omega) (by omega) W
    rw [this]; simp
  have hmk2 : ∀ W : World, (Instr.makeSlice 26 (.int .i64 (p : Int)) (.int .i64 (p : Int))).run Try.prog W = .ok (.slice (some ⟨W.heap.size, 0, none⟩) p p) (W.alloc (.cells (nl (List.replicate p 0)).toArray 2)) := by
    intro W
    have := run_make1 26 2 (.int .i64 0) 8 info_i64 Try.underlying26 rfl p (by omega) (by omega) W
    rw [this]; simp
  go_enter Try.func65, Try.ntmps65
  go_wp2
  go_loopw [16] (fun i wr => ∃ (k : Nat) (zs cs : List Nat), k ≤ n ∧ i = .int .i64 k ∧ Hid (zs.map (cn .f32) = sumsAt xs p k) ∧ Hid (zs.length = p) ∧ Hid (cs = countsAt xs p k) ∧
      Blk wr w.heap.size 31 (fl .f32 zs).toArray ∧ Blk wr (w.heap.size + 1) 2 (nl cs).toArray ∧ Below w.heap.size w wr) (fun i _ => n - (intOf i).toNat)
  case atStart => exact ⟨0, List.replicate p 0, List.replicate p 0, Nat.zero_le _, rfl, hide (by simp [sumsAt, pickTo_zero, fsum, cn_zero, List.map_const']), hide (by simp), hide (by simp [countsAt, pickTo_zero, List.map_const']),
    by have := (Blk.new w 31 (fl .f32 (List.replicate p 0)).toArray).alloc (.cells (nl (List.replicate p 0)).toArray 2); simpa using this,
    by have := Blk.new (w.alloc (.cells (fl .f32 (List.replicate p 0)).toArray 31)) 2 (nl (List.replicate p 0)).toArray; simpa using this, (by repeat (first | exact Below.refl _ _ | exact below_drewN (by assumption) _ | refine below_drewN ?_ _ | refine Below.alloc ?_ (by simp) _ | assumption))⟩
  case round =>
    obtain ⟨k, zs, cs, hk, rfl, hzs, hzl, hcs, hb1, hb2, hbel⟩ := hrel
    rename World => wo
    by_cases hlt : k < n
    · have hat : k % p < p := Nat.mod_lt _ (by omega)
      obtain ⟨ad, x, rfl, hadb, hx, hc⟩ := (h.below hbel).map_at hlt
      have Hx := hide hx
      have hzl' := hzl.out
      obtain ⟨z, hz⟩ : ∃ z, zs[k % p]? = some z := ⟨_, List.getElem?_eq_getElem (by omega)⟩
      have hcl : cs.length = p := by rw [hcs.out]; simp [countsAt]
      have hq : cs[k % p]? = some (pickTo xs p (k % p) k).length := by rw [hcs.out, countsAt_at hat]
      have hqk := pickTo_len xs p (k % p) k
      have Hsu := hide (sumsAt_succ (show 0 < p by omega) hx)
      have Hco := hide (countsAt_succ (show 0 < p by omega) hx)
      generalize hqq : (pickTo xs p (k % p) k).length = q at hq hqk Hco
      have c1 : wo.cell? ⟨w.heap.size, k % p, none⟩ = some (.float .f32 z) := by rw [hb1.cell]; simp [hz]
      have f1 : wo.frozen? ⟨w.heap.size, k % p, none⟩ = false := hb1.frozen _
      have c2 : wo.cell? ⟨w.heap.size + 1, k % p, none⟩ = some (.int .i64 (q : Int)) := by rw [hb2.cell]; simp [hq]
      have f2 : wo.frozen? ⟨w.heap.size + 1, k % p, none⟩ = false := hb2.frozen _
      have Hhb1 := hide hb1
      have Hhb2 := hide hb2
      have Hz := hide (at_cn hzs.out hz (sumsAt_at hat))
      clear hx hb1 hb2 hz hq hcl hqq
      go_wp2
      go_region
      go_wp2
      go_roundw
      case rel => exact ⟨k + 1, zs.set (k % p) _, cs.set (k % p) (q + 1), by omega, by go_num, hide (by rw [List.map_set, hzs.out, Hsu.out, cn_flR, ← fb_cnl, Hz.out]), hide (by rw [List.length_set]; exact hzl.out), hide (by rw [hcs.out, Hco.out]),
        (blk_setF (Value.float .f32) (Hhb1.out.drewN _)).far (by simp) _, blk_setF (fun n : Nat => Value.int .i64 (n : Int)) ((Hhb2.out.drewN _).far (by simp) _), ((below_drewN hbel _).setCell (Nat.le_refl _) _).setCell (by simp) _⟩
      case measure => simp [intOf]; omega
    · go_wp2
      obtain rfl : k = n := by omega
      go_loopw [41] (fun i wr => ∃ (j : Nat) (zs : List Nat), j ≤ p ∧ i = .int .i64 j ∧ Hid (zs.map (cn .f32) = (turnL xs p).take j ++ (sumsAt xs p k).drop j) ∧ Hid (zs.length = p) ∧
        Blk wr w.heap.size 31 (fl .f32 zs).toArray ∧ Blk wr (w.heap.size + 1) 2 (nl cs).toArray ∧ Below w.heap.size w wr) (fun i _ => p - (intOf i).toNat)
      case atStart => exact ⟨0, zs, Nat.zero_le _, rfl, hide (by rw [hzs.out]; simp), hzl, hb1, hb2, hbel⟩
      case round =>
        clear hb1 hb2 hbel hzs hzl
        obtain ⟨j, zs, hj, rfl, hzs, hzl, hb1, hb2, hbel⟩ := hrel
        rename World => wi
        by_cases hjt : j < p
        · have hzl' := hzl.out
          obtain ⟨z, hz⟩ : ∃ z, zs[j]? = some z := ⟨_, List.getElem?_eq_getElem (by omega)⟩
          have hq : cs[j]? = some (pickTo xs p j k).length := by rw [hcs.out, countsAt_at hjt]
          have hqk := pickTo_len xs p j k
          have Hz : Hid (cn .f32 z = fsum (pickTo xs p j k)) := hide (at_cn hzs.out hz (by rw [List.getElem?_append_right (by rw [List.length_take]; omega), List.length_take, turnL_len, Nat.min_eq_left (by omega), Nat.sub_self, List.getElem?_drop]; exact sumsAt_at hjt))
          have Hq : Hid (fmean (pickTo xs p j k) = fb .quo .f32 (fsum (pickTo xs p j k)) (floatOfInt .f32 ((pickTo xs p j k).length : Int))) := hide rfl
          generalize hqq : (pickTo xs p j k).length = q at hq hqk Hq
          have c1 : wi.cell? ⟨w.heap.size, j, none⟩ = some (.float .f32 z) := by rw [hb1.cell]; simp [hz]
          have f1 : wi.frozen? ⟨w.heap.size, j, none⟩ = false := hb1.frozen _
          have c2 : wi.cell? ⟨w.heap.size + 1, j, none⟩ = some (.int .i64 (q : Int)) := by rw [hb2.cell]; simp [hq]
          have Hhb1 := hide hb1
          have Hhb2 := hide hb2
          clear hb1 hb2 hz hq hqq
          go_wp2
          go_region
          go_wp2
          go_roundw
          case rel => exact ⟨j + 1, zs.set j _, by omega, by go_num, hide (by
              rw [List.map_set, hzs.out, cn_flR, ← fb_cnl, Hz.out, ← Hq.out, turnL_take hjt, Hl.out]
              apply List.ext_getElem?
              intro i
              rw [List.getElem?_set]
              have hlt1 : ((turnL xs p).take j).length = j := by rw [List.length_take, turnL_len]; omega
              by_cases he : j = i
              · subst he
                rw [if_pos rfl, if_pos (by rw [List.length_append, hlt1, List.length_drop, sumsAt_len]; omega), List.append_assoc, List.getElem?_append_right (by omega), hlt1, Nat.sub_self]; rfl
              · rw [if_neg he]
                rcases Nat.lt_or_ge i j with hi | hi
                · rw [List.getElem?_append_left (by omega), List.append_assoc, List.getElem?_append_left (by omega)]
                · rw [List.getElem?_append_right (by omega), List.getElem?_append_right (by rw [List.length_append, hlt1]; simp; omega), hlt1, List.length_append, hlt1, List.getElem?_drop, List.getElem?_drop]
                  congr 1
                  simp
                  omega), hide (by rw [List.length_set]; exact hzl.out),
            blk_setF (Value.float .f32) (Hhb1.out.drewN _), (Hhb2.out.drewN _).far (by simp) _, (below_drewN hbel _).setCell (Nat.le_refl _) _⟩
          case measure => simp [intOf]; omega
        · go_wp2
          go_ret
          obtain rfl : j = p := by omega
          exact ⟨_, _, zs, rfl, own_of_blk hb1 (Nat.le_refl _) (by rw [List.length_map]; exact hzl.out) (by simp [maxLen]; omega), hide (by rw [hzs.out, List.take_of_length_le (by rw [turnL_len]; omega), List.drop_of_length_le (by rw [sumsAt_len]; omega), List.append_nil]), hbel⟩

set_option maxHeartbeats 1000000 in
theorem s_TurnMean {A : Option Addr} {n c : Nat} {xs : List Nat} {p : Int} {w : World} (h : Reads w w.heap.size 1 A n (fl .f32 xs)) (hn : n ≤ maxLen) :
    Calls Try.prog 33 #[.slice A n c, .int .i64 p] w fun e w' => ∃ v zs, e = .returned (.tuple #[v, .bool (turnOk xs p)]) ∧
      w'.ownsRow w.heap.size 31 1 v zs.length (fl .f32 zs) ∧ Hid (zs.map (cn .f32) = turnR xs p) ∧ Below w.heap.size w w' := by
  have Hl := hide h.map_len
  have hm := hn
  unfold maxLen at hm
  have Hok : Hid (turnOk xs p = (isSig xs && inB p 1 (n : Int) && (turnL xs p.toNat).all (fin .f32))) := hide (by rw [turnOk, Hl.out])
  go_enter Try.func33, Try.ntmps33
  go_wp2_with (first | (go_at_call 53; refine (s_l07Signal _ _ _ xs _ _ h hn).mono ?_; rintro e w' ⟨rfl, m', rfl⟩) | (go_at_call 59; refine (s_l00In _ _ _ _).mono ?_; rintro e w' ⟨rfl, rfl⟩))
  · have h0 : isSig xs = false := by assumption
    have e : turnOk xs p = false := by rw [Hok.out, h0]; rfl
    go_ret2
    exact ⟨_, [], by rw [e]; rfl, own_nil _ _ _ _, hide (by rw [turnR_no e]; rfl), (by repeat (first | exact Below.refl _ _ | exact below_drewN (by assumption) _ | refine below_drewN ?_ _ | refine Below.alloc ?_ (by simp) _ | assumption))⟩
  · have h0 : (!inB p 1 (n : Int)) = true := by assumption
    have e : turnOk xs p = false := by rw [Hok.out]; simp at h0; simp [h0]
    go_ret2
    exact ⟨_, [], by rw [e]; rfl, own_nil _ _ _ _, hide (by rw [turnR_no e]; rfl), (by repeat (first | exact Below.refl _ _ | exact below_drewN (by assumption) _ | refine below_drewN ?_ _ | refine Below.alloc ?_ (by simp) _ | assumption))⟩
  · have h0 : isSig xs = true := by assumption
    have h1 : (!inB p 1 (n : Int)) = false := by assumption
    have hp := inB_iff.1 (show inB p 1 (n : Int) = true by simpa using h1)
    have h96 : n ≤ 96 := by rw [← Hl.out]; exact (isSig_len h0).2
    obtain ⟨q, rfl⟩ := Int.eq_ofNat_of_zero_le (show 0 ≤ p by omega)
    have hq1 : 1 ≤ q := by omega
    have hq2 : q ≤ n := by omega
    have Hok' : Hid (turnOk xs (q : Int) = (turnL xs q).all (fin .f32)) := hide (by rw [Hok.out, h0]; simp at h1; simp [h1])
    try go_simp
    clear h0 h1 hp
    refine (s_l07Turn (h.drewN _) h96 hq1 hq2).mono ?_
    rintro e w1 ⟨A', c', zs, rfl, hown, hzs, hb⟩
    have hb' : Below w.heap.size w w1 := (below_drewN (Below.refl _ _) _).trans hb
    have Hown := hide hown
    have hzl : zs.length = q := by have := congrArg List.length hzs.out; rwa [List.length_map, turnL_len] at this
    have HP := hide (Reads.of_own hown)
    have Hfin : Hid (zs.all (fin .f32) = turnOk xs (q : Int)) := hide (by
      rw [Hok'.out, ← hzs.out, List.all_map]
      congr 1
      funext x
      exact (fin_cn _ _).symm)
    clear hown hb
    cases hok : turnOk xs (q : Int) with
    | true =>
      have hf : zs.all (fin .f32) = true := by rw [Hfin.out, hok]
      go_wp2_with (go_at_call 58; refine (s_l02Finite _ _ _ zs _ _ HP.out (by simp [maxLen]; omega)).mono ?_; rintro e w' ⟨rfl, m', rfl⟩)
      go_ret2
      exact ⟨_, zs, by rw [hok]; rfl, by rw [hzl]; exact own_drewN Hown.out _, hide (by rw [hzs.out, turnR, if_pos hok]; rfl), below_drewN hb' _⟩
    | false =>
      have hf : zs.all (fin .f32) = false := by rw [Hfin.out, hok]
      go_wp2_with (go_at_call 58; refine (s_l02Finite _ _ _ zs _ _ HP.out (by simp [maxLen]; omega)).mono ?_; rintro e w' ⟨rfl, m', rfl⟩)
      go_ret2
      exact ⟨_, [], by rw [hok]; rfl, own_nil _ _ _ _, hide (by rw [turnR_no hok]; rfl), below_drewN hb' _⟩
end Go.Proofs.Ytkjiefpnfkampaa
