/-
  Contracts of TurnRest: the program's and the reference's.
-/
import Derived.Test.YteabfkgbakoljaaTurn2
import Derived.StillTailTactics
namespace Go.Proofs.Yteabfkgbakoljaa
open Go.RowKit Fl Mem
set_option linter.unusedVariables false
set_option maxRecDepth 100000

/-- Each number less the mean of its place. -/
def restTo (xs : List Nat) (p k : Nat) : List Nat := (List.range k).map fun i => fb .sub .f32 (xs.getD i 0) ((turnL xs p).getD (i % p) 0)
theorem restTo_succ {xs : List Nat} {p k x y : Nat} (hx : xs[k]? = some x) (hy : (turnL xs p)[k % p]? = some y) : restTo xs p (k + 1) = restTo xs p k ++ [fb .sub .f32 x y] := by
  unfold restTo
  rw [List.range_succ, List.map_append]
  simp [hx, hy]
theorem restTo_len (xs : List Nat) (p k : Nat) : (restTo xs p k).length = k := by simp [restTo]
def restOk (xs : List Nat) (p : Int) : Bool := turnOk xs p && (restTo xs p.toNat xs.length).all (fin .f32)
def restR (xs : List Nat) (p : Int) : List Nat := if restOk xs p = true then restTo xs p.toNat xs.length else []
theorem restR_no {xs : List Nat} {p : Int} (h : restOk xs p = false) : restR xs p = [] := by unfold restR; rw [h]; rfl
theorem turnOk_len {xs : List Nat} {p : Int} (h : turnOk xs p = true) : xs.length ≤ 96 ∧ 1 ≤ p ∧ p ≤ xs.length := by
  unfold turnOk at h
  simp only [Bool.and_eq_true] at h
  have h1 := (isSig_len h.1.1).2
  have h2 := inB_iff.1 h.1.2
  omega
theorem restR_le (xs : List Nat) (p : Int) : (restR xs p).length ≤ 1000 := by
  unfold restR
  split
  · rename_i h
    unfold restOk at h
    simp only [Bool.and_eq_true] at h
    have := (turnOk_len h.1).1
    rw [restTo_len]
    omega
  · simp
theorem all_fin_cn {zs ys : List Nat} (h : zs.map (cn .f32) = ys) : zs.all (fin .f32) = ys.all (fin .f32) := by
  rw [← h, List.all_map]
  congr 1
  funext x
  exact (fin_cn _ _).symm

theorem own_snoc {w : World} {b : Nat} {t : TypeId} {v : Value} {k z : Nat} {zs : List Nat} (h : w.ownsRow b t 1 v k (fl .f32 zs ++ [.float .f32 z])) : w.ownsRow b t 1 v k (fl .f32 (zs ++ [z])) := by
  rw [fl, List.map_append]; exact h

set_option maxHeartbeats 1000000 in
theorem i_TurnRest {A : Option Addr} {n c : Nat} {xs : List Nat} {p : Int} {w : World} (h : Reads w w.heap.size 1 A n (fl .f32 xs)) (hn : n ≤ maxLen) :
    Calls Try.prog 34 #[.slice A n c, .int .i64 p] w fun e w' => ∃ v zs, e = .returned (.tuple #[v, .bool (restOk xs p)]) ∧
      w'.ownsRow w.heap.size 27 1 v zs.length (fl .f32 zs) ∧ Hid (zs.map (cn .f32) = restR xs p) ∧ Below w.heap.size w w' := by
  have Hl := hide h.map_len
  have hm := hn
  unfold maxLen at hm
  go_enter Try.func34, Try.ntmps34
  cases ht : turnOk xs p with
  | false =>
    go_wp2_with (go_at_call 33; refine (i_TurnMean h hn).mono ?_; rintro e w' ⟨v, zs, rfl, ho, hz, hb⟩; rw [ht])
    have e : restOk xs p = false := by rw [restOk, ht]; rfl
    go_ret2
    exact ⟨_, [], by rw [e]; rfl, own_nil _ _ _ _, hide (by rw [restR_no e]; rfl), hb⟩
  | true =>
    have hlen := turnOk_len ht
    rw [Hl.out] at hlen
    obtain ⟨q, rfl⟩ := Int.eq_ofNat_of_zero_le (show 0 ≤ p by omega)
    have hq1 : 1 ≤ q := by omega
    have hq2 : q ≤ n := by omega
    have h96 : n ≤ 96 := hlen.1
    have Hok : Hid (restOk xs (q : Int) = (restTo xs q n).all (fin .f32)) := hide (by rw [restOk, ht, Hl.out]; rfl)
    have HR : Hid (turnR xs (q : Int) = turnL xs q) := hide (by rw [turnR, if_pos ht]; rfl)
    have hTM : Calls Try.prog 33 #[.slice A n c, .int .i64 (q : Int)] w fun e w' => ∃ MA mc ms, e = .returned (.tuple #[.slice MA q mc, .bool true]) ∧
        w'.ownsRow w.heap.size 27 1 (.slice MA q mc) q (fl .f32 ms) ∧ Hid (ms.map (cn .f32) = turnL xs q) ∧ Hid (ms.length = q) ∧ Below w.heap.size w w' := by
      refine (i_TurnMean h hn).mono ?_
      rintro e w1 ⟨v, ms, rfl, ho, hms, hb1⟩
      have hml : ms.length = q := by have := congrArg List.length hms.out; rwa [List.length_map, HR.out, turnL_len] at this
      rw [hml] at ho
      obtain ⟨MA, mc, rfl⟩ := own_shape ho
      exact ⟨MA, mc, ms, by rw [ht], ho, hide (hms.out.trans HR.out), hml, hb1⟩
    go_wp2_with (go_at_call 33; refine hTM.mono ?_; rintro e w1 ⟨MA, mc, ms, rfl, ho, Hms, hml, hb1⟩)
    have hsz1 := hb1.size
    have HM := hide (Reads.of_own ho)
    clear ho ht hlen hTM
    go_loopw [8, 22] (fun v i wr => ∃ (k : Nat) (zs : List Nat), k ≤ n ∧ i = .int .i64 k ∧ Hid (zs.map (cn .f32) = restTo xs q k) ∧ Hid (zs.length = k) ∧ wr.ownsRow w1.heap.size 27 1 v k (fl .f32 zs) ∧ Below w1.heap.size w1 wr) (fun _ i _ => n - (intOf i).toNat)
    case atStart => exact ⟨0, [], Nat.zero_le _, rfl, hide rfl, hide rfl, own_emp rfl (Nat.le_refl _), (by repeat (first | exact Below.refl _ _ | exact below_drewN (by assumption) _ | refine below_drewN ?_ _ | refine Below.alloc ?_ (by first | (simp; done) | (simp; omega)) _ | assumption))⟩
    case round =>
      obtain ⟨k, zs, hk, rfl, hzs, hzl, hown, hbel⟩ := hrel
      rename World => wo
      have Hown := hide hown
      have hsz := hbel.size
      clear hown
      by_cases hlt : k < n
      · obtain ⟨ad, x, rfl, _, hx, hc⟩ := (h.below (hb1.trans (hbel.mono hsz1))).map_at hlt
        have hat : k % q < q := Nat.mod_lt _ (by omega)
        obtain ⟨md, y, rfl, _, hy, hmc⟩ := (HM.out.below hbel).map_at hat
        have HS := hide (restTo_succ hx (show (turnL xs q)[k % q]? = some (cn .f32 y) by rw [← Hms.out, List.getElem?_map, hy]; rfl))
        clear hx hy
        go_wp2_with (at_builtin; refine wpList_append1 rfl (.tmp 27) (.tmp 36) 36 rfl w1.heap.size 27 (.float .f32 0) _ 4 info_f32 Try.underlying36 rfl rfl _ _ _ rfl (own_drewN Hown.out _) rfl rfl (by omega) (by omega) (by simp; omega) ?_)
        intro v' w' hown' hb'
        have hbel' : Below w1.heap.size w1 w' := (below_drewN hbel _).trans hb'
        have HT := hide (own_snoc hown')
        clear hown' hb'
        go_wp2
        go_roundw
        case rel => exact ⟨k + 1, _, by omega, by go_num, hide (by rw [HS.out, List.map_append, hzs.out, List.map_singleton, cn_flR, fb_cnr]), hide (by rw [List.length_append, hzl.out]; rfl), HT.out, hbel'⟩
        case measure => simp [intOf]; omega
      · obtain rfl : k = n := by omega
        obtain ⟨OA, oc, hov⟩ := own_shape Hown.out
        subst hov
        have HP := hide (Reads.of_own Hown.out)
        have hb' : Below w.heap.size w wo := hb1.trans (hbel.mono hsz1)
        have Hfin : Hid (zs.all (fin .f32) = restOk xs (q : Int)) := hide (by rw [Hok.out, all_fin_cn hzs.out])
        cases hok : restOk xs (q : Int) with
        | true =>
          go_wp2_with (go_at_call 60; refine (i_ifAll_yes HP.out (by simp [maxLen]; omega) (by rw [Hfin.out, hok])).mono ?_; rintro e w' ⟨rfl, m', rfl⟩)
          go_ret2
          exact ⟨_, zs, by rw [hok]; rfl, by rw [hzl.out]; exact own_up (own_drewN Hown.out _) hsz1, hide (by rw [hzs.out, restR, if_pos hok, Hl.out]; rfl), below_drewN hb' _⟩
        | false =>
          go_wp2_with (go_at_call 60; refine (i_ifAll_no HP.out (by simp [maxLen]; omega) (by rw [Hfin.out, hok])).mono ?_; rintro e w' ⟨rfl, m', rfl⟩)
          go_ret2
          exact ⟨_, [], by rw [hok]; rfl, own_nil _ _ _ _, hide (by rw [restR_no hok]; rfl), below_drewN hb' _⟩
end Go.Proofs.Yteabfkgbakoljaa
