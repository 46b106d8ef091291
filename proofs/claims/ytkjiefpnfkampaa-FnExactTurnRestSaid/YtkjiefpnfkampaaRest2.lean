/-
  Contracts of TurnRest: the reference's.
-/
import Derived.Test.YtkjiefpnfkampaaRest
import Derived.Deep.RegionLaw
import Derived.BigRegion
namespace Go.Proofs.Ytkjiefpnfkampaa
open Go.RowKit Fl Mem
set_option linter.unusedVariables false
set_option maxRecDepth 100000

/-- 'append(out, u)' of one one-celled element, as one step of a region that draws its order. -/
theorem step_append1 {P : Program} {ops : Array Oper} {o : Oper} {a : Act} {w0 w : World} {K : Act → World → Prop} {Q : Exit → Act → World → Prop} {E : Prop} (hg : o.guard = none) (s x : Operand) (t : TypeId)
    (hop : o.op = .call { callee := .builtin .append, args := #[s, x], argTypes := #[t, t] })
    (base : Nat) (e : TypeId) (z u : Value) (by_ : Nat) (hI : (P.info? e).map (fun i => (i.zero, i.size, i.bytes)) = some (some z, 1, by_)) (ht : P.underlying t = some (.slice e)) (hz : z.cells.size = 1)
    (hw : w = w0.alloc (.cells #[u] e)) (v : Value) (n : Nat) (xs : List Value) (hs : a.eval s = v) (hown : w0.ownsRow base e 1 v n xs)
    (hx : a.eval x = .slice (some ⟨w0.heap.size, 0, none⟩) 1 1) (hu : u.oneCell' = true)
    (hn : n < 1099511627776) (hby : by_ ≤ 64) (hbase : base ≤ w0.heap.size)
    (hK : ∀ v' w', w'.ownsRow base e 1 v' (n + 1) (xs ++ [u]) → Below base w0 w' → K (a.put o.dst v') w') :
    if Region.wanted o (yielded ops a.tmps) = true then Oper.wp P o a w K Q else E := by
  subst hw
  have hwt : Region.wanted o (yielded ops a.tmps) = true := by simp [Region.wanted, hg]
  rw [if_pos hwt]
  obtain ⟨i0, hi, hz0, hz1, hz2⟩ := info_parts hI
  have hb : (n + 1) * by_ ≤ 1099511627776 * 64 := Nat.mul_le_mul (by omega) hby
  obtain ⟨v', w', hrun, r1, r2, _⟩ := run_append_own (P := P) (w0.alloc (.cells #[u] e)) base t o.type e i0 z 1 by_ ht hi hz0 hz1 hz2 hz (by decide) v n xs (hown.alloc _) ⟨w0.heap.size, 0, none⟩ 1 1 [u] rfl (cell_one_new _ _ _) (by simpa using hu) (by simp [maxLen]; omega) (by omega) (by simp; omega)
  unfold Oper.wp
  simp [execOp, hop, resolve, invoke, builtin, hs, hx, hrun, Result.andThen]
  exact hK v' w' r1 (((Below.refl _ _).alloc hbase _).grown r2 (by simp; omega) (fun g hg => (hown.lt g hg).1))

set_option maxHeartbeats 1000000 in
theorem s_TurnRest {A : Option Addr} {n c : Nat} {xs : List Nat} {p : Int} {w : World} (h : Reads w w.heap.size 1 A n (fl .f32 xs)) (hn : n ≤ maxLen) :
    Calls Try.prog 42 #[.slice A n c, .int .i64 p] w fun e w' => ∃ v zs, e = .returned (.tuple #[v, .bool (restOk xs p)]) ∧
      w'.ownsRow w.heap.size 31 1 v zs.length (fl .f32 zs) ∧ Hid (zs.map (cn .f32) = restR xs p) ∧ Below w.heap.size w w' := by
  have Hl := hide h.map_len
  have hm := hn
  unfold maxLen at hm
  go_enter Try.func42, Try.ntmps42
  cases ht : turnOk xs p with
  | false =>
    go_wp2_with (go_at_call 33; refine (s_TurnMean h hn).mono ?_; rintro e w' ⟨v, zs, rfl, ho, hz, hb⟩; rw [ht])
    have e : restOk xs p = false := by rw [restOk, ht]; rfl
    go_ret2
    exact ⟨_, [], by rw [e]; rfl, own_nil _ _ _ _, hide (by rw [restR_no e]; rfl), hb⟩
  | true =>
    have hlen := turnOk_len ht
    rw [Hl.out] at hlen
    obtain ⟨q, rfl⟩ := Int.eq_ofNat_of_zero_le (show 0 ≤ p by omega)
    have hq1 : 1 ≤ q := by omega
    have hq2 : q ≤ n := by omega
    have h96 : n ≤ 96 := hlen.1
    have Hok : Hid (restOk xs (q : Int) = (restTo xs q n).all (fin .f32)) := hide (by rw [restOk, ht, Hl.out]; rfl)
    have HR : Hid (turnR xs (q : Int) = turnL xs q) := hide (by rw [turnR, if_pos ht]; rfl)
    have hTM : Calls Try.prog 33 #[.slice A n c, .int .i64 (q : Int)] w fun e w' => ∃ MA mc ms, e = .returned (.tuple #[.slice MA q mc, .bool true]) ∧
        w'.ownsRow w.heap.size 31 1 (.slice MA q mc) q (fl .f32 ms) ∧ Hid (ms.map (cn .f32) = turnL xs q) ∧ Hid (ms.length = q) ∧ Below w.heap.size w w' := by
      refine (s_TurnMean h hn).mono ?_
      rintro e w1 ⟨v, ms, rfl, ho, hms, hb1⟩
      have hml : ms.length = q := by have := congrArg List.length hms.out; rwa [List.length_map, HR.out, turnL_len] at this
      rw [hml] at ho
      obtain ⟨MA, mc, rfl⟩ := own_shape ho
      exact ⟨MA, mc, ms, by rw [ht], ho, hide (hms.out.trans HR.out), hml, hb1⟩
    go_wp2_with (go_at_call 33; refine hTM.mono ?_; rintro e w1 ⟨MA, mc, ms, rfl, ho, Hms, hml, hb1⟩)
    have hsz1 := hb1.size
    have HM := hide (Reads.of_own ho)
    clear ho ht hlen hTM
    go_loopw [8, 21] (fun v i wr => ∃ (k : Nat) (zs : List Nat), k ≤ n ∧ i = .int .i64 k ∧ Hid (zs.map (cn .f32) = restTo xs q k) ∧ Hid (zs.length = k) ∧ wr.ownsRow w1.heap.size 31 1 v k (fl .f32 zs) ∧ Below w1.heap.size w1 wr) (fun _ i _ => n - (intOf i).toNat)
    case atStart => exact ⟨0, [], Nat.zero_le _, rfl, hide rfl, hide rfl, own_emp rfl (Nat.le_refl _), (by repeat (first | exact Below.refl _ _ | exact below_drewN (by assumption) _ | refine below_drewN ?_ _ | refine Below.alloc ?_ (by simp) _ | assumption))⟩
    case round =>
      obtain ⟨k, zs, hk, rfl, hzs, hzl, hown, hbel⟩ := hrel
      rename World => wo
      have Hown := hide hown
      have hsz := hbel.size
      clear hown
      by_cases hlt : k < n
      · obtain ⟨ad, x, rfl, _, hx, hc⟩ := (h.below (hb1.trans (hbel.mono hsz1))).map_at hlt
        have hat : k % q < q := Nat.mod_lt _ (by omega)
        obtain ⟨md, y, rfl, _, hy, hmc⟩ := (HM.out.below hbel).map_at hat
        have HS := hide (restTo_succ hx (show (turnL xs q)[k % q]? = some (cn .f32 y) by rw [← Hms.out, List.getElem?_map, hy]; rfl))
        clear hx hy
        have hq0 : ¬ q = 0 := by omega
        obtain ⟨r, hr⟩ : ∃ r, k % q = r := ⟨_, rfl⟩
        rw [hr] at hat hmc
        have hrI : (k : Int).tmod (q : Int) = (r : Int) := by rw [← hr]; rfl
        have hat' : (r : Int) < (q : Int) := by omega
        go_wp2
        go_region_law (refine step_append1 rfl (.tmp 24) (.tmp 36) 22 rfl w1.heap.size 31 (.float .f32 0) _ 4 info_f32 Try.underlying22 rfl rfl _ _ _ (by simp [Act.eval]; done) (own_drewN Hown.out _) (by simp [Act.eval]; done) rfl (by omega) (by omega) (by simp; omega) ?_; intro v' w' hown' hb')
        all_goals
          have hbel' : Below w1.heap.size w1 w' := (below_drewN hbel _).trans hb'
          have HT := hide (own_snoc hown')
          clear hown' hb'
          go_wp2
          go_roundw
          case rel => exact ⟨k + 1, _, by omega, by go_num, hide (by rw [HS.out, List.map_append, hzs.out, List.map_singleton, cn_flR, fb_cnr]), hide (by rw [List.length_append, hzl.out]; rfl), HT.out, hbel'⟩
          case measure => simp [intOf]; omega
      · obtain rfl : k = n := by omega
        obtain ⟨OA, oc, hov⟩ := own_shape Hown.out
        subst hov
        have HP := hide (Reads.of_own Hown.out)
        have hb' : Below w.heap.size w wo := hb1.trans (hbel.mono hsz1)
        have Hfin : Hid (zs.all (fin .f32) = restOk xs (q : Int)) := hide (by rw [Hok.out, all_fin_cn hzs.out])
        cases hok : restOk xs (q : Int) with
        | true =>
          have hf : zs.all (fin .f32) = true := by rw [Hfin.out, hok]
          go_wp2_with (go_at_call 58; refine (s_l02Finite _ _ _ zs _ _ HP.out (by simp [maxLen]; omega)).mono ?_; rintro e w' ⟨rfl, m', rfl⟩)
          go_ret2
          exact ⟨_, zs, by rw [hok]; rfl, by rw [hzl.out]; exact own_up (own_drewN Hown.out _) hsz1, hide (by rw [hzs.out, restR, if_pos hok, Hl.out]; rfl), below_drewN hb' _⟩
        | false =>
          have hf : zs.all (fin .f32) = false := by rw [Hfin.out, hok]
          go_wp2_with (go_at_call 58; refine (s_l02Finite _ _ _ zs _ _ HP.out (by simp [maxLen]; omega)).mono ?_; rintro e w' ⟨rfl, m', rfl⟩)
          go_ret2
          exact ⟨_, [], by rw [hok]; rfl, own_nil _ _ _ _, hide (by rw [restR_no hok]; rfl), below_drewN hb' _⟩
end Go.Proofs.Ytkjiefpnfkampaa
