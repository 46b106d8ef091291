/-
  ReadLives: the reference's walk.
-/
import Derived.Test.YtnpccnhamohnkaaGreatDoorLivI
import Derived.Deep.RegionLaw
import Derived.BigRegion
namespace Go.Proofs.YtnpccnhamohnkaaGreatDoor
open Go.RowKit Mem Fl Go.Shelf
set_option linter.unusedVariables false
set_option maxRecDepth 100000

/-- 'append(out, u)' of one two-celled element, as one step of a region that draws its order. -/
theorem step_append2 {P : Program} {ops : Array Oper} {o : Oper} {a : Act} {w0 w : World} {K : Act → World → Prop} {Q : Exit → Act → World → Prop} {E : Prop} (hg : o.guard = none) (s x : Operand) (t : TypeId)
    (hop : o.op = .call { callee := .builtin .append, args := #[s, x], argTypes := #[t, t] })
    (base : Nat) (e : TypeId) (z u1 u2 : Value) (by_ : Nat) (hI : (P.info? e).map (fun i => (i.zero, i.size, i.bytes)) = some (some z, 2, by_)) (ht : P.underlying t = some (.slice e)) (hz : z.cells.size = 2)
    (hw : w = w0.alloc (.cells #[u1, u2] e)) (v : Value) (n : Nat) (xs : List Value) (hs : a.eval s = v) (hown : w0.ownsRow base e 2 v n xs)
    (hx : a.eval x = .slice (some ⟨w0.heap.size, 0, none⟩) 1 1) (hu1 : u1.oneCell' = true) (hu2 : u2.oneCell' = true)
    (hn : n < 1099511627776) (hby : by_ ≤ 64) (hbase : base ≤ w0.heap.size)
    (hK : ∀ v' w', w'.ownsRow base e 2 v' (n + 1) (xs ++ [u1, u2]) → Below base w0 w' → K (a.put o.dst v') w') :
    if Region.wanted o (yielded ops a.tmps) = true then Oper.wp P o a w K Q else E := by
  subst hw
  have hwt : Region.wanted o (yielded ops a.tmps) = true := by simp [Region.wanted, hg]
  rw [if_pos hwt]
  obtain ⟨i0, hi, hz0, hz1, hz2⟩ := info_parts hI
  have hb : (n + 1) * by_ ≤ 1099511627776 * 64 := Nat.mul_le_mul (by omega) hby
  obtain ⟨v', w', hrun, r1, r2, _⟩ := run_append_own (P := P) (w0.alloc (.cells #[u1, u2] e)) base t o.type e i0 z 2 by_ ht hi hz0 hz1 hz2 hz (by decide) v n xs (hown.alloc _) ⟨w0.heap.size, 0, none⟩ 1 1 [u1, u2] rfl (cell_two_new _ _ _ _) (by simp [hu1, hu2]) (by simp [maxLen]; omega) (by omega) (by simp; omega)
  unfold Oper.wp
  simp [execOp, hop, resolve, invoke, builtin, hs, hx, hrun, Result.andThen]
  exact hK v' w' r1 (((Below.refl _ _).alloc hbase _).grown r2 (by simp; omega) (fun g hg => (hown.lt g hg).1))
/-- What the lives that are read look like, if they are lives. -/
def LsR (base : Nat) (o : Option (List (Nat × Bool))) (e : Ending) (w' : World) : Prop := ∃ (A : Option Addr) (ln c : Nat), e = .returned (.tuple #[.slice A ln c, .bool o.isSome]) ∧ (o.isSome = true → w'.ownsRow base 91 2 (.slice A ln c) ln (ll (lvL o)) ∧ ln = (lvL o).length)
theorem LsR.no {base : Nat} {o : Option (List (Nat × Bool))} {A : Option Addr} {ln c : Nat} {w' : World} (h : o = none) : LsR base o (.returned (.tuple #[.slice A ln c, .bool false])) w' := by
  subst h; exact ⟨_, _, _, rfl, fun h => by cases h⟩
theorem LsR.yes {base : Nat} {o : Option (List (Nat × Bool))} {xs : List (Nat × Bool)} {A : Option Addr} {n c : Nat} {w' : World} (h : o = some xs) (hn : n = xs.length) (ho : w'.ownsRow base 91 2 (.slice A n c) n (ll xs)) : LsR base o (.returned (.tuple #[.slice A n c, .bool true])) w' := by
  subst h; exact ⟨_, _, _, rfl, fun _ => ⟨ho, hn⟩⟩
theorem fl_cases (c : UInt8) (mb : Int) (h : (c.toNat : Int) = mb) : (c = 102 ∧ mb = 102) ∨ (c = 108 ∧ mb = 108) ∨ (isFl c = false ∧ ¬ mb = 102 ∧ ¬ mb = 108) := by
  by_cases h1 : c = 102
  · subst h1; exact .inl ⟨rfl, h.symm⟩
  · by_cases h2 : c = 108
    · subst h2; exact .inr (.inl ⟨rfl, h.symm⟩)
    · refine .inr (.inr ⟨by unfold isFl; simp [h1, h2], ?_, ?_⟩)
      · have : c.toNat ≠ 102 := fun e => h1 (UInt8.toNat_inj.1 e)
        omega
      · have : c.toNat ≠ 108 := fun e => h2 (UInt8.toNat_inj.1 e)
        omega
theorem all_succ {bs : List UInt8} {k : Nat} {c : UInt8} (h : (bs.take k).all isFl = true) (hb : bs[k]? = some c) (hc : isFl c = true) : (bs.take (k + 1)).all isFl = true := by
  rw [take_eq hb, List.all_append, h, List.all_cons, hc]; rfl
theorem all_bad {bs : List UInt8} {k : Nat} {c : UInt8} (hb : bs[k]? = some c) (hc : isFl c = false) : bs.all isFl = false := by
  cases h : bs.all isFl with
  | false => rfl
  | true => rw [List.all_eq_true.1 h c (List.mem_of_getElem? hb)] at hc; cases hc
set_option maxHeartbeats 2000000 in
theorem s_l08ReadLives {t : ByteArray} {w : World} (hs : t.size ≤ 1048576) :
    Calls Tryz.prog 53 #[.string t] w fun e w' => LsR w.heap.size (livesV t) e w' ∧ Below w.heap.size w w' := by
  have hpos := splitS_pos t 59
  have hle := splitS_le t 59
  go_enter Tryz.func53, Tryz.ntmps53
  go_wp2_with fail
  refine (s_l01Cut (m := 59) hs).mono ?_
  rintro e w1 ⟨v, rfl, hown, hb⟩
  rw [cutAll_split] at hown
  obtain ⟨g, cap, rfl, hg0, hg, hcap, hcell⟩ := row_of_own hpos hown
  by_cases h2 : (splitS t 59).length = 2
  · obtain ⟨A, B, hAB⟩ : ∃ A B, splitS t 59 = [A, B] := by
      match h : splitS t 59, h2 with
      | [A, B], _ => exact ⟨A, B, rfl⟩
    have HC := hide (livesV_two hAB)
    have c0 := hcell 0 (.string A) (by rw [hAB]; rfl)
    have c1 := hcell 1 (.string B) (by rw [hAB]; rfl)
    have hsz : A.size ≤ 1048576 ∧ B.size ≤ 1048576 := by
      rcases cut_split 59 t with ⟨_, h⟩ | ⟨_, h⟩
      · rw [hAB] at h; cases h
      · rw [hAB] at h
        injection h with h3 h4
        have hA := cutA_size 59 t
        have hB := cutB_size 59 t
        rcases cut_split 59 (cutB 59 t) with ⟨_, h5⟩ | ⟨_, h5⟩
        · rw [h5] at h4; injection h4 with h4 _; rw [h3, h4]; omega
        · rw [h5] at h4; injection h4 with h4 h6
          have := splitS_pos (cutB 59 (cutB 59 t)) 59
          rw [← h6] at this; simp at this
    rw [hAB] at hpos hle hown hcap ⊢
    clear hown hcell h2 hAB
    have bel1 := hb
    clear hb
    go_wp2_with fail
    refine (s_l01NRead hsz.1).mono ?_
    rintro e w2 ⟨⟨v, rfl, hr⟩, hb2⟩
    have bel2 := bel1.trans (hb2.mono bel1.size)
    replace c1 := (hb2.cell (p := ⟨g, 1, none⟩) hg).trans c1
    replace hg := Nat.lt_of_lt_of_le hg hb2.size
    obtain ⟨vA, vn, vc, rfl⟩ := NR.sl hr
    have hsz2 := bel2.size
    clear hb2 c0
    cases hv : numsV A with
    | none =>
      have HR : Hid (livesV t = none) := hide (by rw [HC.out, livesMk_none hv])
      clear hr
      simp only [Option.isSome_none]
      go_wp2
      go_ret2
      exact ⟨LsR.no HR.out, bel2⟩
    | some xs =>
      have hmx := numsV_max hv
      rw [hv] at hr
      simp only [Option.isSome_some]
      obtain ⟨ho, hx⟩ := hr
      have hvn := own_n ho
      subst hvn
      by_cases hl : B.size = xs.length
      · have hlI : ((B.size : Int) != (xs.length : Int)) = false := by simp; omega
        have HR : Hid (B.data.toList.all isFl = true → livesV t = if livesOk (lifesOf xs B.data.toList) = true then some (lifesOf xs B.data.toList) else none) := hide (fun hf => by rw [HC.out, livesMk_some hv hl hf])
        have HB : Hid (B.data.toList.all isFl = false → livesV t = none) := hide (fun hf => by rw [HC.out, livesMk_bad hf])
        have Hbl : Hid (B.data.toList.length = xs.length) := hide (by rw [Array.length_toList]; exact hl)
        have Hlen : Hid ((lifesOf xs B.data.toList).length = xs.length) := hide (lifesOf_len Hbl.out)
        have HRd := hide (Reads.of_own ho)
        clear ho hx hv HC
        generalize hLL : lifesOf xs B.data.toList = LL at *
        replace hLL := hide hLL
        generalize hn : xs.length = n at *
        replace hn := hide hn
        go_wp2
        go_loopw [7, 8] (fun v i wr => ∃ k : Nat, k ≤ n ∧ i = .int .i64 k ∧ Hid ((B.data.toList.take k).all isFl = true) ∧ Hid (wr.ownsRow w2.heap.size 91 2 v k (ll (LL.take k))) ∧ Below w2.heap.size w2 wr) (fun _ i _ => n - (intOf i).toNat)
        case atStart => exact ⟨0, Nat.zero_le _, rfl, hide rfl, hide (World.ownsRow_made _ _ _ (Nat.le_refl _) (by simp [maxLen]) (by simp)), (Below.refl _ _).alloc (Nat.le_refl _) _⟩
        case round =>
          obtain ⟨k, hk, rfl, hall, hown, hbel⟩ := hrel
          by_cases hk2 : k < n
          · obtain ⟨ad, x, rfl, hadb, hx, hc⟩ := (HRd.out.below hbel).map_at hk2
            have cp := (hbel.cell (p := ⟨g, 1, none⟩) hg).trans c1
            have hkb : k < B.size := by omega
            have hb := byteAt hkb
            obtain ⟨cb, hcb⟩ : ∃ cb, B[k] = cb := ⟨_, rfl⟩
            rw [hcb] at hb
            obtain ⟨mb, hmb⟩ : ∃ mb : Int, (cb.toNat : Int) = mb := ⟨_, rfl⟩
            have HS := hide (lifes_succ hx hb)
            rw [hLL.out] at HS
            have hkI : (k : Int) < (n : Int) := by omega
            have hkbI : (k : Int) < (B.size : Int) := by omega
            have hsz := hbel.size
            have HO0 := hown.out
            have Hb := hide hb
            clear hx hb hown
            rcases fl_cases cb mb hmb with ⟨rfl, rfl⟩ | ⟨rfl, rfl⟩ | ⟨hf, i1, i2⟩
            · have HA := hide (all_succ hall.out Hb.out (by decide))
              go_wp2
              go_region_law (refine step_append2 rfl (.tmp 53) (.tmp 65) 30 rfl w2.heap.size 91 (.agg #[.float .f32 0, .bool false]) _ _ 8 info_life Tryz.underlying30 rfl rfl _ _ _ (by simp [Act.eval]; done) (own_drewN HO0 _) (by simp [Act.eval]; done) rfl rfl (by omega) (by omega) (by simp; omega) ?_; intro v' w' hown' hb')
              all_goals
                have hbel' := (below_drewN hbel _).trans hb'
                have HO : Hid (w'.ownsRow w2.heap.size 91 2 v' (k + 1) (ll (LL.take (k + 1)))) := hide (by rw [HS.out, ll_snoc]; exact hown')
                clear hown' hb'
                go_wp2
                go_roundw
                case rel => exact ⟨k + 1, by omega, by go_num, HA, HO, hbel'⟩
                case measure => (simp [intOf]; try omega)
            · have HA := hide (all_succ hall.out Hb.out (by decide))
              go_wp2
              go_region_law (refine step_append2 rfl (.tmp 53) (.tmp 65) 30 rfl w2.heap.size 91 (.agg #[.float .f32 0, .bool false]) _ _ 8 info_life Tryz.underlying30 rfl rfl _ _ _ (by simp [Act.eval]; done) (own_drewN HO0 _) (by simp [Act.eval]; done) rfl rfl (by omega) (by omega) (by simp; omega) ?_; intro v' w' hown' hb')
              all_goals
                have hbel' := (below_drewN hbel _).trans hb'
                have HO : Hid (w'.ownsRow w2.heap.size 91 2 v' (k + 1) (ll (LL.take (k + 1)))) := hide (by rw [HS.out, ll_snoc]; exact hown')
                clear hown' hb'
                go_wp2
                go_roundw
                case rel => exact ⟨k + 1, by omega, by go_num, HA, HO, hbel'⟩
                case measure => (simp [intOf]; try omega)
            · have HN := hide (HB.out (all_bad Hb.out hf))
              clear hf
              go_wp2
              go_ret2
              exact ⟨LsR.no HN.out, bel2.trans (hbel.mono bel2.size)⟩
          · obtain rfl : k = n := by omega
            have hkI : ¬ (k : Int) < (k : Int) := by omega
            have hown2 : wr.ownsRow w2.heap.size 91 2 u7 k (ll LL) := by
              have := hown.out
              rwa [List.take_of_length_le (by have := Hlen.out; omega)] at this
            obtain ⟨A2, c2, rfl⟩ := own_shape hown2
            have HRR := hide (HR.out (by have := hall.out; rwa [List.take_of_length_le (by have := Hbl.out; omega)] at this))
            have hrd := Reads.of_own hown2
            have HO := hide (own_base hown2 bel2.size)
            have bel4 := bel2.trans (hbel.mono bel2.size)
            clear hown hown2 hall
            cases hok : livesOk LL with
            | false =>
              rw [hok] at HRR
              go_wp2_with fail
              refine (s_l02Lives (xs := LL) hrd (by omega)).mono ?_
              rintro e w4 ⟨rfl, m4, rfl⟩
              rw [hok]
              go_wp2
              go_ret2
              exact ⟨LsR.no HRR.out, below_drewN bel4 _⟩
            | true =>
              rw [hok] at HRR
              go_wp2_with fail
              refine (s_l02Lives (xs := LL) hrd (by omega)).mono ?_
              rintro e w4 ⟨rfl, m4, rfl⟩
              rw [hok]
              go_wp2
              go_ret2
              exact ⟨LsR.yes HRR.out Hlen.out.symm (own_drewN HO.out _), below_drewN bel4 _⟩
      · have hlI : ((B.size : Int) != (xs.length : Int)) = true := by simp; omega
        have HR : Hid (livesV t = none) := hide (by rw [HC.out, livesMk_size hv hl])
        clear ho hx hv
        go_wp2
        go_ret2
        exact ⟨LsR.no HR.out, bel2⟩
  · have hI : ¬ ((splitS t 59).length : Int) = 2 := by omega
    have HR := hide (livesV_len h2)
    clear hown hcell h2
    go_wp2
    go_ret2
    exact ⟨LsR.no HR.out, hb⟩
set_option maxHeartbeats 1000000 in
theorem s_ReadLives {t : ByteArray} {w : World} (hs : t.size ≤ 1048576) :
    Calls Tryz.prog 13 #[.string t] w fun e w' => LvR w.heap.size (livesV t) e w' ∧ Below w.heap.size w w' := by
  go_enter Tryz.func13, Tryz.ntmps13
  go_wp2_with fail
  refine (s_l08ReadLives hs).mono ?_
  rintro e w1 ⟨⟨A, ln, c, rfl, ho⟩, hb⟩
  have HO := hide ho
  clear ho
  cases hv : livesV t with
  | none =>
    have Hv := hide hv
    clear hv
    simp only [Option.isSome_none]
    go_wp2
    go_ret2
    exact ⟨LvR.no Hv.out, hb⟩
  | some xs =>
    rw [hv] at HO
    obtain ⟨ho, hl⟩ := HO.out rfl
    have Ho := hide ho
    have Hl := hide hl
    have Hv := hide hv
    clear ho hl HO hv
    simp only [Option.isSome_some]
    go_wp2
    go_ret2
    exact ⟨LvR.yes Hv.out Hl.out Ho.out, hb⟩
end Go.Proofs.YtnpccnhamohnkaaGreatDoor
