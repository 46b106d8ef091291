/-
  Contracts of TurnMean: the reference's.
-/
import Derived.Test.YteabfkgbakoljaaMean
import Derived.RegionTactic
import Derived.BigRegion
namespace Go.Proofs.Yteabfkgbakoljaa
open Go.RowKit Fl Mem
set_option linter.unusedVariables false

/-- The numbers before place k whose places have the remainder r. -/
def pickTo (xs : List Nat) (p r k : Nat) : List Nat := ((List.range k).filter fun i => i % p == r).map fun i => xs.getD i 0
theorem pickTo_zero (xs : List Nat) (p r : Nat) : pickTo xs p r 0 = [] := rfl
theorem pickTo_yes {xs : List Nat} {p r k x : Nat} (hx : xs[k]? = some x) (h : k % p = r) : pickTo xs p r (k + 1) = pickTo xs p r k ++ [x] := by
  unfold pickTo
  rw [List.range_succ, List.filter_append, List.map_append]
  simp [h, hx]
theorem pickTo_no {xs : List Nat} {p r k : Nat} (h : k % p ≠ r) : pickTo xs p r (k + 1) = pickTo xs p r k := by
  unfold pickTo
  rw [List.range_succ, List.filter_append, List.map_append]
  simp [h]
/-- Between two places of one remainder there is none. -/
theorem pickTo_same {xs : List Nat} {p r i : Nat} (hp : 0 < p) (hi : i % p = r) : ∀ j, j < p → pickTo xs p r (i + 1 + j) = pickTo xs p r (i + 1) := by
  intro j
  induction j with
  | zero => intro _; rfl
  | succ j ih =>
    intro hj
    rw [← Nat.add_assoc, pickTo_no, ih (by omega)]
    intro h
    have h1 : (i + 1 + j) % p = (i % p + (1 + j)) % p := by rw [Nat.add_assoc, Nat.add_mod, Nat.mod_eq_of_lt (show 1 + j < p by omega)]
    rw [h1, hi] at h
    have hr : r < p := by rw [← hi]; exact Nat.mod_lt _ hp
    rcases Nat.lt_or_ge (r + (1 + j)) p with h2 | h2
    · rw [Nat.mod_eq_of_lt h2] at h; omega
    · rw [Nat.mod_eq_sub_mod h2, Nat.mod_eq_of_lt (by omega)] at h; omega
theorem pickTo_end {xs : List Nat} {p r n i : Nat} (hp : 0 < p) (hi : i % p = r) (h1 : n ≤ i) (h2 : i < n + p) (h3 : p ≤ i) : pickTo xs p r i = pickTo xs p r n := by
  have hi' : (i - p) % p = r := by rw [← hi, ← Nat.mod_eq_sub_mod h3]
  have e1 := pickTo_same (xs := xs) hp hi' (p - 1) (by omega)
  have e2 := pickTo_same (xs := xs) hp hi' (n - (i - p) - 1) (by omega)
  rw [show i - p + 1 + (p - 1) = i by omega] at e1
  rw [show i - p + 1 + (n - (i - p) - 1) = n by omega] at e2
  rw [e1, e2]
theorem pickTo_next {xs : List Nat} {p r i x : Nat} (hp : 0 < p) (hi : i % p = r) (hx : xs[i]? = some x) : pickTo xs p r (i + p) = pickTo xs p r i ++ [x] := by
  have e1 := pickTo_same (xs := xs) hp hi (p - 1) (by omega)
  rw [show i + 1 + (p - 1) = i + p by omega] at e1
  rw [e1, pickTo_yes hx hi]
theorem pickTo_start {xs : List Nat} {p r : Nat} : ∀ k, k ≤ r → r < p → pickTo xs p r k = [] := by
  intro k
  induction k with
  | zero => intro _ _; rfl
  | succ k ih =>
    intro h1 h2
    rw [pickTo_no (by rw [Nat.mod_eq_of_lt (by omega)]; omega), ih (by omega) h2]
theorem pickTo_len (xs : List Nat) (p r k : Nat) : (pickTo xs p r k).length ≤ k := by
  unfold pickTo
  rw [List.length_map]
  have := List.length_filter_le (fun i => i % p == r) (List.range k)
  simpa using this

/-- What TurnMean returns. -/
def turnL (xs : List Nat) (p : Nat) : List Nat := (List.range p).map fun r => fmean (pickTo xs p r xs.length)
theorem turnL_take {xs : List Nat} {p r : Nat} (h : r < p) : (turnL xs p).take (r + 1) = (turnL xs p).take r ++ [fmean (pickTo xs p r xs.length)] :=
  take_eq (by unfold turnL; simp [h])
theorem turnL_len (xs : List Nat) (p : Nat) : (turnL xs p).length = p := by simp [turnL]
def turnOk (xs : List Nat) (p : Int) : Bool := isSig xs && inB p 1 (xs.length : Int) && (turnL xs p.toNat).all (fin .f32)
def turnR (xs : List Nat) (p : Int) : List Nat := if turnOk xs p = true then turnL xs p.toNat else []
theorem turnR_no {xs : List Nat} {p : Int} (h : turnOk xs p = false) : turnR xs p = [] := by unfold turnR; rw [h]; rfl
theorem turnR_le (xs : List Nat) (p : Int) : (turnR xs p).length ≤ 1000 := by
  unfold turnR
  split
  · rename_i h
    unfold turnOk at h
    simp only [Bool.and_eq_true] at h
    have h1 := (isSig_len h.1.1).2
    have h2 := inB_iff.1 h.1.2
    rw [turnL_len]
    omega
  · simp
end Go.Proofs.Yteabfkgbakoljaa
namespace Go.Proofs.Yteabfkgbakoljaa
open Go.RowKit Fl Mem
set_option linter.unusedVariables false
set_option maxRecDepth 100000


set_option maxHeartbeats 1000000 in
theorem i_TurnMean {A : Option Addr} {n c : Nat} {xs : List Nat} {p : Int} {w : World} (h : Reads w w.heap.size 1 A n (fl .f32 xs)) (hn : n ≤ maxLen) :
    Calls Try.prog 33 #[.slice A n c, .int .i64 p] w fun e w' => ∃ v zs, e = .returned (.tuple #[v, .bool (turnOk xs p)]) ∧
      w'.ownsRow w.heap.size 27 1 v zs.length (fl .f32 zs) ∧ Hid (zs.map (cn .f32) = turnR xs p) ∧ Below w.heap.size w w' := by
  have Hl := hide h.map_len
  have hm := hn
  unfold maxLen at hm
  have Hok : Hid (turnOk xs p = (isSig xs && inB p 1 (n : Int) && (turnL xs p.toNat).all (fin .f32))) := hide (by rw [turnOk, Hl.out])
  go_enter Try.func33, Try.ntmps33
  go_wp2_with (first | (go_at_call 45; refine (i_IsSignal _ _ _ xs _ _ h hn).mono ?_; rintro e w' ⟨rfl, m', rfl⟩) | (go_at_call 59; refine (i_within _ _ _ _).mono ?_; rintro e w' ⟨rfl, rfl⟩))
  · have h0 : isSig xs = false := by assumption
    have e : turnOk xs p = false := by rw [Hok.out, h0]; rfl
    go_ret2
    exact ⟨_, [], by rw [e]; rfl, own_nil _ _ _ _, hide (by rw [turnR_no e]; rfl), (by repeat (first | exact Below.refl _ _ | exact below_drewN (by assumption) _ | refine below_drewN ?_ _ | refine Below.alloc ?_ (by first | (simp; done) | (simp; omega)) _ | assumption))⟩
  · have h0 : (!inB p 1 (n : Int)) = true := by assumption
    have e : turnOk xs p = false := by rw [Hok.out]; simp at h0; simp [h0]
    go_ret2
    exact ⟨_, [], by rw [e]; rfl, own_nil _ _ _ _, hide (by rw [turnR_no e]; rfl), (by repeat (first | exact Below.refl _ _ | exact below_drewN (by assumption) _ | refine below_drewN ?_ _ | refine Below.alloc ?_ (by first | (simp; done) | (simp; omega)) _ | assumption))⟩
  · have h0 : isSig xs = true := by assumption
    have h1 : (!inB p 1 (n : Int)) = false := by assumption
    have hp := inB_iff.1 (show inB p 1 (n : Int) = true by simpa using h1)
    have h96 : n ≤ 96 := by rw [← Hl.out]; exact (isSig_len h0).2
    obtain ⟨q, rfl⟩ := Int.eq_ofNat_of_zero_le (show 0 ≤ p by omega)
    have hq1 : 1 ≤ q := by omega
    have hq2 : q ≤ n := by omega
    have Hok' : Hid (turnOk xs (q : Int) = (turnL xs q).all (fin .f32)) := hide (by rw [Hok.out, h0]; simp at h1; simp [h1])
    try go_simp
    clear h0 h1 hp
    go_loopw [6, 22] (fun v i wr => ∃ (k : Nat) (zs : List Nat), k ≤ q ∧ i = .int .i64 k ∧ Hid (zs.map (cn .f32) = (turnL xs q).take k) ∧ Hid (zs.length = k) ∧ wr.ownsRow w.heap.size 27 1 v k (fl .f32 zs) ∧ Below w.heap.size w wr) (fun _ i _ => q - (intOf i).toNat)
    case atStart => exact ⟨0, [], Nat.zero_le _, rfl, hide (by simp), hide rfl, own_emp (by simp) (by omega), (by repeat (first | exact Below.refl _ _ | exact below_drewN (by assumption) _ | refine below_drewN ?_ _ | refine Below.alloc ?_ (by first | (simp; done) | (simp; omega)) _ | assumption))⟩
    case round =>
      obtain ⟨k, zs, hk, rfl, hzs, hzl, hown, hbel⟩ := hrel
      rename World => wo
      by_cases hlt : k < q
      · have Hown := hide hown
        have hsz := hbel.size
        clear hown
        go_wp2
        go_loopw [8, 9] (fun pv i wr => ∃ (j : Nat), j < n + q ∧ Hid (j % q = k) ∧ (j < n ∨ q ≤ j) ∧ i = .int .i64 j ∧ Hid ((pickTo xs q k j).length ≤ j) ∧ wr.ownsRow wo.heap.size 27 1 pv (pickTo xs q k j).length (fl .f32 (pickTo xs q k j)) ∧ Below wo.heap.size wo wr) (fun _ i _ => n + q - (intOf i).toNat)
        case atStart => exact ⟨k, by omega, hide (Nat.mod_eq_of_lt hlt), .inl (by omega), rfl, pickTo_len _ _ _ _, by rw [pickTo_start k (Nat.le_refl _) hlt]; exact own_emp rfl (Nat.le_refl _), (by repeat (first | exact Below.refl _ _ | exact below_drewN (by assumption) _ | refine below_drewN ?_ _ | refine Below.alloc ?_ (by first | (simp; done) | (simp; omega)) _ | assumption))⟩
        case round =>
          obtain ⟨j, hj, hjm, hjq, rfl, hpl, hpown, hpb⟩ := hrel
          have Hpown := hide hpown
          have hpsz := hpb.size
          have hb2 : Below w.heap.size w wr := hbel.trans (hpb.mono hsz)
          clear hpown
          by_cases hjn : j < n
          · obtain ⟨ad, x, rfl, _, hx, hc⟩ := (h.below hb2).map_at hjn
            have Hnx := hide (pickTo_next (by omega) hjm.out hx)
            have HL := hpl.out
            clear hx
            go_wp2_with (at_builtin; refine wpList_append1 rfl (.tmp 34) (.tmp 39) 36 rfl wo.heap.size 27 (.float .f32 0) (.float .f32 x) 4 info_f32 Try.underlying36 rfl rfl _ _ _ rfl Hpown.out rfl rfl (by omega) (by omega) hpsz ?_)
            intro v' w' hown' hb'
            have HT : Hid (w'.ownsRow wo.heap.size 27 1 v' (pickTo xs q k (j + q)).length (fl .f32 (pickTo xs q k (j + q)))) := hide (by rw [Hnx.out, List.length_append]; simpa using hown')
            have hbel' : Below wo.heap.size wo w' := hpb.trans hb'
            clear hown' hb'
            go_wp2
            go_roundw
            case rel => exact ⟨j + q, by omega, hide (by rw [Nat.add_mod_right]; exact hjm.out), .inr (by omega), by go_num, pickTo_len _ _ _ _, HT.out, hbel'⟩
            case measure => simp [intOf]; omega
          · have Hend := hide (pickTo_end (xs := xs) (by omega) hjm.out (by omega) hj (by omega))
            obtain ⟨PA, pc, hpv⟩ := own_shape Hpown.out
            subst hpv
            have HP := hide (Reads.of_own Hpown.out)
            have HL := hpl.out
            have HO := hide (own_below Hown.out hpb)
            go_wp2_with (first | (go_at_call 78; refine (i_meanOfAll HP.out (by simp [maxLen]; omega)).mono ?_; rintro e w' ⟨z, rfl, hz, _, m', rfl⟩) | (at_builtin; refine wpList_append1 rfl (.tmp 41) (.tmp 44) 36 rfl w.heap.size 27 (.float .f32 0) (.float .f32 z) 4 info_f32 Try.underlying36 rfl rfl _ _ _ rfl (own_drewN HO.out _) rfl rfl (by omega) (by omega) (by simp; omega) ?_))
            intro v' w' hown' hb'
            have hbel' : Below w.heap.size w w' := (below_drewN hb2 _).trans hb'
            have HT : Hid (w'.ownsRow w.heap.size 27 1 v' (k + 1) (fl .f32 (zs ++ [z]))) := hide (by simpa using hown')
            clear hown' hb'
            go_wp2
            go_roundw
            case rel => exact ⟨k + 1, zs ++ [z], by omega, by go_num, hide (by rw [turnL_take hlt, List.map_append, hzs.out, List.map_singleton, hz.out, Hend.out, Hl.out]), hide (by rw [List.length_append, hzl.out]; rfl), HT.out, hbel'⟩
            case measure => simp [intOf]; omega
      · obtain rfl : k = q := by omega
        obtain ⟨OA, oc, hov⟩ := own_shape hown
        subst hov
        rename World => wo
        have Hown := hide hown
        have hsz := hbel.size
        have HP := hide (Reads.of_own hown)
        have Hfin : Hid (zs.all (fin .f32) = turnOk xs (k : Int)) := hide (by
          rw [Hok'.out]
          have := hzs.out
          rw [List.take_of_length_le (by rw [turnL_len]; omega)] at this
          have h1 : ∀ l : List Nat, (l.map (cn .f32)).all (fin .f32) = l.all (fin .f32) := by
            intro l
            rw [List.all_map]
            congr 1
            funext x
            exact fin_cn _ _
          rw [← h1, this])
        have Hzs : Hid (zs.map (cn .f32) = turnL xs k) := hide (by
          have := hzs.out
          rwa [List.take_of_length_le (by rw [turnL_len]; omega)] at this)
        clear hown
        cases hok : turnOk xs (k : Int) with
        | true =>
          go_wp2_with (go_at_call 60; refine (i_ifAll_yes HP.out (by simp [maxLen]; omega) (by rw [Hfin.out, hok])).mono ?_; rintro e w' ⟨rfl, m', rfl⟩)
          go_ret2
          exact ⟨_, zs, by rw [hok]; rfl, by rw [hzl.out]; exact own_drewN Hown.out _, hide (by rw [Hzs.out, turnR, if_pos hok]; rfl), below_drewN hbel _⟩
        | false =>
          go_wp2_with (go_at_call 60; refine (i_ifAll_no HP.out (by simp [maxLen]; omega) (by rw [Hfin.out, hok])).mono ?_; rintro e w' ⟨rfl, m', rfl⟩)
          go_ret2
          exact ⟨_, [], by rw [hok]; rfl, own_nil _ _ _ _, hide (by rw [turnR_no hok]; rfl), below_drewN hbel _⟩
end Go.Proofs.Yteabfkgbakoljaa
namespace Go.Proofs.Yteabfkgbakoljaa
open Go.RowKit Fl Mem
set_option linter.unusedVariables false
set_option maxRecDepth 100000

/-- The sums and the counts behind k numbers. -/
def sumsAt (xs : List Nat) (p k : Nat) : List Nat := (List.range p).map fun r => fsum (pickTo xs p r k)
def countsAt (xs : List Nat) (p k : Nat) : List Nat := (List.range p).map fun r => (pickTo xs p r k).length

theorem sumsAt_len (xs : List Nat) (p k : Nat) : (sumsAt xs p k).length = p := by simp [sumsAt]
theorem sumsAt_at {xs : List Nat} {p k r : Nat} (h : r < p) : (sumsAt xs p k)[r]? = some (fsum (pickTo xs p r k)) := by simp [sumsAt, h]
theorem countsAt_at {xs : List Nat} {p k r : Nat} (h : r < p) : (countsAt xs p k)[r]? = some (pickTo xs p r k).length := by simp [countsAt, h]
theorem sumsAt_succ {xs : List Nat} {p k x : Nat} (hp : 0 < p) (hx : xs[k]? = some x) : sumsAt xs p (k + 1) = (sumsAt xs p k).set (k % p) (fb .add .f32 (fsum (pickTo xs p (k % p) k)) x) := by
  have hr := Nat.mod_lt k hp
  apply List.ext_getElem?
  intro i
  rcases Nat.lt_or_ge i p with hi | hi
  · rw [sumsAt_at hi, List.getElem?_set, sumsAt_at hi]
    by_cases he : k % p = i
    · rw [if_pos he, if_pos (by rw [sumsAt_len]; omega), he, pickTo_yes hx he, fsum_snoc]
    · rw [if_neg he, pickTo_no he]
  · rw [List.getElem?_eq_none (by rw [sumsAt_len]; omega), List.getElem?_eq_none (by rw [List.length_set, sumsAt_len]; omega)]
theorem countsAt_succ {xs : List Nat} {p k x : Nat} (hp : 0 < p) (hx : xs[k]? = some x) : countsAt xs p (k + 1) = (countsAt xs p k).set (k % p) ((pickTo xs p (k % p) k).length + 1) := by
  have hr := Nat.mod_lt k hp
  have hl : ∀ k, (countsAt xs p k).length = p := by intro k; simp [countsAt]
  apply List.ext_getElem?
  intro i
  rcases Nat.lt_or_ge i p with hi | hi
  · rw [countsAt_at hi, List.getElem?_set, countsAt_at hi]
    by_cases he : k % p = i
    · rw [if_pos he, if_pos (by rw [hl]; omega), he, pickTo_yes hx he, List.length_append]; rfl
    · rw [if_neg he, pickTo_no he]
  · rw [List.getElem?_eq_none (by rw [hl]; omega), List.getElem?_eq_none (by rw [List.length_set, hl]; omega)]
theorem at_cn {zs ys : List Nat} {i z y : Nat} (h : zs.map (cn .f32) = ys) (hz : zs[i]? = some z) (hy : ys[i]? = some y) : cn .f32 z = y := by
  rw [← h, List.getElem?_map, hz] at hy
  injection hy
theorem blk_setF {α : Type} (F : α → Value) {w : World} {g : Nat} {t : TypeId} {xs : List α} {k : Nat} {y : α} (h : Blk w g t (xs.map F).toArray) : Blk (w.setCell ⟨g, k, none⟩ (F y)) g t ((xs.set k y).map F).toArray := by
  have := h.set_ k (F y)
  rwa [show ((xs.map F).toArray.setIfInBounds k (F y)) = ((xs.set k y).map F).toArray by simp [List.map_set]] at this

end Go.Proofs.Yteabfkgbakoljaa
