/-
  Are two systems with signals the same: the program's walk; lists of integers that are the same, of both sides.
-/
import Derived.Test.YtjfmjeffmnjilaaSvP
import Derived.RegionTactic
import Derived.BigRegion
namespace Go.Proofs.Ytjfmjeffmnjilaa
open Go.RowKit Fl Mem
set_option linter.unusedVariables false
set_option maxRecDepth 100000

theorem intL_len {xs ys : List Int} (h : xs.length ≠ ys.length) : decide (xs = ys) = false := decide_eq_false (fun e => h (by rw [e]))
theorem intL_no {xs ys : List Int} {k : Nat} {x y : Int} (hx : xs[k]? = some x) (hy : ys[k]? = some y) (h : x ≠ y) : decide (xs = ys) = false :=
  decide_eq_false (fun e => h (by rw [e, hy] at hx; injection hx with hx; exact hx.symm))
theorem intL_take {xs ys : List Int} {k : Nat} {x y : Int} (hx : xs[k]? = some x) (hy : ys[k]? = some y) (h : x = y) (hp : xs.take k = ys.take k) : xs.take (k + 1) = ys.take (k + 1) := by
  rw [take_eq hx, take_eq hy, hp, h]
theorem intL_all {xs ys : List Int} {n : Nat} (hx : xs.length = n) (hy : ys.length = n) (hp : xs.take n = ys.take n) : decide (xs = ys) = true := by
  rw [List.take_of_length_le (by omega), List.take_of_length_le (by omega)] at hp
  exact decide_eq_true hp
set_option maxHeartbeats 1000000 in
theorem equal_ints {A A' : Option Addr} {n n' c c' B B' : Nat} {xs ys : List Int} {w : World} (h : Reads w B 1 A n (il xs)) (h' : Reads w B' 1 A' n' (il ys)) (hn : n ≤ 1099511627776) (hn' : n' ≤ 1099511627776) :
    Calls Try.prog 73 #[.slice A n c, .slice A' n' c'] w fun e w' => e = .returned (.bool (decide (xs = ys))) ∧ ∃ m, w' = w.drewN m := by
  have Hl := hide h.map_len
  have Hl' := hide h'.map_len
  by_cases hnn : n = n'
  · subst hnn
    go_enter Try.func73, Try.ntmps73
    go_wp2
    go_loopw [13] (fun i wr => ∃ k m : Nat, k ≤ n ∧ i = .int .i64 k ∧ wr = w.drewN m ∧ Hid (xs.take k = ys.take k)) (fun i _ => n - (intOf i).toNat)
    case atStart => exact ⟨0, 0, Nat.zero_le _, rfl, rfl, hide rfl⟩
    case round =>
      obtain ⟨k, m, hk, rfl, rfl, hp⟩ := hrel
      by_cases hlt : k < n
      · obtain ⟨ad, x, rfl, _, hx1, hc⟩ := h.map_at hlt
        obtain ⟨ad', y, rfl, _, hy1, hc'⟩ := h'.map_at hlt
        have Hx := hide hx1
        have Hy := hide hy1
        have i1 : (0 : Int) ≤ k := by omega
        have i2 : (k : Int) < n := by omega
        clear hx1 hy1
        by_cases hs : x = y
        · have hs1 : (x != y) = false := by simp [hs]
          have Hs := hide (intL_take Hx.out Hy.out hs hp.out)
          clear hs
          go_wp2
          go_region
          all_goals
            go_wp2
            go_roundw
            case rel => exact ⟨k + 1, _, by omega, by go_num, rfl, Hs⟩
            case measure => simp [intOf]; omega
        · have hs1 : (x != y) = true := by simp [hs]
          have Hs := hide (intL_no Hx.out Hy.out hs)
          clear hs
          go_wp2
          go_region
          all_goals
            go_wp2
            go_ret
            exact ⟨ret_bool Hs.out.symm, _, rfl⟩
      · go_wp2
        go_ret
        obtain rfl : k = n := by omega
        exact ⟨ret_bool (intL_all Hl.out Hl'.out hp.out).symm, _, rfl⟩
  · have hne : ((n : Int) != (n' : Int)) = true := by simp; omega
    have Hs := hide (intL_len (xs := xs) (ys := ys) (by rw [Hl.out, Hl'.out]; exact hnn))
    clear hnn
    go_enter Try.func73, Try.ntmps73
    go_wp2
    go_ret
    exact ⟨ret_bool Hs.out.symm, 0, rfl⟩
set_option maxHeartbeats 1000000 in
theorem s_l00Same {A A' : Option Addr} {n n' c c' B B' : Nat} {xs ys : List Int} {w : World} (h : Reads w B 1 A n (il xs)) (h' : Reads w B' 1 A' n' (il ys)) (hn : n ≤ 1099511627776) (hn' : n' ≤ 1099511627776) :
    Calls Try.prog 71 #[.slice A n c, .slice A' n' c'] w fun e w' => e = .returned (.bool (decide (xs = ys))) ∧ ∃ m, w' = w.drewN m := by
  have Hl := hide h.map_len
  have Hl' := hide h'.map_len
  by_cases hnn : n = n'
  · subst hnn
    go_enter Try.func71, Try.ntmps71
    go_wp2
    go_loopw [5] (fun i wr => ∃ k m : Nat, k ≤ n ∧ i = .int .i64 k ∧ wr = w.drewN m ∧ Hid (xs.take k = ys.take k)) (fun i _ => n - (intOf i).toNat)
    case atStart => exact ⟨0, 0, Nat.zero_le _, rfl, rfl, hide rfl⟩
    case round =>
      obtain ⟨k, m, hk, rfl, rfl, hp⟩ := hrel
      by_cases hlt : k < n
      · obtain ⟨ad, x, rfl, _, hx1, hc⟩ := h.map_at hlt
        obtain ⟨ad', y, rfl, _, hy1, hc'⟩ := h'.map_at hlt
        have Hx := hide hx1
        have Hy := hide hy1
        have i1 : (0 : Int) ≤ k := by omega
        have i2 : (k : Int) < n := by omega
        clear hx1 hy1
        by_cases hs : x = y
        · have hs1 : (x != y) = false := by simp [hs]
          have Hs := hide (intL_take Hx.out Hy.out hs hp.out)
          clear hs
          go_wp2
          go_region
          all_goals
            go_wp2
            go_roundw
            case rel => exact ⟨k + 1, _, by omega, by go_num, rfl, Hs⟩
            case measure => simp [intOf]; omega
        · have hs1 : (x != y) = true := by simp [hs]
          have Hs := hide (intL_no Hx.out Hy.out hs)
          clear hs
          go_wp2
          go_region
          all_goals
            go_wp2
            go_ret
            exact ⟨ret_bool Hs.out.symm, _, rfl⟩
      · go_wp2
        go_ret
        obtain rfl : k = n := by omega
        exact ⟨ret_bool (intL_all Hl.out Hl'.out hp.out).symm, _, rfl⟩
  · have hne : ((n : Int) != (n' : Int)) = true := by simp; omega
    have Hs := hide (intL_len (xs := xs) (ys := ys) (by rw [Hl.out, Hl'.out]; exact hnn))
    clear hnn
    go_enter Try.func71, Try.ntmps71
    go_wp2
    go_ret
    exact ⟨ret_bool Hs.out.symm, 0, rfl⟩

set_option maxHeartbeats 1000000 in
theorem i_SameSystem {p q : Int} {A A' : Option Addr} {n n' c c' B B' : Nat} {xs ys : List Int} {w : World} (h : Reads w B 1 A n (il xs)) (h' : Reads w B' 1 A' n' (il ys)) (hB : B ≤ w.heap.size) (hB' : B' ≤ w.heap.size) (hn : n ≤ 1099511627776) (hn' : n' ≤ 1099511627776) :
    Calls Try.prog 40 #[sysV p A n c, sysV q A' n' c'] w fun e w' => e = .returned (.bool (sameSys p q xs ys)) ∧ Below w.heap.size w w' := by
  have R1 := fun o1 o2 => (h.alloc hB o1).alloc (by simp; omega) o2
  have R2 := fun o1 o2 => (h'.alloc hB' o1).alloc (by simp; omega) o2
  cases hk : p == q with
  | false =>
    have Hs : Hid (sameSys p q xs ys = false) := hide (by unfold sameSys; rw [hk]; rfl)
    go_enter Try.func40, Try.ntmps40
    go_wp2
    go_ret
    exact ⟨ret_bool Hs.out.symm, (by repeat (first | exact Below.refl _ _ | exact below_drewN (by assumption) _ | refine below_drewN ?_ _ | refine Below.alloc ?_ (by first | (simp; done) | (simp; omega)) _ | assumption))⟩
  | true =>
    have Hs : Hid (sameSys p q xs ys = decide (xs = ys)) := hide (by unfold sameSys; rw [hk]; rfl)
    go_enter Try.func40, Try.ntmps40
    go_wp2_with (go_at_call 73; refine (equal_ints (R1 _ _) (R2 _ _) hn hn').mono ?_; rintro e w1 ⟨rfl, m, rfl⟩)
    go_ret
    exact ⟨ret_bool Hs.out.symm, (by repeat (first | exact Below.refl _ _ | exact below_drewN (by assumption) _ | refine below_drewN ?_ _ | refine Below.alloc ?_ (by first | (simp; done) | (simp; omega)) _ | assumption))⟩
set_option maxHeartbeats 1000000 in
theorem s_SameSystem {p q : Int} {A A' : Option Addr} {n n' c c' B B' : Nat} {xs ys : List Int} {w : World} (h : Reads w B 1 A n (il xs)) (h' : Reads w B' 1 A' n' (il ys)) (hB : B ≤ w.heap.size) (hB' : B' ≤ w.heap.size) (hn : n ≤ 1099511627776) (hn' : n' ≤ 1099511627776) :
    Calls Try.prog 36 #[sysV p A n c, sysV q A' n' c'] w fun e w' => e = .returned (.bool (sameSys p q xs ys)) ∧ Below w.heap.size w w' := by
  have R1 := fun o1 o2 => (h.alloc hB o1).alloc (by simp; omega) o2
  have R2 := fun o1 o2 => (h'.alloc hB' o1).alloc (by simp; omega) o2
  cases hk : p == q with
  | false =>
    have Hs : Hid (sameSys p q xs ys = false) := hide (by unfold sameSys; rw [hk]; rfl)
    go_enter Try.func36, Try.ntmps36
    go_wp2
    go_ret
    exact ⟨ret_bool Hs.out.symm, (by repeat (first | exact Below.refl _ _ | exact below_drewN (by assumption) _ | refine below_drewN ?_ _ | refine Below.alloc ?_ (by first | (simp; done) | (simp; omega)) _ | assumption))⟩
  | true =>
    have Hs : Hid (sameSys p q xs ys = decide (xs = ys)) := hide (by unfold sameSys; rw [hk]; rfl)
    go_enter Try.func36, Try.ntmps36
    go_wp2_with (go_at_call 71; refine (s_l00Same (R1 _ _) (R2 _ _) hn hn').mono ?_; rintro e w1 ⟨rfl, m, rfl⟩)
    go_ret
    exact ⟨ret_bool Hs.out.symm, (by repeat (first | exact Below.refl _ _ | exact below_drewN (by assumption) _ | refine below_drewN ?_ _ | refine Below.alloc ?_ (by first | (simp; done) | (simp; omega)) _ | assumption))⟩

set_option maxHeartbeats 2000000 in
theorem i_SameSaved_1 {s t : Sv} {B : Nat} {w : World} (h : SvOk w B s) (h' : SvOk w B t) (hB : B ≤ w.heap.size) (hs : SvLe 1099511627776 s) (ht : SvLe 1099511627776 t) :
    Calls Try.prog 39 #[svV s, svV t] w fun e w' => e = .returned (.bool (sameSv s t)) ∧ Below w.heap.size w w' := by
  have P1 := fun o1 o2 => (h.paths.alloc hB o1).alloc (by simp; omega) o2
  have P2 := fun o1 o2 => (h'.paths.alloc hB o1).alloc (by simp; omega) o2
  have S1 := fun o1 o2 => (h.sig.alloc hB o1).alloc (by simp; omega) o2
  have S2 := fun o1 o2 => (h'.sig.alloc hB o1).alloc (by simp; omega) o2
  have l1 := hs.pn
  have l2 := ht.pn
  have l3 := hs.sn
  have l4 := ht.sn
  have Hu : Hid (sameSv s t = (decide (s.nm = t.nm) && (sameSys s.parts t.parts s.ps t.ps && sameL s.xs t.xs))) := hide rfl
  by_cases hk : s.nm = t.nm
  · have hk1 : (s.nm.toList == t.nm.toList) = true := by rw [strEq, decide_eq_true hk]
    rw [decide_eq_true hk, Bool.true_and] at Hu
    clear hk
    cases hq : sameSys s.parts t.parts s.ps t.ps with
    | false =>
      rw [hq] at Hu
      go_enter Try.func39, Try.ntmps39
      go_wp2_with (go_at_call 40; refine (i_SameSystem (P1 _ _) (P2 _ _) (by simp; omega) (by simp; omega) l1 l2).mono ?_; rintro e w3 ⟨rfl, hb⟩; rw [hq])
      go_ret
      exact ⟨ret_bool Hu.out.symm, ((below_al' (Nat.le_refl _) _).alloc (by simp) _).trans (hb.mono (by simp; omega))⟩
    | true =>
      rw [hq] at Hu
      go_enter Try.func39, Try.ntmps39
      go_wp2_with fail
      refine (i_SameSystem (P1 _ _) (P2 _ _) (by simp; omega) (by simp; omega) l1 l2).mono ?_
      rintro e w3 ⟨rfl, hb⟩
      rw [hq]
      have b1 := (((blk_new' w w.heap.size _ _ rfl).alloc _).below hb (by simp; omega) : Blk w3 w.heap.size 38 _)
      have b2 := ((blk_new' (w.alloc _) (w.heap.size + 1) _ _ (by simp)).below hb (by simp) : Blk w3 (w.heap.size + 1) 38 _)
      have c1 : w3.cell? ⟨w.heap.size, 3, none⟩ = some (.slice s.SA s.sn s.sc) := b1.cell 3
      have c2 : w3.cell? ⟨w.heap.size + 1, 3, none⟩ = some (.slice t.SA t.sn t.sc) := b2.cell 3
      clear b1 b2
      have S1' := (S1 _ _).below (hb.mono (by simp; omega))
      have S2' := (S2 _ _).below (hb.mono (by simp; omega))
      clear S1 S2 P1 P2
      go_wp2_with (go_at_call 41; refine (equalFunc_same S1' S2' l3 l4 h.wf h'.wf).mono ?_; rintro e w1 ⟨rfl, m, rfl⟩)
      go_ret
      exact ⟨ret_bool Hu.out.symm, below_drewN (((below_al' (Nat.le_refl _) _).alloc (by simp) _).trans (hb.mono (by simp; omega))) _⟩
  · have hk1 : (s.nm.toList == t.nm.toList) = false := by rw [strEq, decide_eq_false hk]
    rw [decide_eq_false hk, Bool.false_and] at Hu
    clear hk
    go_enter Try.func39, Try.ntmps39
    go_wp2
    go_ret
    exact ⟨ret_bool Hu.out.symm, (by repeat (first | exact Below.refl _ _ | exact below_drewN (by assumption) _ | refine below_drewN ?_ _ | refine Below.alloc ?_ (by first | (simp; done) | (simp; omega)) _ | assumption))⟩
end Go.Proofs.Ytjfmjeffmnjilaa
