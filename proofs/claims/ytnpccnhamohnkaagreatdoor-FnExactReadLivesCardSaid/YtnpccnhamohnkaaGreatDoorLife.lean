/-
  Contracts of the helpers of the laws on lives, laws, chains, plans and desks.
-/
import Derived.Test.YtnpccnhamohnkaaGreatDoorKit
import Derived.RegionTactic
import Derived.BigRegion
import Derived.Deep.RegionWith
namespace Go.Proofs.YtnpccnhamohnkaaGreatDoor
open Go.RowKit Fl Mem
set_option linter.unusedVariables false
set_option maxRecDepth 100000

/-- The cells of lives. -/
def ll : List (Nat × Bool) → List Value
  | [] => []
  | p :: r => .float .f32 p.1 :: .bool p.2 :: ll r
theorem ll_len (xs : List (Nat × Bool)) : (ll xs).length = xs.length * 2 := by
  induction xs with
  | nil => rfl
  | cons p r ih => simp only [ll, List.length_cons, ih]; omega
theorem ll_at {xs : List (Nat × Bool)} {k : Nat} {p : Nat × Bool} (h : xs[k]? = some p) : (ll xs)[k * 2]? = some (.float .f32 p.1) ∧ (ll xs)[k * 2 + 1]? = some (.bool p.2) := by
  induction xs generalizing k with
  | nil => simp at h
  | cons q r ih =>
    cases k with
    | zero => simp at h; subst h; exact ⟨rfl, rfl⟩
    | succ k =>
      simp only [List.getElem?_cons_succ] at h
      have := ih h
      simp only [ll]
      rw [show (k + 1) * 2 = k * 2 + 1 + 1 by omega, List.getElem?_cons_succ, List.getElem?_cons_succ, List.getElem?_cons_succ, List.getElem?_cons_succ]
      exact this
theorem reads_ll {w : World} {B n k : Nat} {A : Option Addr} {xs : List (Nat × Bool)} (h : Reads w B 2 A n (ll xs)) (hk : k < n) :
    ∃ ad p, A = some ad ∧ ad.block < B ∧ xs[k]? = some p ∧ w.cell? (ad.add (k * 2)) = some (.float .f32 p.1) ∧ w.cell? ((ad.add (k * 2)).add 1) = some (.bool p.2) := by
  obtain ⟨ad, e, hb, hc⟩ := h.2 (by omega)
  have hl := h.1
  rw [ll_len] at hl
  have hx : xs[k]? = some xs[k] := List.getElem?_eq_getElem (by omega)
  obtain ⟨h1, h2⟩ := ll_at hx
  exact ⟨ad, xs[k], e, hb, hx, hc _ _ h1, by rw [add_of_add]; exact hc _ _ h2⟩

set_option maxHeartbeats 400000 in
theorem eqLife (x y : Nat) (b : Bool) (w : World) (h : cn .f32 x = cn .f32 y) :
    Calls Tryz.prog 58 #[.agg #[.float .f32 x, .bool b], .agg #[.float .f32 y, .bool b]] w fun e w' => e = .returned (.bool true) ∧ Below w.heap.size w w' := by
  have hb : (b != b) = false := by simp
  go_enter Tryz.func58, Tryz.ntmps58
  go_wp2_with (go_at_call 106; refine (sameFloat_eq _ _ _ (by rw [cn_cvR, cn_cvR]; exact wide_of_cn h)).mono ?_; rintro e w' ⟨rfl, m, rfl⟩)
  go_ret
  exact ⟨rfl, (by repeat (first | exact Below.refl _ _ | exact below_drewN (by assumption) _ | refine below_drewN ?_ _ | refine Below.alloc ?_ (by first | (simp; done) | (simp; omega)) _ | assumption))⟩
set_option maxHeartbeats 1000000 in
theorem eqLifeS {A A' : Option Addr} {n n' c c' B B' : Nat} {xs : List (Nat × Bool)} {w : World} (h : Reads w B 2 A n (ll xs)) (h' : Reads w B' 2 A' n' (ll xs)) (hB : B ≤ w.heap.size) (hB' : B' ≤ w.heap.size) (hn : n ≤ 1099511627776) :
    Calls Tryz.prog 15 #[.slice A n c, .slice A' n' c'] w fun e w' => e = .returned (.bool true) ∧ Below w.heap.size w w' := by
  have hl : n' = n := by have h1 := h.1; have h2 := h'.1; omega
  subst hl
  go_enter Tryz.func15, Tryz.ntmps15
  go_wp2
  go_loopw [5] (fun i wr => ∃ k : Nat, k ≤ n' ∧ i = .int .i64 k ∧ Below w.heap.size w wr) (fun i _ => n' - (intOf i).toNat)
  case atStart => exact ⟨0, Nat.zero_le _, rfl, Below.refl _ _⟩
  case round =>
    obtain ⟨k, hk, rfl, hbel⟩ := hrel
    by_cases hlt : k < n'
    · obtain ⟨ad, p, rfl, _, hx, hc, hc2⟩ := reads_ll (h.below (hbel.mono hB)) hlt
      obtain ⟨ad', p', rfl, _, hx', hc', hc2'⟩ := reads_ll (h'.below (hbel.mono hB')) hlt
      obtain rfl : p' = p := by rw [hx] at hx'; injection hx' with hx'; exact hx'.symm
      have hc2b : wr.cell? ⟨(ad.add (k * 2)).block, (ad.add (k * 2)).off + 1, none⟩ = some (.bool p'.2) := hc2
      have hc2b' : wr.cell? ⟨(ad'.add (k * 2)).block, (ad'.add (k * 2)).off + 1, none⟩ = some (.bool p'.2) := hc2'
      clear hx hx'
      have h1 : (0 : Int) ≤ k := by omega
      have h2 : (k : Int) < n' := by omega
      go_wp2
      go_region_with (go_at_call 58; refine (eqLife _ _ _ _ rfl).mono ?_; rintro e w' ⟨rfl, hb⟩)
      all_goals
        have hb2 : Below w.heap.size w w' := Below.trans (⟨hbel.os, hbel.tape, hbel.output, hbel.size, hbel.block⟩ : Below w.heap.size w wr.drew) (hb.mono hbel.size)
        clear hb
        go_wp2
        go_roundw
        case rel => exact ⟨k + 1, by omega, by go_num, hb2⟩
        case measure => simp [intOf]; omega
    · go_wp2
      go_ret
      exact ⟨rfl, hbel⟩

theorem eqChain (s : Int) {A A' : Option Addr} {n n' c c' B B' : Nat} {xs : List Nat} {w : World} (h : Reads w B 1 A n (fl .f32 xs)) (h' : Reads w B' 1 A' n' (fl .f32 xs)) (hB : B ≤ w.heap.size) (hB' : B' ≤ w.heap.size) (hn : n ≤ 1099511627776) :
    Calls Tryz.prog 10 #[.agg #[.int .i64 s, .slice A n c], .agg #[.int .i64 s, .slice A' n' c']] w fun e w' => e = .returned (.bool true) ∧ Below w.heap.size w w' := by
  have hs : (s != s) = false := by simp
  have R1 := fun o1 o2 => (h.alloc hB o1).alloc (by simp; omega) o2
  have R2 := fun o1 o2 => (h'.alloc hB' o1).alloc (by simp; omega) o2
  go_enter Tryz.func10, Tryz.ntmps10
  go_wp2_with (go_at_call 50; refine (eqFloat32S_eq _ _ _ _ _ _ xs xs B B' _ (R1 _ _) (R2 _ _) (by unfold maxLen; omega) rfl).mono ?_; rintro e w' ⟨rfl, m, rfl⟩)
  go_ret
  exact ⟨rfl, (by repeat (first | exact Below.refl _ _ | exact below_drewN (by assumption) _ | refine below_drewN ?_ _ | refine Below.alloc ?_ (by first | (simp; done) | (simp; omega)) _ | assumption))⟩

/-- A desk as a value. -/
abbrev deskV (LA : Option Addr) (ln lc : Nat) (kd : Int) (sh sc : Nat) (st : Int) (RA : Option Addr) (rn rc : Nat) (sz ac : Int) : Value :=
  .agg #[.slice LA ln lc, .int .i64 kd, .float .f32 sh, .float .f32 sc, .int .i64 st, .slice RA rn rc, .int .i64 sz, .int .i64 ac]
/-- Two blocks that were laid last hold what they held. -/
theorem box_cells {w w3 : World} {c1 c2 : Array Value} {t1 t2 : TypeId} (hb : Below ((w.alloc (.cells c1 t1)).alloc (.cells c2 t2)).heap.size ((w.alloc (.cells c1 t1)).alloc (.cells c2 t2)) w3) :
    (∀ i, w3.cell? ⟨w.heap.size, i, none⟩ = c1[i]?) ∧ (∀ i, w3.cell? ⟨w.heap.size + 1, i, none⟩ = c2[i]?) := by
  constructor
  · intro i
    rw [hb.cell (by simp; omega)]
    exact Blk.cell ((Blk.new w t1 c1).alloc _) i
  · intro i
    rw [hb.cell (by simp)]
    have := Blk.cell (Blk.new (w.alloc (.cells c1 t1)) t2 c2) i
    rw [show (w.alloc (.cells c1 t1)).heap.size = w.heap.size + 1 by simp] at this
    exact this
theorem below_step {w a b : World} {B : Nat} (h : Below w.heap.size w a) (hB : B ≤ w.heap.size) (h2 : Below a.heap.size a b) : Below w.heap.size w b := h.trans (h2.mono h.size)

/-- One cell of an owned row of elements of two cells is written. -/
theorem own_set2 {w : World} {base : Nat} {e : TypeId} {g n c : Nat} {xs : List Value} (h : w.ownsRow base e 2 (.slice (some ⟨g, 0, none⟩) n c) n xs) {i : Nat} (hi : i < n * 2) (u : Value) :
    (w.setCell ⟨g, i, none⟩ u).ownsRow base e 2 (.slice (some ⟨g, 0, none⟩) n c) n (xs.set i u) := by
  obtain ⟨h1, h2⟩ := h
  refine ⟨by simpa using h1, ?_⟩
  rcases h2 with ⟨h2, _⟩ | ⟨g', cap, cur, hv, hb, hg, hnc, hcm, hcs, htake⟩
  · cases h2
  · injection hv with hv1 _ hv2
    injection hv1 with hv1
    injection hv1 with hv1
    subst hv1
    subst hv2
    refine .inr ⟨g, c, cur.setIfInBounds i u, rfl, hb, ?_, hnc, hcm, by simpa using hcs, ?_⟩
    · have := Blk.set_ (w := w) (g := g) (t := e) (cs := cur) hg i u
      exact this
    · rw [← htake, Array.toList_setIfInBounds]
      rw [List.take_set]
theorem own_cell2 {w : World} {base : Nat} {e : TypeId} {g n c : Nat} {xs : List Value} (h : w.ownsRow base e 2 (.slice (some ⟨g, 0, none⟩) n c) n xs) {i : Nat} {u : Value} (hu : xs[i]? = some u) :
    w.cell? ⟨g, i, none⟩ = some u ∧ w.frozen? ⟨g, i, none⟩ = false := by
  refine ⟨by have := h.cells (g := g) rfl i u hu; simpa [Addr.add_lit] using this, ?_⟩
  rcases h.2 with ⟨h2, _⟩ | ⟨g', cap, cur, hv, hb, hg, _⟩
  · cases h2
  · injection hv with hv1 _ _
    injection hv1 with hv1
    injection hv1 with hv1
    subst hv1
    exact Blk.frozen (w := w) (t := e) (cs := cur) hg i
/-- The marks of a list of lives. -/
def marksL (k : Nat) : Nat → List Value
  | 0 => []
  | n + 1 => mkF (k : Int) :: mkB ((k : Int) + 1) :: marksL (k + 2) n
theorem marksL_len (k n : Nat) : (marksL k n).length = n * 2 := by
  induction n generalizing k with
  | zero => rfl
  | succ n ih => simp only [marksL, List.length_cons, ih]; omega
theorem marksL_at {k n i : Nat} (h : i < n) : (marksL k n)[i * 2]? = some (mkF ((k + 2 * i : Nat) : Int)) ∧ (marksL k n)[i * 2 + 1]? = some (mkB ((k + 2 * i + 1 : Nat) : Int)) := by
  induction n generalizing k i with
  | zero => omega
  | succ n ih =>
    cases i with
    | zero => exact ⟨by simp [marksL], by simp [marksL]⟩
    | succ i =>
      have := ih (k := k + 2) (i := i) (by omega)
      simp only [marksL]
      rw [show (i + 1) * 2 = i * 2 + 1 + 1 by omega, List.getElem?_cons_succ, List.getElem?_cons_succ, List.getElem?_cons_succ, List.getElem?_cons_succ]
      rw [show k + 2 + 2 * i = k + 2 * (i + 1) by omega] at this
      exact this
/-- The cells of a row of which the first i are told otherwise. -/
def mix (ms cs : List Value) (i : Nat) : List Value := ms.take i ++ cs.drop i
theorem mix_len {ms cs : List Value} {i : Nat} (hl : ms.length = cs.length) (hi : i ≤ cs.length) : (mix ms cs i).length = cs.length := by simp [mix]; omega
theorem mix_set {ms cs : List Value} {i : Nat} {u : Value} (hl : ms.length = cs.length) (hu : ms[i]? = some u) : (mix ms cs i).set i u = mix ms cs (i + 1) := by
  have hi : i < cs.length := by rw [← hl]; exact (List.getElem?_eq_some_iff.1 hu).1
  unfold mix
  apply List.ext_getElem?
  intro j
  rw [List.getElem?_set]
  by_cases hj : i = j
  · subst hj
    rw [if_pos rfl, if_pos (by simp; omega), List.getElem?_append_left (by simp; omega), List.getElem?_take, if_pos (by omega), hu]
  · rw [if_neg hj]
    rcases Nat.lt_or_ge j i with h1 | h1
    · rw [List.getElem?_append_left (by simp; omega), List.getElem?_append_left (by simp; omega), List.getElem?_take, List.getElem?_take, if_pos h1, if_pos (by omega)]
    · rw [List.getElem?_append_right (by simp; omega), List.getElem?_append_right (by simp; omega)]
      simp only [List.getElem?_drop, List.length_take]
      congr 1
      omega
theorem mix_all {ms cs : List Value} (hl : ms.length = cs.length) : mix ms cs cs.length = ms := by unfold mix; rw [List.take_of_length_le (by omega), List.drop_length, List.append_nil]
theorem mix_none (ms cs : List Value) : mix ms cs 0 = cs := by simp [mix]

set_option maxHeartbeats 1000000 in
/-- 'markLifeS' writes marks over a row that is owned. -/
theorem markLifeS (v : Value) (n k : Nat) (cs : List Value) (base : Nat) (w : World) (ho : w.ownsRow base 91 2 v n cs) (hn : n + k ≤ 1099511627776) :
    Calls Tryz.prog 16 #[v, .int .i64 (k : Int)] w fun e w' => e = .returned (.int .i64 ((k + 2 * n : Nat) : Int)) ∧ w'.ownsRow base 91 2 v n (marksL k n) ∧ w.grownBy w' v.ownBlock := by
  have hl := ho.1
  rcases Nat.eq_zero_or_pos n with h0 | h0
  · subst h0
    obtain rfl : cs = [] := List.eq_nil_of_length_eq_zero (by omega)
    obtain ⟨A, c, rfl⟩ := own_shape ho
    go_enter Tryz.func16, Tryz.ntmps16
    go_wp2
    go_loop [1, 5] (fun a i => a = .int .i64 k ∧ i = .int .i64 0) (fun _ _ => 0)
    case atStart => exact ⟨rfl, rfl⟩
    case round =>
      obtain ⟨rfl, rfl⟩ := hrel
      go_wp2
      go_ret
      exact ⟨ret_int (by simp), ho, World.grownBy.refl _ _⟩
  · obtain ⟨g, c, rfl⟩ := own_addr ho h0
    have hbg : g < w.heap.size := (ho.lt g rfl).2
    have Hl := hide hl
    have Hm : Hid ((marksL k n).length = cs.length) := hide (by rw [marksL_len]; omega)
    have Ho := hide ho
    clear hl ho
    go_enter Tryz.func16, Tryz.ntmps16
    go_wp2
    go_loopw [1, 5] (fun a i wr => ∃ j : Nat, j ≤ n ∧ a = .int .i64 ((k + 2 * j : Nat) : Int) ∧ i = .int .i64 j ∧ Hid (wr.ownsRow base 91 2 (.slice (some ⟨g, 0, none⟩) n c) n (mix (marksL k n) cs (j * 2))) ∧ Hid (w.grownBy wr (some g))) (fun _ i _ => n - (intOf i).toNat)
    case atStart => exact ⟨0, Nat.zero_le _, by go_num, rfl, hide (by rw [Nat.zero_mul, mix_none]; exact Ho.out), hide (World.grownBy.refl _ _)⟩
    case round =>
      obtain ⟨j, hj, rfl, rfl, hown, hgr⟩ := hrel
      by_cases hlt : j < n
      · have hmk := marksL_at (k := k) hlt
        have Hml := hide (mix_len (ms := marksL k n) (cs := cs) (i := j * 2) Hm.out (by rw [Hl.out]; omega))
        obtain ⟨u, hu⟩ : ∃ u, (mix (marksL k n) cs (j * 2))[j * 2]? = some u := ⟨_, List.getElem?_eq_getElem (by rw [Hml.out, Hl.out]; omega)⟩
        obtain ⟨u2, hu2⟩ : ∃ u, (mix (marksL k n) cs (j * 2))[j * 2 + 1]? = some u := ⟨_, List.getElem?_eq_getElem (by rw [Hml.out, Hl.out]; omega)⟩
        obtain ⟨hc, hf⟩ := own_cell2 hown.out hu
        obtain ⟨hc2, hf2⟩ := own_cell2 hown.out hu2
        have Hmk := hide hmk
        clear hu hu2 hmk
        have h1 : (0 : Int) ≤ j := by omega
        have h2 : (j : Int) < n := by omega
        have h3 : (0 : Int) ≤ ((k + 2 * j : Nat) : Int) := by omega
        go_wp2
        go_roundw
        case rel => exact ⟨j + 1, by omega, by go_num, by go_num, by
            have h9 := own_set2 (own_set2 hown.out (show j * 2 < n * 2 by omega) (mkF ((k + 2 * j : Nat) : Int))) (show j * 2 + 1 < n * 2 by omega) (mkB ((k + 2 * j + 1 : Nat) : Int))
            rw [mix_set Hm.out Hmk.out.1, mix_set Hm.out Hmk.out.2] at h9
            have e1 : ((k + 2 * j : Nat) : Int) = (k : Int) + 2 * (j : Int) := by omega
            have e2 : ((k + 2 * j + 1 : Nat) : Int) = (k : Int) + 2 * (j : Int) + 1 := by omega
            simp only [mkF, mkB] at h9
            rw [e1, e2] at h9
            rw [show (j + 1) * 2 = j * 2 + 1 + 1 by omega]
            exact h9, hide (only_setCell (only_setCell hgr.out (.inl rfl) _) (.inl rfl) _)⟩
        case measure => simp [intOf]; omega
      · go_wp2
        go_ret
        obtain rfl : j = n := by omega
        refine ⟨rfl, ?_, hgr.out⟩
        have h9 := hown.out
        rw [← Hl.out, mix_all Hm.out] at h9
        exact h9

set_option maxHeartbeats 1000000 in
/-- 'heldLifeS' finds the marks where they were written. -/
theorem heldLifeS (A : Option Addr) (n c k : Nat) (B : Nat) (w : World) (h : Reads w B 2 A n (marksL k n)) (hn : n + k ≤ 1099511627776) :
    Calls Tryz.prog 17 #[.slice A n c, .int .i64 (k : Int)] w fun e w' => e = .returned (.int .i64 ((k + 2 * n : Nat) : Int)) ∧ ∃ m, w' = w.drewN m := by
  go_enter Tryz.func17, Tryz.ntmps17
  go_wp2
  go_loopw [1, 5] (fun a i wr => ∃ j m : Nat, j ≤ n ∧ a = .int .i64 ((k + 2 * j : Nat) : Int) ∧ i = .int .i64 j ∧ wr = w.drewN m) (fun _ i _ => n - (intOf i).toNat)
  case atStart => exact ⟨0, 0, Nat.zero_le _, by go_num, rfl, rfl⟩
  case round =>
    obtain ⟨j, m, hj, rfl, rfl, rfl⟩ := hrel
    by_cases hlt : j < n
    · obtain ⟨ad, rfl, _, hcs⟩ := h.2 (by omega)
      have hmk := marksL_at (k := k) hlt
      have hc : w.cell? (ad.add (j * 2)) = some (.float .f32 (floatOfInt .f32 ((k : Int) + 2 * (j : Int)))) := by rw [hcs _ _ hmk.1]; simp [mkF]
      have hc2 : w.cell? ((ad.add (j * 2)).add 1) = some (.bool (((k : Int) + 2 * (j : Int) + 1) % 3 == 0)) := by rw [add_of_add, hcs _ _ hmk.2]; simp [mkB]
      have hc3 : w.cell? ⟨(ad.add (j * 2)).block, (ad.add (j * 2)).off + 1, none⟩ = some (.bool (((k : Int) + 2 * (j : Int) + 1) % 3 == 0)) := hc2
      have hne : (FloatKind.f32.format.order (floatOfInt .f32 ((k : Int) + 2 * (j : Int))) (floatOfInt .f32 ((k : Int) + 2 * (j : Int))) != some Ordering.eq) = false := by rw [order_self, isNan_ofInt]; rfl
      have hne2 : ((((k : Int) + 2 * (j : Int) + 1) % 3 == 0) != (((k : Int) + 2 * (j : Int) + 1) % 3 == 0)) = false := by simp
      have h1 : (0 : Int) ≤ j := by omega
      have h2 : (j : Int) < n := by omega
      have h3 : (0 : Int) ≤ ((k + 2 * j : Nat) : Int) := by omega
      clear hcs hmk
      go_wp2
      go_roundw
      case rel => exact ⟨j + 1, _, by omega, by go_num, by go_num, rfl⟩
      case measure => simp [intOf]; omega
    · go_wp2
      go_ret
      obtain rfl : j = n := by omega
      exact ⟨rfl, _, rfl⟩
end Go.Proofs.YtnpccnhamohnkaaGreatDoor
