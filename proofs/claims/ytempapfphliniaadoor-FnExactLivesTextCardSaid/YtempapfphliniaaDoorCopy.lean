/-
  Contracts of the copies that the laws make of lives, laws, chains, plans and desks.
-/
import Derived.Test.YtempapfphliniaaDoorDesk
namespace Go.Proofs.YtempapfphliniaaDoor
open Go.RowKit Fl Mem
set_option linter.unusedVariables false
set_option maxRecDepth 100000

theorem own_far' {w : World} {base g : Nat} {e : TypeId} {size n : Nat} {v : Value} {xs : List Value} (h : w.ownsRow base e size v n xs) (hg : g < base) : v.ownBlock = none ∨ v.ownBlock ≠ some g := by
  cases hv : v.ownBlock with
  | none => exact .inl rfl
  | some k =>
    refine .inr (fun he => ?_)
    injection he with he
    have := (h.lt k hv).1
    omega
/-- A store below an owned row leaves it as it is. -/
theorem own_put {w : World} {base : Nat} {e : TypeId} {size n : Nat} {v : Value} {xs : List Value} (h : w.ownsRow base e size v n xs) {p : Addr} (hp : p.block < base) (u : Value) : (w.setCell p u).ownsRow base e size v n xs :=
  h.kept (only_setCell (g := p.block) (World.grownBy.refl _ _) (.inl rfl) u) (own_far' h hp)

theorem l_toLife {a : Nat} {b : Bool} {w : World} : Calls Tryd.prog 50 #[.agg #[.float .f32 a, .bool b]] w fun e w' => e = .returned (.agg #[.float .f32 a, .bool b]) ∧ Below w.heap.size w w' := by
  go_enter Tryd.func50, Tryd.ntmps50
  go_wp2
  refine bodyPost_ret (results_cell_row (P := Tryd.prog) rfl _ _ (w.heap.size + 1) 88 _ (0, 0) _ rfl ((blk_new' _ _ _ _ (by simp)).alloc _) Tryd.underlying88 rfl (by kernel_rfl)) rfl ?_
  exact ⟨rfl, (by repeat (first | exact Below.refl _ _ | exact below_drewN (by assumption) _ | refine below_drewN ?_ _ | refine Below.alloc ?_ (by first | (simp; done) | (simp; omega)) _ | assumption))⟩
theorem l_toLaw {k : Int} {a b : Nat} {w : World} : Calls Tryd.prog 19 #[.agg #[.int .i64 k, .float .f32 a, .float .f32 b]] w fun e w' => e = .returned (.agg #[.int .i64 k, .float .f32 a, .float .f32 b]) ∧ Below w.heap.size w w' := by
  go_enter Tryd.func19, Tryd.ntmps19
  go_wp2
  refine bodyPost_ret (results_cell_row (P := Tryd.prog) rfl _ _ (w.heap.size + 1) 36 _ (0, 0) _ rfl ((blk_new' _ _ _ _ (by simp)).alloc _) Tryd.underlying36 rfl (by kernel_rfl)) rfl ?_
  exact ⟨rfl, (by repeat (first | exact Below.refl _ _ | exact below_drewN (by assumption) _ | refine below_drewN ?_ _ | refine Below.alloc ?_ (by first | (simp; done) | (simp; omega)) _ | assumption))⟩
set_option maxHeartbeats 1000000 in
theorem l_toChain {st : Int} {A : Option Addr} {n c B : Nat} {xs : List Nat} {w : World} (h : Reads w B 1 A n (fl .f32 xs)) (hB : B ≤ w.heap.size) (hn : n ≤ 1048576) :
    Calls Tryd.prog 28 #[.agg #[.int .i64 st, .slice A n c]] w fun e w' => ∃ g, e = .returned (.agg #[.int .i64 st, .slice (some ⟨g, 0, none⟩) n n]) ∧ w'.ownsRow w.heap.size 32 1 (.slice (some ⟨g, 0, none⟩) n n) n (fl .f32 xs) ∧ Below w.heap.size w w' := by
  have R1 := fun o1 o2 o3 => ((h.alloc hB o1).alloc (by simp; omega) o2).alloc (by simp; omega) o3
  go_enter Tryd.func28, Tryd.ntmps28
  go_wp2_with fail
  refine (toFloat32S _ _ _ xs B _ (R1 _ _ _) (by simp; omega) (by omega)).mono ?_
  rintro e w1 ⟨g, rfl, ho, hb⟩
  have B1 := (((blk_new' (w.alloc _) (w.heap.size + 1) _ _ (by simp)).alloc _).below hb (by simp) : Blk w1 (w.heap.size + 1) 51 _)
  have B2 := ((blk_new' ((w.alloc _).alloc _) (w.heap.size + 1 + 1) _ _ (by simp)).below hb (by simp) : Blk w1 (w.heap.size + 1 + 1) 51 _)
  have c0 : w1.cell? ⟨w.heap.size + 1 + 1, 0, none⟩ = some (.int .i64 st) := B2.cell 0
  have c1 : w1.cell? ⟨w.heap.size + 1 + 1, 1, none⟩ = some (.slice none 0 0) := B2.cell 1
  have f1 : w1.frozen? ⟨w.heap.size + 1 + 1, 1, none⟩ = false := B2.frozen 1
  have d0 : w1.cell? ⟨w.heap.size + 1, 0, none⟩ = some (.int .i64 0) := B1.cell 0
  have d1 : w1.cell? ⟨w.heap.size + 1, 1, none⟩ = some (.slice none 0 0) := B1.cell 1
  have e0 : w1.frozen? ⟨w.heap.size + 1, 0, none⟩ = false := B1.frozen 0
  have e1 : w1.frozen? ⟨w.heap.size + 1, 1, none⟩ = false := B1.frozen 1
  have BB1 := hide B1
  have BB2 := hide B2
  clear B1 B2
  go_wp2
  refine bodyPost_ret (results_cell_row (P := Tryd.prog) rfl _ _ (w.heap.size + 1) 51 _ (0, 0) _ rfl (((BB1.out.far (by simp) _).set_ 0 _).set_ 1 _) Tryd.underlying51 rfl (by kernel_rfl)) rfl ?_
  have hw := fun o1 o2 o3 => (((Below.refl w.heap.size w).alloc (Nat.le_refl _) o1).alloc (by simp) o2).alloc (by simp; omega) o3
  exact ⟨g, rfl, own_up (own_put (own_put (own_put ho (by first | (simp; done) | (simp; omega)) _) (by first | (simp; done) | (simp; omega)) _) (by first | (simp; done) | (simp; omega)) _) (by first | (simp; done) | (simp; omega)), ((((hw _ _ _).trans (hb.mono (by first | (simp; done) | (simp; omega)))).setCell (by first | (simp; done) | (simp; omega)) _).setCell (by first | (simp; done) | (simp; omega)) _).setCell (by first | (simp; done) | (simp; omega)) _⟩

theorem info_life : (Tryd.prog.info? 88).map (fun i => (i.zero, i.size, i.bytes)) = some (some (.agg #[.float .f32 0, .bool false]), 2, 8) := by kernel_rfl
/-- The cells of n lives that are empty. -/
def noLives (n : Nat) : List Value := ll (List.replicate n (0, false))
theorem noLives_made (n : Nat) : madeCells (Value.agg #[.float .f32 0, .bool false]).cells (n * 2) = (noLives n).toArray := by
  unfold madeCells noLives
  apply Array.ext_getElem?
  intro i
  rcases Nat.lt_or_ge i (n * 2) with h | h
  · have hx : (List.replicate n ((0, false) : Nat × Bool))[i / 2]? = some (0, false) := by rw [List.getElem?_replicate]; rw [if_pos (by omega)]
    obtain ⟨h1, h2⟩ := ll_at hx
    have hr : ((ll (List.replicate n (0, false))).toArray)[i]? = (ll (List.replicate n (0, false)))[i]? := by simp
    rw [hr]
    rcases Nat.mod_two_eq_zero_or_one i with hm | hm
    · rw [show i / 2 * 2 = i by omega] at h1
      rw [h1, Array.getElem?_map, Array.getElem?_range, if_pos h]
      simp [hm, Value.cells]
    · rw [show i / 2 * 2 + 1 = i by omega] at h2
      rw [h2, Array.getElem?_map, Array.getElem?_range, if_pos h]
      simp [hm, Value.cells]
  · rw [Array.getElem?_eq_none (by simp; omega), Array.getElem?_eq_none (by simp [ll_len]; omega)]
set_option maxHeartbeats 1000000 in
theorem l_toLifeS {A : Option Addr} {n c B : Nat} {xs : List (Nat × Bool)} {w : World} (h : Reads w B 2 A n (ll xs)) (hB : B ≤ w.heap.size) (hn : n ≤ 1048576) :
    Calls Tryd.prog 23 #[.slice A n c] w fun e w' => ∃ g, e = .returned (.slice (some ⟨g, 0, none⟩) n n) ∧ w'.ownsRow w.heap.size 88 2 (.slice (some ⟨g, 0, none⟩) n n) n (ll xs) ∧ Below w.heap.size w w' := by
  have hlen : xs.length = n := by have := h.1; rw [ll_len] at this; omega
  have Hl := hide hlen
  clear hlen
  have hmk : ∀ W : World, (Instr.makeSlice 42 (.int .i64 (n : Int)) (.int .i64 (n : Int))).run Tryd.prog W = .ok (.slice (some ⟨W.heap.size, 0, none⟩) n n) (W.alloc (.cells (noLives n).toArray 88)) := by
    intro W
    obtain ⟨i0, hi, hz0, hz1, hz2⟩ := info_parts info_life
    have h1 := run_make_rowN (P := Tryd.prog) 42 88 i0 _ Tryd.underlying42 hi hz0 .i64 .i64 n n (Nat.le_refl _) (by rw [hz2]; omega) (by omega) W
    rw [hz1, noLives_made] at h1
    exact h1
  have Hm : Hid ((ll xs).length = (noLives n).length) := hide (by rw [ll_len, noLives, ll_len, Hl.out]; simp)
  go_enter Tryd.func23, Tryd.ntmps23
  go_wp2
  go_loopw [4] (fun i wr => ∃ k : Nat, k ≤ n ∧ i = .int .i64 k ∧ wr.ownsRow w.heap.size 88 2 (.slice (some ⟨w.heap.size, 0, none⟩) n n) n (mix (ll xs) (noLives n) (k * 2)) ∧ Below w.heap.size w wr) (fun i _ => n - (intOf i).toNat)
  case atStart => exact ⟨0, Nat.zero_le _, rfl, by rw [Nat.zero_mul, mix_none]; exact own_of_blk2 (Blk.new _ _ _) (Nat.le_refl _) (by rw [noLives, ll_len]; simp) (by simp [maxLen]; omega), (by repeat (first | exact Below.refl _ _ | exact below_drewN (by assumption) _ | refine below_drewN ?_ _ | refine Below.alloc ?_ (by first | (simp; done) | (simp; omega)) _ | assumption))⟩
  case round =>
    obtain ⟨k, hk, rfl, hown, hbel⟩ := hrel
    have Hown := hide hown
    clear hown
    have hsz := hbel.size
    by_cases hlt : k < n
    · obtain ⟨ad, p, rfl, _, hx, hc, hc2⟩ := reads_ll (h.below (hbel.mono hB)) hlt
      have hc2b : wr.cell? ⟨(ad.add (k * 2)).block, (ad.add (k * 2)).off + 1, none⟩ = some (.bool p.2) := hc2
      have Hx := hide hx
      have i1 : (0 : Int) ≤ k := by omega
      have i2 : (k : Int) < n := by omega
      clear hx
      go_wp2_with fail
      refine l_toLife.mono ?_
      rintro e w1 ⟨rfl, hb⟩
      have hown1 := own_below Hown.out hb
      have hbel1 : Below w.heap.size w w1 := hbel.trans (hb.mono hsz)
      have Hml := hide (mix_len (i := k * 2) Hm.out (by rw [← Hm.out, ll_len, Hl.out]; omega))
      have hl2 : (noLives n).length = n * 2 := by rw [← Hm.out, ll_len, Hl.out]
      obtain ⟨u, hu⟩ : ∃ u, (mix (ll xs) (noLives n) (k * 2))[k * 2]? = some u := ⟨_, List.getElem?_eq_getElem (by rw [Hml.out, hl2]; omega)⟩
      obtain ⟨u2, hu2⟩ : ∃ u, (mix (ll xs) (noLives n) (k * 2))[k * 2 + 1]? = some u := ⟨_, List.getElem?_eq_getElem (by rw [Hml.out, hl2]; omega)⟩
      obtain ⟨g1, g2⟩ := own_cell2 hown1 hu
      obtain ⟨g3, g4⟩ := own_cell2 hown1 hu2
      have Hown1 := hide hown1
      have hsz1 := hbel1.size
      clear hu hu2 hl2 hown1 hb
      go_wp2
      go_roundw
      case rel => exact ⟨k + 1, by omega, by go_num, by
          have h9 := own_set2 (own_set2 Hown1.out (show k * 2 < n * 2 by omega) (.float .f32 p.1)) (show k * 2 + 1 < n * 2 by omega) (.bool p.2)
          have hmk := ll_at Hx.out
          rw [mix_set Hm.out hmk.1, mix_set Hm.out hmk.2] at h9
          rw [show (k + 1) * 2 = k * 2 + 1 + 1 by omega]
          exact h9, (hbel1.setCell (Nat.le_refl _) _).setCell (Nat.le_refl _) _⟩
      case measure => simp [intOf]; omega
    · go_wp2
      go_ret
      obtain rfl : k = n := by omega
      refine ⟨_, rfl, ?_, hbel⟩
      have h9 := Hown.out
      rw [show k * 2 = (noLives k).length by rw [← Hm.out, ll_len, Hl.out], mix_all Hm.out] at h9
      exact h9

theorem below_al' {w : World} {B : Nat} (h : B ≤ w.heap.size) (o : Obj) : Below B w (w.alloc o) := (Below.refl _ _).alloc h o
/-- What is left of a number; -1 if it is too little. -/
def szR (left : Int) (n : Nat) : Int := if (n : Int) ≤ left then left - n else -1
theorem szR_yes {left : Int} {n : Nat} (h : (n : Int) ≤ left) : szR left n = left - n := if_pos h
theorem szR_no {left : Int} {n : Nat} (h : ¬ (n : Int) ≤ left) : szR left n = -1 := if_neg h
theorem l_szLifeS {A : Option Addr} {n c : Nat} {left : Int} {w : World} (h0 : 0 ≤ left) (h1 : left ≤ 1048576) (hn : n ≤ 9223372036854775807) : Calls Tryd.prog 21 #[.slice A n c, .int .i64 left] w fun e w' => e = .returned (.int .i64 (szR left n)) ∧ w = w' := by
  by_cases h : (n : Int) ≤ left
  · have i1 : ¬ left - (n : Int) < 0 := by omega
    have Hs := hide (szR_yes h)
    go_enter Tryd.func21, Tryd.ntmps21
    go_wp2
    go_ret
    exact ⟨ret_int Hs.out.symm, rfl⟩
  · have i1 : left - (n : Int) < 0 := by omega
    have Hs := hide (szR_no h)
    go_enter Tryd.func21, Tryd.ntmps21
    go_wp2
    go_ret
    exact ⟨ret_int Hs.out.symm, rfl⟩
theorem l_szFloat32S {A : Option Addr} {n c : Nat} {left : Int} {w : World} (h0 : 0 ≤ left) (h1 : left ≤ 1048576) (hn : n ≤ 9223372036854775807) : Calls Tryd.prog 54 #[.slice A n c, .int .i64 left] w fun e w' => e = .returned (.int .i64 (szR left n)) ∧ w = w' := by
  by_cases h : (n : Int) ≤ left
  · have i1 : ¬ left - (n : Int) < 0 := by omega
    have Hs := hide (szR_yes h)
    go_enter Tryd.func54, Tryd.ntmps54
    go_wp2
    go_ret
    exact ⟨ret_int Hs.out.symm, rfl⟩
  · have i1 : left - (n : Int) < 0 := by omega
    have Hs := hide (szR_no h)
    go_enter Tryd.func54, Tryd.ntmps54
    go_wp2
    go_ret
    exact ⟨ret_int Hs.out.symm, rfl⟩
theorem l_szChain {A : Option Addr} {n c : Nat} {st left : Int} {w : World} (h0 : 0 ≤ left) (h1 : left ≤ 1048576) (hn : n ≤ 9223372036854775807) : Calls Tryd.prog 26 #[.agg #[.int .i64 st, .slice A n c], .int .i64 left] w fun e w' => e = .returned (.int .i64 (szR left n)) ∧ Below w.heap.size w w' := by
  by_cases h : (n : Int) ≤ left
  · have i1 : ¬ left - (n : Int) < 0 := by omega
    have Hs := szR_yes h
    go_enter Tryd.func26, Tryd.ntmps26
    go_wp2_with (go_at_call 54; refine (l_szFloat32S h0 h1 hn).mono ?_; rintro e w' ⟨rfl, rfl⟩; rw [Hs])
    go_ret
    exact ⟨ret_int Hs.symm, (by repeat (first | exact Below.refl _ _ | exact below_drewN (by assumption) _ | refine below_drewN ?_ _ | refine Below.alloc ?_ (by first | (simp; done) | (simp; omega)) _ | assumption))⟩
  · have Hs := szR_no h
    go_enter Tryd.func26, Tryd.ntmps26
    go_wp2_with (go_at_call 54; refine (l_szFloat32S h0 h1 hn).mono ?_; rintro e w' ⟨rfl, rfl⟩; rw [Hs])
    go_ret
    exact ⟨ret_int Hs.symm, (by repeat (first | exact Below.refl _ _ | exact below_drewN (by assumption) _ | refine below_drewN ?_ _ | refine Below.alloc ?_ (by first | (simp; done) | (simp; omega)) _ | assumption))⟩

end Go.Proofs.YtempapfphliniaaDoor
