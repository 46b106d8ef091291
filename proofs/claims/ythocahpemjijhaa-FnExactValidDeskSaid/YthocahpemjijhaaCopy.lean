/-
  Contracts of the copies that the laws make of lives, laws, chains, plans and desks.
-/
import Derived.Test.YthocahpemjijhaaDesk
namespace Go.Proofs.Ythocahpemjijhaa
open Go.RowKit Fl Mem
set_option linter.unusedVariables false
set_option maxRecDepth 100000

theorem own_far' {w : World} {base g : Nat} {e : TypeId} {size n : Nat} {v : Value} {xs : List Value} (h : w.ownsRow base e size v n xs) (hg : g < base) : v.ownBlock = none ∨ v.ownBlock ≠ some g := by
  cases hv : v.ownBlock with
  | none => exact .inl rfl
  | some k =>
    refine .inr (fun he => ?_)
    injection he with he
    have := (h.lt k hv).1
    omega
/-- A store below an owned row leaves it as it is. -/
theorem own_put {w : World} {base : Nat} {e : TypeId} {size n : Nat} {v : Value} {xs : List Value} (h : w.ownsRow base e size v n xs) {p : Addr} (hp : p.block < base) (u : Value) : (w.setCell p u).ownsRow base e size v n xs :=
  h.kept (only_setCell (g := p.block) (World.grownBy.refl _ _) (.inl rfl) u) (own_far' h hp)

theorem l_toLife {a : Nat} {b : Bool} {w : World} : Calls Try.prog 157 #[.agg #[.float .f32 a, .bool b]] w fun e w' => e = .returned (.agg #[.float .f32 a, .bool b]) ∧ Below w.heap.size w w' := by
  go_enter Try.func157, Try.ntmps157
  go_wp2
  refine bodyPost_ret (results_cell_row (P := Try.prog) rfl _ _ (w.heap.size + 1) 165 _ (0, 0) _ rfl ((blk_new' _ _ _ _ (by simp)).alloc _) Try.underlying165 rfl (by kernel_rfl)) rfl ?_
  exact ⟨rfl, (by repeat (first | exact Below.refl _ _ | exact below_drewN (by assumption) _ | refine below_drewN ?_ _ | refine Below.alloc ?_ (by first | (simp; done) | (simp; omega)) _ | assumption))⟩
theorem l_toLaw {k : Int} {a b : Nat} {w : World} : Calls Try.prog 112 #[.agg #[.int .i64 k, .float .f32 a, .float .f32 b]] w fun e w' => e = .returned (.agg #[.int .i64 k, .float .f32 a, .float .f32 b]) ∧ Below w.heap.size w w' := by
  go_enter Try.func112, Try.ntmps112
  go_wp2
  refine bodyPost_ret (results_cell_row (P := Try.prog) rfl _ _ (w.heap.size + 1) 84 _ (0, 0) _ rfl ((blk_new' _ _ _ _ (by simp)).alloc _) Try.underlying84 rfl (by kernel_rfl)) rfl ?_
  exact ⟨rfl, (by repeat (first | exact Below.refl _ _ | exact below_drewN (by assumption) _ | refine below_drewN ?_ _ | refine Below.alloc ?_ (by first | (simp; done) | (simp; omega)) _ | assumption))⟩
theorem l_toPlan {a b : Int} {w : World} : Calls Try.prog 114 #[.agg #[.int .i64 a, .int .i64 b]] w fun e w' => e = .returned (.agg #[.int .i64 a, .int .i64 b]) ∧ Below w.heap.size w w' := by
  go_enter Try.func114, Try.ntmps114
  go_wp2
  refine bodyPost_ret (results_cell_row (P := Try.prog) rfl _ _ (w.heap.size + 1) 26 _ (0, 0) _ rfl ((blk_new' _ _ _ _ (by simp)).alloc _) Try.underlying26 rfl (by kernel_rfl)) rfl ?_
  exact ⟨rfl, (by repeat (first | exact Below.refl _ _ | exact below_drewN (by assumption) _ | refine below_drewN ?_ _ | refine Below.alloc ?_ (by first | (simp; done) | (simp; omega)) _ | assumption))⟩

set_option maxHeartbeats 1000000 in
theorem l_toChain {st : Int} {A : Option Addr} {n c B : Nat} {xs : List Nat} {w : World} (h : Reads w B 1 A n (fl .f32 xs)) (hB : B ≤ w.heap.size) (hn : n ≤ 1048576) :
    Calls Try.prog 113 #[.agg #[.int .i64 st, .slice A n c]] w fun e w' => ∃ g, e = .returned (.agg #[.int .i64 st, .slice (some ⟨g, 0, none⟩) n n]) ∧ w'.ownsRow w.heap.size 27 1 (.slice (some ⟨g, 0, none⟩) n n) n (fl .f32 xs) ∧ Below w.heap.size w w' := by
  have R1 := fun o1 o2 o3 => ((h.alloc hB o1).alloc (by simp; omega) o2).alloc (by simp; omega) o3
  go_enter Try.func113, Try.ntmps113
  go_wp2_with fail
  refine (toFloat32S _ _ _ xs B _ (R1 _ _ _) (by simp; omega) (by omega)).mono ?_
  rintro e w1 ⟨g, rfl, ho, hb⟩
  have B1 := (((blk_new' (w.alloc _) (w.heap.size + 1) _ _ (by simp)).alloc _).below hb (by simp) : Blk w1 (w.heap.size + 1) 85 _)
  have B2 := ((blk_new' ((w.alloc _).alloc _) (w.heap.size + 1 + 1) _ _ (by simp)).below hb (by simp) : Blk w1 (w.heap.size + 1 + 1) 85 _)
  have c0 : w1.cell? ⟨w.heap.size + 1 + 1, 0, none⟩ = some (.int .i64 st) := B2.cell 0
  have c1 : w1.cell? ⟨w.heap.size + 1 + 1, 1, none⟩ = some (.slice none 0 0) := B2.cell 1
  have f1 : w1.frozen? ⟨w.heap.size + 1 + 1, 1, none⟩ = false := B2.frozen 1
  have d0 : w1.cell? ⟨w.heap.size + 1, 0, none⟩ = some (.int .i64 0) := B1.cell 0
  have d1 : w1.cell? ⟨w.heap.size + 1, 1, none⟩ = some (.slice none 0 0) := B1.cell 1
  have e0 : w1.frozen? ⟨w.heap.size + 1, 0, none⟩ = false := B1.frozen 0
  have e1 : w1.frozen? ⟨w.heap.size + 1, 1, none⟩ = false := B1.frozen 1
  have BB1 := hide B1
  have BB2 := hide B2
  clear B1 B2
  go_wp2
  refine bodyPost_ret (results_cell_row (P := Try.prog) rfl _ _ (w.heap.size + 1) 85 _ (0, 0) _ rfl (((BB1.out.far (by simp) _).set_ 0 _).set_ 1 _) Try.underlying85 rfl (by kernel_rfl)) rfl ?_
  have hw := fun o1 o2 o3 => (((Below.refl w.heap.size w).alloc (Nat.le_refl _) o1).alloc (by simp) o2).alloc (by simp; omega) o3
  exact ⟨g, rfl, own_up (own_put (own_put (own_put ho (by first | (simp; done) | (simp; omega)) _) (by first | (simp; done) | (simp; omega)) _) (by first | (simp; done) | (simp; omega)) _) (by first | (simp; done) | (simp; omega)), ((((hw _ _ _).trans (hb.mono (by first | (simp; done) | (simp; omega)))).setCell (by first | (simp; done) | (simp; omega)) _).setCell (by first | (simp; done) | (simp; omega)) _).setCell (by first | (simp; done) | (simp; omega)) _⟩

theorem info_life : (Try.prog.info? 165).map (fun i => (i.zero, i.size, i.bytes)) = some (some (.agg #[.float .f32 0, .bool false]), 2, 8) := by kernel_rfl
/-- The cells of n lives that are empty. -/
def noLives (n : Nat) : List Value := ll (List.replicate n (0, false))
theorem noLives_made (n : Nat) : madeCells (Value.agg #[.float .f32 0, .bool false]).cells (n * 2) = (noLives n).toArray := by
  unfold madeCells noLives
  apply Array.ext_getElem?
  intro i
  rcases Nat.lt_or_ge i (n * 2) with h | h
  · have hx : (List.replicate n ((0, false) : Nat × Bool))[i / 2]? = some (0, false) := by rw [List.getElem?_replicate]; rw [if_pos (by omega)]
    obtain ⟨h1, h2⟩ := ll_at hx
    have hr : ((ll (List.replicate n (0, false))).toArray)[i]? = (ll (List.replicate n (0, false)))[i]? := by simp
    rw [hr]
    rcases Nat.mod_two_eq_zero_or_one i with hm | hm
    · rw [show i / 2 * 2 = i by omega] at h1
      rw [h1, Array.getElem?_map, Array.getElem?_range, if_pos h]
      simp [hm, Value.cells]
    · rw [show i / 2 * 2 + 1 = i by omega] at h2
      rw [h2, Array.getElem?_map, Array.getElem?_range, if_pos h]
      simp [hm, Value.cells]
  · rw [Array.getElem?_eq_none (by simp; omega), Array.getElem?_eq_none (by simp [ll_len]; omega)]
set_option maxHeartbeats 1000000 in
theorem l_toLifeS {A : Option Addr} {n c B : Nat} {xs : List (Nat × Bool)} {w : World} (h : Reads w B 2 A n (ll xs)) (hB : B ≤ w.heap.size) (hn : n ≤ 1048576) :
    Calls Try.prog 111 #[.slice A n c] w fun e w' => ∃ g, e = .returned (.slice (some ⟨g, 0, none⟩) n n) ∧ w'.ownsRow w.heap.size 165 2 (.slice (some ⟨g, 0, none⟩) n n) n (ll xs) ∧ Below w.heap.size w w' := by
  have hlen : xs.length = n := by have := h.1; rw [ll_len] at this; omega
  have Hl := hide hlen
  clear hlen
  have hmk : ∀ W : World, (Instr.makeSlice 83 (.int .i64 (n : Int)) (.int .i64 (n : Int))).run Try.prog W = .ok (.slice (some ⟨W.heap.size, 0, none⟩) n n) (W.alloc (.cells (noLives n).toArray 165)) := by
    intro W
    obtain ⟨i0, hi, hz0, hz1, hz2⟩ := info_parts info_life
    have h1 := run_make_rowN (P := Try.prog) 83 165 i0 _ Try.underlying83 hi hz0 .i64 .i64 n n (Nat.le_refl _) (by rw [hz2]; omega) (by omega) W
    rw [hz1, noLives_made] at h1
    exact h1
  have Hm : Hid ((ll xs).length = (noLives n).length) := hide (by rw [ll_len, noLives, ll_len, Hl.out]; simp)
  go_enter Try.func111, Try.ntmps111
  go_wp2
  go_loopw [4] (fun i wr => ∃ k : Nat, k ≤ n ∧ i = .int .i64 k ∧ wr.ownsRow w.heap.size 165 2 (.slice (some ⟨w.heap.size, 0, none⟩) n n) n (mix (ll xs) (noLives n) (k * 2)) ∧ Below w.heap.size w wr) (fun i _ => n - (intOf i).toNat)
  case atStart => exact ⟨0, Nat.zero_le _, rfl, by rw [Nat.zero_mul, mix_none]; exact own_of_blk2 (Blk.new _ _ _) (Nat.le_refl _) (by rw [noLives, ll_len]; simp) (by simp [maxLen]; omega), (by repeat (first | exact Below.refl _ _ | exact below_drewN (by assumption) _ | refine below_drewN ?_ _ | refine Below.alloc ?_ (by first | (simp; done) | (simp; omega)) _ | assumption))⟩
  case round =>
    obtain ⟨k, hk, rfl, hown, hbel⟩ := hrel
    have Hown := hide hown
    clear hown
    have hsz := hbel.size
    by_cases hlt : k < n
    · obtain ⟨ad, p, rfl, _, hx, hc, hc2⟩ := reads_ll (h.below (hbel.mono hB)) hlt
      have hc2b : wr.cell? ⟨(ad.add (k * 2)).block, (ad.add (k * 2)).off + 1, none⟩ = some (.bool p.2) := hc2
      have Hx := hide hx
      have i1 : (0 : Int) ≤ k := by omega
      have i2 : (k : Int) < n := by omega
      clear hx
      go_wp2_with fail
      refine l_toLife.mono ?_
      rintro e w1 ⟨rfl, hb⟩
      have hown1 := own_below Hown.out hb
      have hbel1 : Below w.heap.size w w1 := hbel.trans (hb.mono hsz)
      have Hml := hide (mix_len (i := k * 2) Hm.out (by rw [← Hm.out, ll_len, Hl.out]; omega))
      have hl2 : (noLives n).length = n * 2 := by rw [← Hm.out, ll_len, Hl.out]
      obtain ⟨u, hu⟩ : ∃ u, (mix (ll xs) (noLives n) (k * 2))[k * 2]? = some u := ⟨_, List.getElem?_eq_getElem (by rw [Hml.out, hl2]; omega)⟩
      obtain ⟨u2, hu2⟩ : ∃ u, (mix (ll xs) (noLives n) (k * 2))[k * 2 + 1]? = some u := ⟨_, List.getElem?_eq_getElem (by rw [Hml.out, hl2]; omega)⟩
      obtain ⟨g1, g2⟩ := own_cell2 hown1 hu
      obtain ⟨g3, g4⟩ := own_cell2 hown1 hu2
      have Hown1 := hide hown1
      have hsz1 := hbel1.size
      clear hu hu2 hl2 hown1 hb
      go_wp2
      go_roundw
      case rel => exact ⟨k + 1, by omega, by go_num, by
          have h9 := own_set2 (own_set2 Hown1.out (show k * 2 < n * 2 by omega) (.float .f32 p.1)) (show k * 2 + 1 < n * 2 by omega) (.bool p.2)
          have hmk := ll_at Hx.out
          rw [mix_set Hm.out hmk.1, mix_set Hm.out hmk.2] at h9
          rw [show (k + 1) * 2 = k * 2 + 1 + 1 by omega]
          exact h9, (hbel1.setCell (Nat.le_refl _) _).setCell (Nat.le_refl _) _⟩
      case measure => simp [intOf]; omega
    · go_wp2
      go_ret
      obtain rfl : k = n := by omega
      refine ⟨_, rfl, ?_, hbel⟩
      have h9 := Hown.out
      rw [show k * 2 = (noLives k).length by rw [← Hm.out, ll_len, Hl.out], mix_all Hm.out] at h9
      exact h9

theorem below_al' {w : World} {B : Nat} (h : B ≤ w.heap.size) (o : Obj) : Below B w (w.alloc o) := (Below.refl _ _).alloc h o
/-- What is left of a number; -1 if it is too little. -/
def szR (left : Int) (n : Nat) : Int := if (n : Int) ≤ left then left - n else -1
theorem szR_yes {left : Int} {n : Nat} (h : (n : Int) ≤ left) : szR left n = left - n := if_pos h
theorem szR_no {left : Int} {n : Nat} (h : ¬ (n : Int) ≤ left) : szR left n = -1 := if_neg h
theorem l_szLifeS {A : Option Addr} {n c : Nat} {left : Int} {w : World} (h0 : 0 ≤ left) (h1 : left ≤ 1048576) (hn : n ≤ 9223372036854775807) : Calls Try.prog 105 #[.slice A n c, .int .i64 left] w fun e w' => e = .returned (.int .i64 (szR left n)) ∧ w = w' := by
  by_cases h : (n : Int) ≤ left
  · have i1 : ¬ left - (n : Int) < 0 := by omega
    have Hs := hide (szR_yes h)
    go_enter Try.func105, Try.ntmps105
    go_wp2
    go_ret
    exact ⟨ret_int Hs.out.symm, rfl⟩
  · have i1 : left - (n : Int) < 0 := by omega
    have Hs := hide (szR_no h)
    go_enter Try.func105, Try.ntmps105
    go_wp2
    go_ret
    exact ⟨ret_int Hs.out.symm, rfl⟩
theorem l_szFloat32S {A : Option Addr} {n c : Nat} {left : Int} {w : World} (h0 : 0 ≤ left) (h1 : left ≤ 1048576) (hn : n ≤ 9223372036854775807) : Calls Try.prog 150 #[.slice A n c, .int .i64 left] w fun e w' => e = .returned (.int .i64 (szR left n)) ∧ w = w' := by
  by_cases h : (n : Int) ≤ left
  · have i1 : ¬ left - (n : Int) < 0 := by omega
    have Hs := hide (szR_yes h)
    go_enter Try.func150, Try.ntmps150
    go_wp2
    go_ret
    exact ⟨ret_int Hs.out.symm, rfl⟩
  · have i1 : left - (n : Int) < 0 := by omega
    have Hs := hide (szR_no h)
    go_enter Try.func150, Try.ntmps150
    go_wp2
    go_ret
    exact ⟨ret_int Hs.out.symm, rfl⟩
theorem l_szInt64S {A : Option Addr} {n c : Nat} {left : Int} {w : World} (h0 : 0 ≤ left) (h1 : left ≤ 1048576) (hn : n ≤ 9223372036854775807) : Calls Try.prog 177 #[.slice A n c, .int .i64 left] w fun e w' => e = .returned (.int .i64 (szR left n)) ∧ w = w' := by
  by_cases h : (n : Int) ≤ left
  · have i1 : ¬ left - (n : Int) < 0 := by omega
    have Hs := hide (szR_yes h)
    go_enter Try.func177, Try.ntmps177
    go_wp2
    go_ret
    exact ⟨ret_int Hs.out.symm, rfl⟩
  · have i1 : left - (n : Int) < 0 := by omega
    have Hs := hide (szR_no h)
    go_enter Try.func177, Try.ntmps177
    go_wp2
    go_ret
    exact ⟨ret_int Hs.out.symm, rfl⟩
theorem l_szChain {A : Option Addr} {n c : Nat} {st left : Int} {w : World} (h0 : 0 ≤ left) (h1 : left ≤ 1048576) (hn : n ≤ 9223372036854775807) : Calls Try.prog 106 #[.agg #[.int .i64 st, .slice A n c], .int .i64 left] w fun e w' => e = .returned (.int .i64 (szR left n)) ∧ Below w.heap.size w w' := by
  by_cases h : (n : Int) ≤ left
  · have i1 : ¬ left - (n : Int) < 0 := by omega
    have Hs := szR_yes h
    go_enter Try.func106, Try.ntmps106
    go_wp2_with (go_at_call 150; refine (l_szFloat32S h0 h1 hn).mono ?_; rintro e w' ⟨rfl, rfl⟩; rw [Hs])
    go_ret
    exact ⟨ret_int Hs.symm, (by repeat (first | exact Below.refl _ _ | exact below_drewN (by assumption) _ | refine below_drewN ?_ _ | refine Below.alloc ?_ (by first | (simp; done) | (simp; omega)) _ | assumption))⟩
  · have Hs := szR_no h
    go_enter Try.func106, Try.ntmps106
    go_wp2_with (go_at_call 150; refine (l_szFloat32S h0 h1 hn).mono ?_; rintro e w' ⟨rfl, rfl⟩; rw [Hs])
    go_ret
    exact ⟨ret_int Hs.symm, (by repeat (first | exact Below.refl _ _ | exact below_drewN (by assumption) _ | refine below_drewN ?_ _ | refine Below.alloc ?_ (by first | (simp; done) | (simp; omega)) _ | assumption))⟩

set_option maxHeartbeats 1000000 in
theorem l_szDesk {LA RA : Option Addr} {ln lc rn rc sh sc : Nat} {kd st sz ac left : Int} {w : World} (h0 : 0 ≤ left) (h1 : left ≤ 1048576) (hn : ln ≤ 9223372036854775807) (hm : rn ≤ 9223372036854775807) :
    Calls Try.prog 46 #[deskV LA ln lc kd sh sc st RA rn rc sz ac, .int .i64 left] w fun e w' => ∃ r : Int, e = .returned (.int .i64 r) ∧ (r < 0 ∨ (0 ≤ r ∧ r = left - ln - rn)) ∧ Below w.heap.size w w' := by
  by_cases h : (ln : Int) ≤ left
  · have Hs := szR_yes h
    have i0 : 0 ≤ left - (ln : Int) := by omega
    have i1 : ¬ left - (ln : Int) < 0 := by omega
    by_cases h' : (rn : Int) ≤ left - ln
    · have Hs' := szR_yes h'
      have i2 : ¬ left - (ln : Int) - (rn : Int) < 0 := by omega
      go_enter Try.func46, Try.ntmps46
      go_wp2_with (first | (go_at_call 105; refine (l_szLifeS h0 h1 hn).mono ?_; rintro e w' ⟨rfl, rfl⟩; rw [Hs]) | (go_at_call 106; refine (l_szChain i0 (by omega) hm).mono ?_; rintro e w1 ⟨rfl, hb⟩; rw [Hs']))
      go_ret
      exact ⟨_, rfl, .inr ⟨by omega, rfl⟩, (below_al' (Nat.le_refl _) _).trans (hb.mono (by simp))⟩
    · have Hs' := szR_no h'
      go_enter Try.func46, Try.ntmps46
      go_wp2_with (first | (go_at_call 105; refine (l_szLifeS h0 h1 hn).mono ?_; rintro e w' ⟨rfl, rfl⟩; rw [Hs]) | (go_at_call 106; refine (l_szChain i0 (by omega) hm).mono ?_; rintro e w1 ⟨rfl, hb⟩; rw [Hs']))
      go_ret
      exact ⟨_, rfl, .inl (by omega), (below_al' (Nat.le_refl _) _).trans (hb.mono (by simp))⟩
  · have Hs := szR_no h
    go_enter Try.func46, Try.ntmps46
    go_wp2_with (go_at_call 105; refine (l_szLifeS h0 h1 hn).mono ?_; rintro e w' ⟨rfl, rfl⟩; rw [Hs])
    go_ret
    exact ⟨_, rfl, .inl (by omega), (by repeat (first | exact Below.refl _ _ | exact below_drewN (by assumption) _ | refine below_drewN ?_ _ | refine Below.alloc ?_ (by first | (simp; done) | (simp; omega)) _ | assumption))⟩

set_option maxHeartbeats 4000000 in
theorem l_toDesk {LA RA : Option Addr} {ln lc rn rc sh sc B : Nat} {kd st sz ac : Int} {xs : List (Nat × Bool)} {rs : List Nat} {w : World} (h1 : Reads w B 2 LA ln (ll xs)) (h2 : Reads w B 1 RA rn (fl .f32 rs)) (hB : B ≤ w.heap.size) (hn : ln ≤ 1048576) (hm : rn ≤ 1048576) :
    Calls Try.prog 48 #[deskV LA ln lc kd sh sc st RA rn rc sz ac] w fun e w' => ∃ g1 g2, e = .returned (deskV (some ⟨g1, 0, none⟩) ln ln kd sh sc st (some ⟨g2, 0, none⟩) rn rn sz ac) ∧
      w'.ownsRow w.heap.size 165 2 (.slice (some ⟨g1, 0, none⟩) ln ln) ln (ll xs) ∧ w'.ownsRow w.heap.size 27 1 (.slice (some ⟨g2, 0, none⟩) rn rn) rn (fl .f32 rs) ∧ Below w.heap.size w w' := by
  have R1 := fun o1 o2 o3 => ((h1.alloc hB o1).alloc (by simp; omega) o2).alloc (by simp; omega) o3
  have R2 := fun o1 o2 o3 => ((h2.alloc hB o1).alloc (by simp; omega) o2).alloc (by simp; omega) o3
  go_enter Try.func48, Try.ntmps48
  go_wp2_with fail
  refine (l_toLifeS (R1 _ _ _) (by simp; omega) hn).mono ?_
  rintro e w1 ⟨g1, rfl, ho1, hb1⟩
  have HA : Hid (Blk w1 (w.heap.size) 80 #[.slice LA ln lc, .int .i64 kd, .float .f32 sh, .float .f32 sc, .int .i64 st, .slice RA rn rc, .int .i64 sz, .int .i64 ac]) := hide ((((blk_new' w (w.heap.size) _ _ rfl).alloc _).alloc _).below hb1 (by first | (simp; done) | (simp; omega)))
  have HR : Hid (Blk w1 (w.heap.size + 1) 87 #[.slice none 0 0, .int .i64 0, .float .f32 0, .float .f32 0, .int .i64 0, .slice none 0 0, .int .i64 0, .int .i64 0]) := hide (((blk_new' (w.alloc _) (w.heap.size + 1) _ _ (by first | (simp; done) | (simp; omega))).alloc _).below hb1 (by first | (simp; done) | (simp; omega)))
  have HO : Hid (Blk w1 (w.heap.size + 1 + 1) 87 #[.slice none 0 0, .int .i64 0, .float .f32 0, .float .f32 0, .int .i64 0, .slice none 0 0, .int .i64 0, .int .i64 0]) := hide ((blk_new' ((w.alloc _).alloc _) (w.heap.size + 1 + 1) _ _ (by first | (simp; done) | (simp; omega))).below hb1 (by first | (simp; done) | (simp; omega)))
  have hw1 : Below w.heap.size w w1 := Below.trans ((((Below.refl w.heap.size w).alloc (Nat.le_refl _) _).alloc (by first | (simp; done) | (simp; omega)) _).alloc (by first | (simp; done) | (simp; omega)) _) (hb1.mono (by first | (simp; done) | (simp; omega)))
  have hs1 : w.heap.size + 3 ≤ w1.heap.size := by have := hb1.size; simp at this; omega
  have hl1 := hide (own_up ho1 (show w.heap.size + 3 ≤ _ by simp))
  have HR2 := hide ((R2 _ _ _).below (hb1.mono (by first | (simp; done) | (simp; omega))))
  clear hb1 ho1 R1 R2
  have p1 : w1.cell? ⟨w.heap.size, 1, none⟩ = some (.int .i64 kd) := HA.out.cell 1
  have p2 : w1.cell? ⟨w.heap.size, 2, none⟩ = some (.float .f32 sh) := HA.out.cell 2
  have p3 : w1.cell? ⟨w.heap.size, 3, none⟩ = some (.float .f32 sc) := HA.out.cell 3
  have o0 : w1.cell? ⟨w.heap.size + 1 + 1, 0, none⟩ = some (.slice none 0 0) := HO.out.cell 0
  have of0 : w1.frozen? ⟨w.heap.size + 1 + 1, 0, none⟩ = false := HO.out.frozen 0
  go_wp2_with fail
  refine l_toLaw.mono ?_
  rintro e w2 ⟨rfl, hb2⟩
  clear p1 p2 p3 o0 of0
  replace HA : Hid (Blk w2 (w.heap.size) 80 #[.slice LA ln lc, .int .i64 kd, .float .f32 sh, .float .f32 sc, .int .i64 st, .slice RA rn rc, .int .i64 sz, .int .i64 ac]) := hide (Blk.below ((HA.out.far (by first | (simp; done) | (simp; omega)) _)) hb2 (by first | (simp; done) | (simp; omega)))
  replace HR : Hid (Blk w2 (w.heap.size + 1) 87 #[.slice none 0 0, .int .i64 0, .float .f32 0, .float .f32 0, .int .i64 0, .slice none 0 0, .int .i64 0, .int .i64 0]) := hide (Blk.below ((HR.out.far (by first | (simp; done) | (simp; omega)) _)) hb2 (by first | (simp; done) | (simp; omega)))
  replace HO : Hid (Blk w2 (w.heap.size + 1 + 1) 87 #[.slice (some ⟨g1, 0, none⟩) ln ln, .int .i64 0, .float .f32 0, .float .f32 0, .int .i64 0, .slice none 0 0, .int .i64 0, .int .i64 0]) := hide (Blk.below ((HO.out.set_ 0 _)) hb2 (by first | (simp; done) | (simp; omega)))
  have hw2 : Below w.heap.size w w2 := (hw1.setCell (by first | (simp; done) | (simp; omega)) _).trans (hb2.mono (by first | (simp; done) | (simp; omega)))
  have hs2 : w.heap.size + 3 ≤ w2.heap.size := by have := hb2.size; simp at this; omega
  have hl2 := hide (own_below (own_put hl1.out (by first | (simp; done) | (simp; omega)) _) hb2)
  replace HR2 := hide ((HR2.out.setCell (by first | (simp; done) | (simp; omega)) _).below (hb2.mono (by first | (simp; done) | (simp; omega))))
  clear hb2 hw1 hl1
  have p4 : w2.cell? ⟨w.heap.size, 4, none⟩ = some (.int .i64 st) := HA.out.cell 4
  have p5 : w2.cell? ⟨w.heap.size, 5, none⟩ = some (.slice RA rn rc) := HA.out.cell 5
  have o1 : w2.cell? ⟨w.heap.size + 1 + 1, 1, none⟩ = some (.int .i64 0) := HO.out.cell 1
  have of1 : w2.frozen? ⟨w.heap.size + 1 + 1, 1, none⟩ = false := HO.out.frozen 1
  have o2 : w2.cell? ⟨w.heap.size + 1 + 1, 2, none⟩ = some (.float .f32 0) := HO.out.cell 2
  have of2 : w2.frozen? ⟨w.heap.size + 1 + 1, 2, none⟩ = false := HO.out.frozen 2
  have o3 : w2.cell? ⟨w.heap.size + 1 + 1, 3, none⟩ = some (.float .f32 0) := HO.out.cell 3
  have of3 : w2.frozen? ⟨w.heap.size + 1 + 1, 3, none⟩ = false := HO.out.frozen 3
  go_wp2_with fail
  refine (l_toChain (B := B) (xs := rs) (((HR2.out.setCell (by first | (simp; done) | (simp; omega)) _).setCell (by first | (simp; done) | (simp; omega)) _).setCell (by first | (simp; done) | (simp; omega)) _) (by first | (simp; done) | (simp; omega)) hm).mono ?_
  rintro e w3 ⟨g2, rfl, ho3, hb3⟩
  clear p4 p5 o1 of1 o2 of2 o3 of3
  replace HA : Hid (Blk w3 (w.heap.size) 80 #[.slice LA ln lc, .int .i64 kd, .float .f32 sh, .float .f32 sc, .int .i64 st, .slice RA rn rc, .int .i64 sz, .int .i64 ac]) := hide (Blk.below ((((HA.out.far (by first | (simp; done) | (simp; omega)) _).far (by first | (simp; done) | (simp; omega)) _).far (by first | (simp; done) | (simp; omega)) _)) hb3 (by first | (simp; done) | (simp; omega)))
  replace HR : Hid (Blk w3 (w.heap.size + 1) 87 #[.slice none 0 0, .int .i64 0, .float .f32 0, .float .f32 0, .int .i64 0, .slice none 0 0, .int .i64 0, .int .i64 0]) := hide (Blk.below ((((HR.out.far (by first | (simp; done) | (simp; omega)) _).far (by first | (simp; done) | (simp; omega)) _).far (by first | (simp; done) | (simp; omega)) _)) hb3 (by first | (simp; done) | (simp; omega)))
  replace HO : Hid (Blk w3 (w.heap.size + 1 + 1) 87 #[.slice (some ⟨g1, 0, none⟩) ln ln, .int .i64 kd, .float .f32 sh, .float .f32 sc, .int .i64 0, .slice none 0 0, .int .i64 0, .int .i64 0]) := hide (Blk.below ((((HO.out.set_ 1 _).set_ 2 _).set_ 3 _)) hb3 (by first | (simp; done) | (simp; omega)))
  have hw3 : Below w.heap.size w w3 := (((hw2.setCell (by first | (simp; done) | (simp; omega)) _).setCell (by first | (simp; done) | (simp; omega)) _).setCell (by first | (simp; done) | (simp; omega)) _).trans (hb3.mono (by first | (simp; done) | (simp; omega)))
  have hs3 : w.heap.size + 3 ≤ w3.heap.size := by have := hb3.size; simp at this; omega
  have hl3 := hide (own_below (own_put (own_put (own_put hl2.out (by first | (simp; done) | (simp; omega)) _) (by first | (simp; done) | (simp; omega)) _) (by first | (simp; done) | (simp; omega)) _) hb3)
  have hr3 := hide (own_up ho3 (show w.heap.size + 3 ≤ _ by simp; omega))
  clear hb3 hw2 hl2 ho3 HR2
  have p6 : w3.cell? ⟨w.heap.size, 6, none⟩ = some (.int .i64 sz) := HA.out.cell 6
  have p7 : w3.cell? ⟨w.heap.size, 7, none⟩ = some (.int .i64 ac) := HA.out.cell 7
  have o4 : w3.cell? ⟨w.heap.size + 1 + 1, 4, none⟩ = some (.int .i64 0) := HO.out.cell 4
  have of4 : w3.frozen? ⟨w.heap.size + 1 + 1, 4, none⟩ = false := HO.out.frozen 4
  have o5 : w3.cell? ⟨w.heap.size + 1 + 1, 5, none⟩ = some (.slice none 0 0) := HO.out.cell 5
  have of5 : w3.frozen? ⟨w.heap.size + 1 + 1, 5, none⟩ = false := HO.out.frozen 5
  go_wp2_with fail
  refine l_toPlan.mono ?_
  rintro e w4 ⟨rfl, hb4⟩
  clear p6 p7 o4 of4 o5 of5
  replace HA : Hid (Blk w4 (w.heap.size) 80 #[.slice LA ln lc, .int .i64 kd, .float .f32 sh, .float .f32 sc, .int .i64 st, .slice RA rn rc, .int .i64 sz, .int .i64 ac]) := hide (Blk.below (((HA.out.far (by first | (simp; done) | (simp; omega)) _).far (by first | (simp; done) | (simp; omega)) _)) hb4 (by first | (simp; done) | (simp; omega)))
  replace HR : Hid (Blk w4 (w.heap.size + 1) 87 #[.slice none 0 0, .int .i64 0, .float .f32 0, .float .f32 0, .int .i64 0, .slice none 0 0, .int .i64 0, .int .i64 0]) := hide (Blk.below (((HR.out.far (by first | (simp; done) | (simp; omega)) _).far (by first | (simp; done) | (simp; omega)) _)) hb4 (by first | (simp; done) | (simp; omega)))
  replace HO : Hid (Blk w4 (w.heap.size + 1 + 1) 87 #[.slice (some ⟨g1, 0, none⟩) ln ln, .int .i64 kd, .float .f32 sh, .float .f32 sc, .int .i64 st, .slice (some ⟨g2, 0, none⟩) rn rn, .int .i64 0, .int .i64 0]) := hide (Blk.below (((HO.out.set_ 4 _).set_ 5 _)) hb4 (by first | (simp; done) | (simp; omega)))
  have hw4 : Below w.heap.size w w4 := ((hw3.setCell (by first | (simp; done) | (simp; omega)) _).setCell (by first | (simp; done) | (simp; omega)) _).trans (hb4.mono (by first | (simp; done) | (simp; omega)))
  have hs4 : w.heap.size + 3 ≤ w4.heap.size := by have := hb4.size; simp at this; omega
  have hl4 := hide (own_below (own_put (own_put hl3.out (by first | (simp; done) | (simp; omega)) _) (by first | (simp; done) | (simp; omega)) _) hb4)
  have hr4 := hide (own_below (own_put (own_put hr3.out (by first | (simp; done) | (simp; omega)) _) (by first | (simp; done) | (simp; omega)) _) hb4)
  clear hb4 hw3 hl3 hr3
  have o0 : w4.cell? ⟨w.heap.size + 1 + 1, 0, none⟩ = some (.slice (some ⟨g1, 0, none⟩) ln ln) := HO.out.cell 0
  have of0 : w4.frozen? ⟨w.heap.size + 1 + 1, 0, none⟩ = false := HO.out.frozen 0
  have o1 : w4.cell? ⟨w.heap.size + 1 + 1, 1, none⟩ = some (.int .i64 kd) := HO.out.cell 1
  have of1 : w4.frozen? ⟨w.heap.size + 1 + 1, 1, none⟩ = false := HO.out.frozen 1
  have o2 : w4.cell? ⟨w.heap.size + 1 + 1, 2, none⟩ = some (.float .f32 sh) := HO.out.cell 2
  have of2 : w4.frozen? ⟨w.heap.size + 1 + 1, 2, none⟩ = false := HO.out.frozen 2
  have o3 : w4.cell? ⟨w.heap.size + 1 + 1, 3, none⟩ = some (.float .f32 sc) := HO.out.cell 3
  have of3 : w4.frozen? ⟨w.heap.size + 1 + 1, 3, none⟩ = false := HO.out.frozen 3
  have o4 : w4.cell? ⟨w.heap.size + 1 + 1, 4, none⟩ = some (.int .i64 st) := HO.out.cell 4
  have of4 : w4.frozen? ⟨w.heap.size + 1 + 1, 4, none⟩ = false := HO.out.frozen 4
  have o5 : w4.cell? ⟨w.heap.size + 1 + 1, 5, none⟩ = some (.slice (some ⟨g2, 0, none⟩) rn rn) := HO.out.cell 5
  have of5 : w4.frozen? ⟨w.heap.size + 1 + 1, 5, none⟩ = false := HO.out.frozen 5
  have o6 : w4.cell? ⟨w.heap.size + 1 + 1, 6, none⟩ = some (.int .i64 0) := HO.out.cell 6
  have of6 : w4.frozen? ⟨w.heap.size + 1 + 1, 6, none⟩ = false := HO.out.frozen 6
  have o7 : w4.cell? ⟨w.heap.size + 1 + 1, 7, none⟩ = some (.int .i64 0) := HO.out.cell 7
  have of7 : w4.frozen? ⟨w.heap.size + 1 + 1, 7, none⟩ = false := HO.out.frozen 7
  have q0 : w4.cell? ⟨w.heap.size + 1, 0, none⟩ = some (.slice none 0 0) := HR.out.cell 0
  have qf0 : w4.frozen? ⟨w.heap.size + 1, 0, none⟩ = false := HR.out.frozen 0
  have q1 : w4.cell? ⟨w.heap.size + 1, 1, none⟩ = some (.int .i64 0) := HR.out.cell 1
  have qf1 : w4.frozen? ⟨w.heap.size + 1, 1, none⟩ = false := HR.out.frozen 1
  have q2 : w4.cell? ⟨w.heap.size + 1, 2, none⟩ = some (.float .f32 0) := HR.out.cell 2
  have qf2 : w4.frozen? ⟨w.heap.size + 1, 2, none⟩ = false := HR.out.frozen 2
  have q3 : w4.cell? ⟨w.heap.size + 1, 3, none⟩ = some (.float .f32 0) := HR.out.cell 3
  have qf3 : w4.frozen? ⟨w.heap.size + 1, 3, none⟩ = false := HR.out.frozen 3
  have q4 : w4.cell? ⟨w.heap.size + 1, 4, none⟩ = some (.int .i64 0) := HR.out.cell 4
  have qf4 : w4.frozen? ⟨w.heap.size + 1, 4, none⟩ = false := HR.out.frozen 4
  have q5 : w4.cell? ⟨w.heap.size + 1, 5, none⟩ = some (.slice none 0 0) := HR.out.cell 5
  have qf5 : w4.frozen? ⟨w.heap.size + 1, 5, none⟩ = false := HR.out.frozen 5
  have q6 : w4.cell? ⟨w.heap.size + 1, 6, none⟩ = some (.int .i64 0) := HR.out.cell 6
  have qf6 : w4.frozen? ⟨w.heap.size + 1, 6, none⟩ = false := HR.out.frozen 6
  have q7 : w4.cell? ⟨w.heap.size + 1, 7, none⟩ = some (.int .i64 0) := HR.out.cell 7
  have qf7 : w4.frozen? ⟨w.heap.size + 1, 7, none⟩ = false := HR.out.frozen 7
  go_wp2
  refine bodyPost_ret (results_cell_row (P := Try.prog) rfl _ _ (w.heap.size + 1) 87 #[.slice (some ⟨g1, 0, none⟩) ln ln, .int .i64 kd, .float .f32 sh, .float .f32 sc, .int .i64 st, .slice (some ⟨g2, 0, none⟩) rn rn, .int .i64 sz, .int .i64 ac] (0, 0) _ rfl ?_ Try.underlying87 rfl (by kernel_rfl)) rfl ?_
  · exact ((((((((((HR.out.far (by first | (simp; done) | (simp; omega)) _).far (by first | (simp; done) | (simp; omega)) _).set_ 0 _).set_ 1 _).set_ 2 _).set_ 3 _).set_ 4 _).set_ 5 _).set_ 6 _).set_ 7 _)
  · exact ⟨g1, g2, rfl, own_up (own_put (own_put (own_put (own_put (own_put (own_put (own_put (own_put (own_put (own_put hl4.out (by first | (simp; done) | (simp; omega)) _) (by first | (simp; done) | (simp; omega)) _) (by first | (simp; done) | (simp; omega)) _) (by first | (simp; done) | (simp; omega)) _) (by first | (simp; done) | (simp; omega)) _) (by first | (simp; done) | (simp; omega)) _) (by first | (simp; done) | (simp; omega)) _) (by first | (simp; done) | (simp; omega)) _) (by first | (simp; done) | (simp; omega)) _) (by first | (simp; done) | (simp; omega)) _) (by omega), own_up (own_put (own_put (own_put (own_put (own_put (own_put (own_put (own_put (own_put (own_put hr4.out (by first | (simp; done) | (simp; omega)) _) (by first | (simp; done) | (simp; omega)) _) (by first | (simp; done) | (simp; omega)) _) (by first | (simp; done) | (simp; omega)) _) (by first | (simp; done) | (simp; omega)) _) (by first | (simp; done) | (simp; omega)) _) (by first | (simp; done) | (simp; omega)) _) (by first | (simp; done) | (simp; omega)) _) (by first | (simp; done) | (simp; omega)) _) (by first | (simp; done) | (simp; omega)) _) (by omega), ((((((((((hw4.setCell (by first | (simp; done) | (simp; omega)) _).setCell (by first | (simp; done) | (simp; omega)) _).setCell (by first | (simp; done) | (simp; omega)) _).setCell (by first | (simp; done) | (simp; omega)) _).setCell (by first | (simp; done) | (simp; omega)) _).setCell (by first | (simp; done) | (simp; omega)) _).setCell (by first | (simp; done) | (simp; omega)) _).setCell (by first | (simp; done) | (simp; omega)) _).setCell (by first | (simp; done) | (simp; omega)) _).setCell (by first | (simp; done) | (simp; omega)) _)⟩
end Go.Proofs.Ythocahpemjijhaa
