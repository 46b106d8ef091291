/-
  Contracts on lists of numbers that are told, and on numbers that are greater than 0.
-/
import Derived.Test.YtolbibpmngmpdaaFin
import Derived.Test.YtolbibpmngmpdaaHelq
namespace Go.Proofs.Ytolbibpmngmpdaa
open Go.RowKit Fl Mem
set_option linter.unusedVariables false
set_option maxRecDepth 100000

/-- Is a number finite and greater than 0. -/
def pos (x : Nat) : Bool := fin .f32 x && (FloatKind.f32.format.order x 0 == some .gt)
theorem pos_cn (x : Nat) : pos (cn .f32 x) = pos x := by unfold pos; rw [fin_cn, order_cnl]
theorem areMore_1 (x : Nat) (w : World) : Calls Try.prog 116 #[.float .f32 x] w fun e w' => e = .returned (.bool (!pos x)) ∧ ∃ n, w' = w.drewN n := by
  have hp : Hid (pos x = (fin .f32 x && (FloatKind.f32.format.order x 0 == some .gt))) := hide rfl
  cases hf : fin .f32 x
  all_goals
    go_enter Try.func116, Try.ntmps116
    go_wp2_with (go_at_call 64; refine (i_IsFinite _ _).mono ?_; rintro e w' ⟨rfl, m', rfl⟩)
    go_ret
    exact ⟨ret_bool (by rw [hp.out, hf]; simp), _, rfl⟩

set_option maxHeartbeats 400000 in
theorem indexFunc_areMore (A : Option Addr) (n c : Nat) (xs : List Nat) (B : Nat) (w : World) (h : Reads w B 1 A n (fl .f32 xs)) (hn : n ≤ maxLen) :
    Calls Try.prog 142 #[.slice A n c, .func (.func 116) #[] #[]] w fun e w' => e = .returned (.int .i64 (ixf (fun x => !pos x) xs)) ∧ ∃ n, w' = w.drewN n := by
  unfold maxLen at hn
  have Hlen := hide h.map_len
  go_enter Try.func142, Try.ntmps142
  go_wp2
  go_loopw [5, 8] (fun _ i wr => ∃ k m : Nat, k ≤ n ∧ i = .int .i64 k ∧ wr = w.drewN m ∧ Hid ((xs.take k).all (fun y => !!pos y) = true)) (fun _ i _ => n - (intOf i).toNat)
  case atStart => exact ⟨0, 0, Nat.zero_le _, rfl, rfl, rfl⟩
  case round =>
    obtain ⟨k, m, hk, rfl, rfl, ha⟩ := hrel
    by_cases hlt : k < n
    · obtain ⟨ad, x, rfl, _, hx, hc⟩ := h.map_at hlt
      have Hx := hide hx
      clear hx
      go_wp2_with (go_at_call 116; refine (areMore_1 _ _).mono ?_; rintro e w' ⟨rfl, m', rfl⟩)
      · rename_i h0
        go_ret
        exact ⟨ret_int (ixf_at Hx.out ha.out h0).symm, _, rfl⟩
      · rename_i h0
        go_roundw
        case rel => exact ⟨k + 1, _, by omega, by go_num, rfl, hide (by rw [take_eq Hx.out, List.all_append, ha.out]; simp at h0; simp [h0])⟩
        case measure => simp [intOf]; omega
    · go_wp2
      go_ret
      refine ⟨ret_int (ixf_none ?_).symm, _, rfl⟩
      rw [← ha.out, List.take_of_length_le (by rw [Hlen.out]; omega)]
theorem containsFunc_areMore (A : Option Addr) (n c : Nat) (xs : List Nat) (B : Nat) (w : World) (h : Reads w B 1 A n (fl .f32 xs)) (hn : n ≤ maxLen) :
    Calls Try.prog 109 #[.slice A n c, .func (.func 116) #[] #[]] w fun e w' => e = .returned (.bool (xs.any (fun x => !pos x))) ∧ ∃ n, w' = w.drewN n := by
  go_enter Try.func109, Try.ntmps109
  go_wp2_with (go_at_call 142; refine (indexFunc_areMore _ _ _ xs _ _ h hn).mono ?_; rintro e w' ⟨rfl, m', rfl⟩)
  go_ret
  refine ⟨ret_bool ?_, _, rfl⟩
  rw [← ixf_ge]
theorem i_areMore (A : Option Addr) (n c : Nat) (xs : List Nat) (B : Nat) (w : World) (h : Reads w B 1 A n (fl .f32 xs)) (hn : n ≤ maxLen) :
    Calls Try.prog 74 #[.slice A n c] w fun e w' => e = .returned (.bool (xs.all pos)) ∧ ∃ n, w' = w.drewN n := by
  go_enter Try.func74, Try.ntmps74
  go_wp2_with (go_at_call 109; refine (containsFunc_areMore _ _ _ xs _ _ h hn).mono ?_; rintro e w' ⟨rfl, m', rfl⟩)
  go_ret
  refine ⟨ret_bool ?_, _, rfl⟩
  rw [List.all_eq_not_any_not]
theorem s_l02Above (x : Nat) (w : World) : Calls Try.prog 83 #[.float .f32 x] w fun e w' => e = .returned (.bool (pos x)) ∧ ∃ n, w' = w.drewN n := by
  have hp : Hid (pos x = (fin .f32 x && (FloatKind.f32.format.order x 0 == some .gt))) := hide rfl
  cases hf : fin .f32 x
  all_goals
    go_enter Try.func83, Try.ntmps83
    go_wp2_with (go_at_call 120; refine (s_l01Finite _ _).mono ?_; rintro e w' ⟨rfl, m', rfl⟩)
    go_ret
    exact ⟨ret_bool (by rw [hp.out, hf]; simp), _, rfl⟩

/-- Is a list one of numbers that are told. -/
def isToldL (xs : List Nat) : Bool := decide (1 ≤ xs.length) && decide (xs.length ≤ 256) && xs.all (fin .f32)
theorem told_len {xs : List Nat} (h : isToldL xs = true) : 1 ≤ xs.length ∧ xs.length ≤ 256 := by
  unfold isToldL at h
  simp at h
  exact h.1
theorem i_isTold (A : Option Addr) (n c : Nat) (xs : List Nat) (B : Nat) (w : World) (h : Reads w B 1 A n (fl .f32 xs)) (hn : n ≤ maxLen) :
    Calls Try.prog 63 #[.slice A n c] w fun e w' => e = .returned (.bool (isToldL xs)) ∧ ∃ n, w' = w.drewN n := by
  have hl := h.map_len
  have Hs : Hid (isToldL xs = (decide (1 ≤ n) && decide (n ≤ 256) && xs.all (fin .f32))) := by unfold isToldL; rw [hl]; rfl
  clear hl
  by_cases h1 : 1 ≤ n
  · by_cases h2 : n ≤ 256
    · have g1 : (1 : Int) ≤ (n : Int) := by omega
      have g2 : (n : Int) ≤ 256 := by omega
      go_enter Try.func63, Try.ntmps63
      go_wp2_with (go_at_call 69; refine (i_areFinite _ _ _ xs _ _ h hn).mono ?_; rintro e w' ⟨rfl, m', rfl⟩)
      go_ret
      exact ⟨ret_bool (by rw [Hs.out]; simp [h1, h2]), _, rfl⟩
    · have g1 : (1 : Int) ≤ (n : Int) := by omega
      have g2 : (256 : Int) < (n : Int) := by omega
      go_enter Try.func63, Try.ntmps63
      go_wp2
      go_ret
      exact ⟨ret_bool (by rw [Hs.out]; simp [h2]), 0, rfl⟩
  · have g1 : (n : Int) < 1 := by omega
    go_enter Try.func63, Try.ntmps63
    go_wp2
    go_ret
    exact ⟨ret_bool (by rw [Hs.out]; simp [h1]), 0, rfl⟩
theorem fl_eq {op : BinOp} {k : FloatKind} {x y a b : Nat} {w : World} (hx : cn k x = a) (hy : cn k y = b) : cn k (flR op k x y w) = fb op k a b := by rw [cn_flR, ← fb_cn, hx, hy]
theorem fl_eqr {op : BinOp} {k : FloatKind} {x y b : Nat} {w : World} (hy : cn k y = b) : cn k (flR op k x y w) = fb op k x b := by rw [cn_flR, ← fb_cnr, hy]
theorem fl_eql {op : BinOp} {k : FloatKind} {x y a : Nat} {w : World} (hx : cn k x = a) : cn k (flR op k x y w) = fb op k a y := by rw [cn_flR, ← fb_cnl, hx]

/-- The same of two numbers, or of one, that have just been laid. -/
theorem i_areFinite2 (w : World) (e : TypeId) (a b g : Nat) (hg : g = w.heap.size) {RA RB : Nat} (hA : cn .f32 a = RA) (hB : cn .f32 b = RB) :
    Calls Try.prog 69 #[.slice (some ⟨g, 0, none⟩) 2 2] (w.alloc (.cells #[.float .f32 a, .float .f32 b] e)) fun r w' => r = .returned (.bool (fin .f32 RA && fin .f32 RB)) ∧ Hid (cn .f32 a = RA) ∧ Hid (cn .f32 b = RB) ∧ ∃ n, w' = (w.alloc (.cells #[.float .f32 a, .float .f32 b] e)).drewN n := by
  subst hg
  refine (i_areFinite _ _ _ [a, b] _ _ (reads_new (Value.float .f32) w e [a, b]) (by simp [maxLen])).mono ?_
  rintro r w' ⟨rfl, h⟩
  exact ⟨by simp [← hA, ← hB, fin_cn], hA, hB, h⟩
theorem i_areMore1 (w : World) (e : TypeId) (a g : Nat) (hg : g = w.heap.size) :
    Calls Try.prog 74 #[.slice (some ⟨g, 0, none⟩) 1 1] (w.alloc (.cells #[.float .f32 a] e)) fun r w' => r = .returned (.bool (pos a)) ∧ ∃ n, w' = (w.alloc (.cells #[.float .f32 a] e)).drewN n := by
  subst hg
  refine (i_areMore _ _ _ [a] _ _ (reads_new (Value.float .f32) w e [a]) (by simp [maxLen])).mono ?_
  rintro r w' ⟨rfl, h⟩
  exact ⟨by simp, h⟩
end Go.Proofs.Ytolbibpmngmpdaa
