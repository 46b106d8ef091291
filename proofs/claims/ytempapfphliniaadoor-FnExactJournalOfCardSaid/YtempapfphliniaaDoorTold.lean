/-
  Contracts on lists of numbers that are told, and on numbers that are greater than 0.
-/
import Derived.Test.YtempapfphliniaaDoorFin
import Derived.Test.YtempapfphliniaaDoorHelq
namespace Go.Proofs.YtempapfphliniaaDoor
open Go.RowKit Fl Mem
set_option linter.unusedVariables false
set_option maxRecDepth 100000

/-- Is a number finite and greater than 0. -/
def pos (x : Nat) : Bool := fin .f32 x && (FloatKind.f32.format.order x 0 == some .gt)
theorem pos_cn (x : Nat) : pos (cn .f32 x) = pos x := by unfold pos; rw [fin_cn, order_cnl]
theorem areMore_1 (x : Nat) (w : World) : Calls Tryd.prog 98 #[.float .f32 x] w fun e w' => e = .returned (.bool (!pos x)) ∧ ∃ n, w' = w.drewN n := by
  have hp : Hid (pos x = (fin .f32 x && (FloatKind.f32.format.order x 0 == some .gt))) := hide rfl
  cases hf : fin .f32 x
  all_goals
    go_enter Tryd.func98, Tryd.ntmps98
    go_wp2_with (go_at_call 99; refine (i_IsFinite _ _).mono ?_; rintro e w' ⟨rfl, m', rfl⟩)
    go_ret
    exact ⟨ret_bool (by rw [hp.out, hf]; simp), _, rfl⟩

set_option maxHeartbeats 400000 in
theorem indexFunc_areMore (A : Option Addr) (n c : Nat) (xs : List Nat) (B : Nat) (w : World) (h : Reads w B 1 A n (fl .f32 xs)) (hn : n ≤ maxLen) :
    Calls Tryd.prog 115 #[.slice A n c, .func (.func 98) #[] #[]] w fun e w' => e = .returned (.int .i64 (ixf (fun x => !pos x) xs)) ∧ ∃ n, w' = w.drewN n := by
  unfold maxLen at hn
  have Hlen := hide h.map_len
  go_enter Tryd.func115, Tryd.ntmps115
  go_wp2
  go_loopw [5, 8] (fun _ i wr => ∃ k m : Nat, k ≤ n ∧ i = .int .i64 k ∧ wr = w.drewN m ∧ Hid ((xs.take k).all (fun y => !!pos y) = true)) (fun _ i _ => n - (intOf i).toNat)
  case atStart => exact ⟨0, 0, Nat.zero_le _, rfl, rfl, rfl⟩
  case round =>
    obtain ⟨k, m, hk, rfl, rfl, ha⟩ := hrel
    by_cases hlt : k < n
    · obtain ⟨ad, x, rfl, _, hx, hc⟩ := h.map_at hlt
      have Hx := hide hx
      clear hx
      go_wp2_with (go_at_call 98; refine (areMore_1 _ _).mono ?_; rintro e w' ⟨rfl, m', rfl⟩)
      · rename_i h0
        go_ret
        exact ⟨ret_int (ixf_at Hx.out ha.out h0).symm, _, rfl⟩
      · rename_i h0
        go_roundw
        case rel => exact ⟨k + 1, _, by omega, by go_num, rfl, hide (by rw [take_eq Hx.out, List.all_append, ha.out]; simp at h0; simp [h0])⟩
        case measure => simp [intOf]; omega
    · go_wp2
      go_ret
      refine ⟨ret_int (ixf_none ?_).symm, _, rfl⟩
      rw [← ha.out, List.take_of_length_le (by rw [Hlen.out]; omega)]
theorem containsFunc_areMore (A : Option Addr) (n c : Nat) (xs : List Nat) (B : Nat) (w : World) (h : Reads w B 1 A n (fl .f32 xs)) (hn : n ≤ maxLen) :
    Calls Tryd.prog 97 #[.slice A n c, .func (.func 98) #[] #[]] w fun e w' => e = .returned (.bool (xs.any (fun x => !pos x))) ∧ ∃ n, w' = w.drewN n := by
  go_enter Tryd.func97, Tryd.ntmps97
  go_wp2_with (go_at_call 115; refine (indexFunc_areMore _ _ _ xs _ _ h hn).mono ?_; rintro e w' ⟨rfl, m', rfl⟩)
  go_ret
  refine ⟨ret_bool ?_, _, rfl⟩
  rw [← ixf_ge]
theorem i_areMore (A : Option Addr) (n c : Nat) (xs : List Nat) (B : Nat) (w : World) (h : Reads w B 1 A n (fl .f32 xs)) (hn : n ≤ maxLen) :
    Calls Tryd.prog 77 #[.slice A n c] w fun e w' => e = .returned (.bool (xs.all pos)) ∧ ∃ n, w' = w.drewN n := by
  go_enter Tryd.func77, Tryd.ntmps77
  go_wp2_with (go_at_call 97; refine (containsFunc_areMore _ _ _ xs _ _ h hn).mono ?_; rintro e w' ⟨rfl, m', rfl⟩)
  go_ret
  refine ⟨ret_bool ?_, _, rfl⟩
  rw [List.all_eq_not_any_not]
theorem s_l02Above (x : Nat) (w : World) : Calls Tryd.prog 74 #[.float .f32 x] w fun e w' => e = .returned (.bool (pos x)) ∧ ∃ n, w' = w.drewN n := by
  have hp : Hid (pos x = (fin .f32 x && (FloatKind.f32.format.order x 0 == some .gt))) := hide rfl
  cases hf : fin .f32 x
  all_goals
    go_enter Tryd.func74, Tryd.ntmps74
    go_wp2_with (go_at_call 95; refine (s_l01Finite _ _).mono ?_; rintro e w' ⟨rfl, m', rfl⟩)
    go_ret
    exact ⟨ret_bool (by rw [hp.out, hf]; simp), _, rfl⟩

/-- Is a list one of numbers that are told. -/
def isToldL (xs : List Nat) : Bool := decide (1 ≤ xs.length) && decide (xs.length ≤ 256) && xs.all (fin .f32)
theorem told_len {xs : List Nat} (h : isToldL xs = true) : 1 ≤ xs.length ∧ xs.length ≤ 256 := by
  unfold isToldL at h
  simp at h
  exact h.1
theorem fl_eq {op : BinOp} {k : FloatKind} {x y a b : Nat} {w : World} (hx : cn k x = a) (hy : cn k y = b) : cn k (flR op k x y w) = fb op k a b := by rw [cn_flR, ← fb_cn, hx, hy]
theorem fl_eqr {op : BinOp} {k : FloatKind} {x y b : Nat} {w : World} (hy : cn k y = b) : cn k (flR op k x y w) = fb op k x b := by rw [cn_flR, ← fb_cnr, hy]
theorem fl_eql {op : BinOp} {k : FloatKind} {x y a : Nat} {w : World} (hx : cn k x = a) : cn k (flR op k x y w) = fb op k a y := by rw [cn_flR, ← fb_cnl, hx]

theorem i_areMore1 (w : World) (e : TypeId) (a g : Nat) (hg : g = w.heap.size) :
    Calls Tryd.prog 77 #[.slice (some ⟨g, 0, none⟩) 1 1] (w.alloc (.cells #[.float .f32 a] e)) fun r w' => r = .returned (.bool (pos a)) ∧ ∃ n, w' = (w.alloc (.cells #[.float .f32 a] e)).drewN n := by
  subst hg
  refine (i_areMore _ _ _ [a] _ _ (reads_new (Value.float .f32) w e [a]) (by simp [maxLen])).mono ?_
  rintro r w' ⟨rfl, h⟩
  exact ⟨by simp, h⟩
end Go.Proofs.YtempapfphliniaaDoor
