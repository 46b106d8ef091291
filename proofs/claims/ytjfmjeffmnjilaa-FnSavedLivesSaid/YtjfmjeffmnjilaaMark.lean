/-
  Contracts of the helpers of the laws, continued: marks that are written and held, comparisons of whole numbers and of truths.
-/
import Derived.Test.YtjfmjeffmnjilaaHelq
import Derived.Test.YtjfmjeffmnjilaaConv
namespace Go.Proofs.Ytjfmjeffmnjilaa
open Go.RowKit Fl Mem
set_option linter.unusedVariables false
set_option maxRecDepth 100000

theorem isNan_word {k : FloatKind} {s : Bool} {r : Nat} (h : r ≤ k.format.infRung) : isNan k (k.format.word s r) = false := by
  unfold isNan Ieee.Format.read Ieee.Format.word
  have hlt := Ieee.Format.infRung_lt k.format
  have hw : 0 < k.format.signWeight := by omega
  have hm : (if s = true then k.format.signWeight + r else r) % k.format.signWeight = r := by
    split
    · rw [Nat.add_mod_left, Nat.mod_eq_of_lt (by omega)]
    · exact Nat.mod_eq_of_lt (by omega)
  simp only [hm]
  split
  · rfl
  · split
    · rfl
    · rw [if_pos (by omega)]; rfl
theorem isNan_nearest (k : FloatKind) (s : Bool) (m : Nat) (e : Int) : isNan k (k.format.nearest s m e) = false := by
  unfold Ieee.Format.nearest
  split
  · exact isNan_word (Nat.zero_le _)
  · exact isNan_word (Nat.min_le_right _ _)
theorem isNan_ofInt (k : FloatKind) (n : Int) : isNan k (floatOfInt k n) = false := isNan_nearest _ _ _ _

/-- The marks of n places, from k on. -/
def marksOf {α : Type} (F : Int → α) (k n : Nat) : List α := (List.range n).map fun i => F ((k + i : Nat) : Int)
theorem marksOf_len {α : Type} (F : Int → α) (k n : Nat) : (marksOf F k n).length = n := by simp [marksOf]
theorem marksOf_at {α : Type} {F : Int → α} {k n i : Nat} (h : i < n) : (marksOf F k n)[i]? = some (F ((k + i : Nat) : Int)) := by
  simp [marksOf, h]

/-- The cells of a row of which the first i are marks. -/
def half (F : Int → Value) (k i : Nat) (cs : List Value) : List Value := marksOf F k i ++ cs.drop i
theorem half_len {F : Int → Value} {k i : Nat} {cs : List Value} (h : i ≤ cs.length) : (half F k i cs).length = cs.length := by
  simp [half, marksOf_len]; omega
theorem half_set {F : Int → Value} {k i : Nat} {cs : List Value} (h : i < cs.length) : (half F k i cs).set i (F ((k + i : Nat) : Int)) = half F k (i + 1) cs := by
  unfold half
  apply List.ext_getElem?
  intro j
  rw [List.getElem?_set]
  simp only [List.length_append, marksOf_len, List.length_drop]
  by_cases hj : i = j
  · subst hj
    rw [if_pos rfl, if_pos (by omega), List.getElem?_append_left (by rw [marksOf_len]; omega), marksOf_at (by omega)]
  · rw [if_neg hj]
    rcases Nat.lt_or_ge j i with h1 | h1
    · rw [List.getElem?_append_left (by rw [marksOf_len]; omega), List.getElem?_append_left (by rw [marksOf_len]; omega), marksOf_at h1, marksOf_at (by omega)]
    · rw [List.getElem?_append_right (by rw [marksOf_len]; omega), List.getElem?_append_right (by rw [marksOf_len]; omega)]
      simp only [marksOf_len, List.getElem?_drop]
      congr 1
      omega
theorem half_all {F : Int → Value} {k : Nat} {cs : List Value} : half F k cs.length cs = marksOf F k cs.length := by
  unfold half; simp

/-- One cell of an owned row is written. -/
theorem own_set {w : World} {base : Nat} {e : TypeId} {g n c : Nat} {xs : List Value} (h : w.ownsRow base e 1 (.slice (some ⟨g, 0, none⟩) n c) n xs) {i : Nat} (hi : i < n) (u : Value) :
    (w.setCell ⟨g, i, none⟩ u).ownsRow base e 1 (.slice (some ⟨g, 0, none⟩) n c) n (xs.set i u) := by
  obtain ⟨h1, h2⟩ := h
  refine ⟨by simpa using h1, ?_⟩
  rcases h2 with ⟨h2, _⟩ | ⟨g', cap, cur, hv, hb, hg, hnc, hcm, hcs, htake⟩
  · cases h2
  · injection hv with hv1 _ hv2
    injection hv1 with hv1
    injection hv1 with hv1
    subst hv1
    subst hv2
    refine .inr ⟨g, c, cur.setIfInBounds i u, rfl, hb, ?_, hnc, hcm, by simpa using hcs, ?_⟩
    · have := Blk.set_ (w := w) (g := g) (t := e) (cs := cur) hg i u
      exact this
    · rw [← htake, Array.toList_setIfInBounds]
      simp only [Nat.mul_one]
      rw [List.take_set]
theorem own_cell {w : World} {base : Nat} {e : TypeId} {g n c : Nat} {xs : List Value} (h : w.ownsRow base e 1 (.slice (some ⟨g, 0, none⟩) n c) n xs) {i : Nat} {u : Value} (hu : xs[i]? = some u) :
    w.cell? ⟨g, i, none⟩ = some u ∧ w.frozen? ⟨g, i, none⟩ = false := by
  refine ⟨by have := h.cells (g := g) rfl i u hu; simpa [Addr.add_lit] using this, ?_⟩
  rcases h.2 with ⟨h2, _⟩ | ⟨g', cap, cur, hv, hb, hg, _⟩
  · cases h2
  · injection hv with hv1 _ _
    injection hv1 with hv1
    injection hv1 with hv1
    subst hv1
    exact Blk.frozen (w := w) (t := e) (cs := cur) hg i
theorem own_addr {w : World} {base : Nat} {e : TypeId} {size n : Nat} {v : Value} {xs : List Value} (h : w.ownsRow base e size v n xs) (hn : 0 < n) : ∃ g c, v = .slice (some ⟨g, 0, none⟩) n c := by
  rcases h.2 with ⟨_, h0⟩ | ⟨g, cap, cur, rfl, _⟩
  · omega
  · exact ⟨g, cap, rfl⟩
theorem own_len {w : World} {base : Nat} {e : TypeId} {n : Nat} {v : Value} {xs : List Value} (h : w.ownsRow base e 1 v n xs) : xs.length = n := by have := h.1; omega

/-- Two owned rows of which the second one's base lies beyond the first one's block. -/
theorem own_apart {w w2 : World} {b1 b2 : Nat} {e1 e2 : TypeId} {s1 s2 n1 n2 : Nat} {v1 v2 : Value} {xs1 xs2 : List Value} (h1 : w.ownsRow b1 e1 s1 v1 n1 xs1) (h2 : w2.ownsRow b2 e2 s2 v2 n2 xs2)
    (hs : w.heap.size ≤ b2) : v1.ownBlock = none ∨ v1.ownBlock ≠ v2.ownBlock := by
  cases hv : v1.ownBlock with
  | none => exact .inl rfl
  | some k =>
    refine .inr (fun he => ?_)
    have := (h1.lt k hv).2
    have := (h2.lt k he.symm).1
    omega


/-- A mark as a number, a whole number, a truth. -/
def mkF (k : Int) : Value := .float .f32 (floatOfInt .f32 k)
def mkI (k : Int) : Value := .int .i64 k
def mkB (k : Int) : Value := .bool (k % 3 == 0)

set_option maxHeartbeats 400000 in
/-- 'markFloat32S' writes marks over a row that is owned. -/
theorem markFloat32S (v : Value) (n k : Nat) (cs : List Value) (base : Nat) (w : World) (ho : w.ownsRow base 63 1 v n cs) (hn : n + k ≤ 1099511627776) :
    Calls Try.prog 65 #[v, .int .i64 (k : Int)] w fun e w' => e = .returned (.int .i64 ((k + n : Nat) : Int)) ∧ w'.ownsRow base 63 1 v n (marksOf mkF k n) ∧ w.grownBy w' v.ownBlock := by
  have hl := own_len ho
  rcases Nat.eq_zero_or_pos n with h0 | h0
  · subst h0
    obtain rfl : cs = [] := List.eq_nil_of_length_eq_zero hl
    obtain ⟨A, c, rfl⟩ := own_shape ho
    go_enter Try.func65, Try.ntmps65
    go_wp2
    go_loop [1, 5] (fun a i => a = .int .i64 k ∧ i = .int .i64 0) (fun _ _ => 0)
    case atStart => exact ⟨rfl, rfl⟩
    case round =>
      obtain ⟨rfl, rfl⟩ := hrel
      go_wp2
      go_ret
      exact ⟨ret_int (by simp), ho, World.grownBy.refl _ _⟩
  · obtain ⟨g, c, rfl⟩ := own_addr ho h0
    have hbg : g < w.heap.size := (ho.lt g rfl).2
    have Hl := hide hl
    have Ho := hide ho
    clear hl ho
    go_enter Try.func65, Try.ntmps65
    go_wp2
    go_loopw [1, 5] (fun a i wr => ∃ j : Nat, j ≤ n ∧ a = .int .i64 ((k + j : Nat) : Int) ∧ i = .int .i64 j ∧ Hid (wr.ownsRow base 63 1 (.slice (some ⟨g, 0, none⟩) n c) n (half mkF k j cs)) ∧ Hid (w.grownBy wr (some g))) (fun _ i _ => n - (intOf i).toNat)
    case atStart => exact ⟨0, Nat.zero_le _, by go_num, rfl, by simpa [half, marksOf] using Ho, hide (World.grownBy.refl _ _)⟩
    case round =>
      obtain ⟨j, hj, rfl, rfl, hown, hgr⟩ := hrel
      by_cases hlt : j < n
      · obtain ⟨u, hu⟩ : ∃ u, (half mkF k j cs)[j]? = some u := ⟨_, List.getElem?_eq_getElem (by rw [half_len (by rw [Hl.out]; omega), Hl.out]; exact hlt)⟩
        obtain ⟨hc, hf⟩ := own_cell hown.out hu
        clear hu
        have h1 : (0 : Int) ≤ j := by omega
        have h2 : (j : Int) < n := by omega
        have h3 : (0 : Int) ≤ ((k + j : Nat) : Int) := by omega
        go_wp2
        go_roundw
        case rel => exact ⟨j + 1, by omega, by go_num, by go_num, by
            have h9 := own_set hown.out hlt (mkF ((k + j : Nat) : Int))
            rw [half_set (by rw [Hl.out]; exact hlt)] at h9
            exact h9, hide (only_setCell hgr.out (.inl rfl) _)⟩
        case measure => simp [intOf]; omega
      · go_wp2
        go_ret
        obtain rfl : j = n := by omega
        refine ⟨rfl, ?_, hgr.out⟩
        have h9 := hown.out
        rw [← Hl.out, half_all, Hl.out] at h9
        exact h9


set_option maxHeartbeats 400000 in
/-- 'markInt64S' writes marks over a row that is owned. -/
theorem markInt64S (v : Value) (n k : Nat) (cs : List Value) (base : Nat) (w : World) (ho : w.ownsRow base 2 1 v n cs) (hn : n + k ≤ 1099511627776) :
    Calls Try.prog 69 #[v, .int .i64 (k : Int)] w fun e w' => e = .returned (.int .i64 ((k + n : Nat) : Int)) ∧ w'.ownsRow base 2 1 v n (marksOf mkI k n) ∧ w.grownBy w' v.ownBlock := by
  have hl := own_len ho
  rcases Nat.eq_zero_or_pos n with h0 | h0
  · subst h0
    obtain rfl : cs = [] := List.eq_nil_of_length_eq_zero hl
    obtain ⟨A, c, rfl⟩ := own_shape ho
    go_enter Try.func69, Try.ntmps69
    go_wp2
    go_loop [1, 5] (fun a i => a = .int .i64 k ∧ i = .int .i64 0) (fun _ _ => 0)
    case atStart => exact ⟨rfl, rfl⟩
    case round =>
      obtain ⟨rfl, rfl⟩ := hrel
      go_wp2
      go_ret
      exact ⟨ret_int (by simp), ho, World.grownBy.refl _ _⟩
  · obtain ⟨g, c, rfl⟩ := own_addr ho h0
    have hbg : g < w.heap.size := (ho.lt g rfl).2
    have Hl := hide hl
    have Ho := hide ho
    clear hl ho
    go_enter Try.func69, Try.ntmps69
    go_wp2
    go_loopw [1, 5] (fun a i wr => ∃ j : Nat, j ≤ n ∧ a = .int .i64 ((k + j : Nat) : Int) ∧ i = .int .i64 j ∧ Hid (wr.ownsRow base 2 1 (.slice (some ⟨g, 0, none⟩) n c) n (half mkI k j cs)) ∧ Hid (w.grownBy wr (some g))) (fun _ i _ => n - (intOf i).toNat)
    case atStart => exact ⟨0, Nat.zero_le _, by go_num, rfl, by simpa [half, marksOf] using Ho, hide (World.grownBy.refl _ _)⟩
    case round =>
      obtain ⟨j, hj, rfl, rfl, hown, hgr⟩ := hrel
      by_cases hlt : j < n
      · obtain ⟨u, hu⟩ : ∃ u, (half mkI k j cs)[j]? = some u := ⟨_, List.getElem?_eq_getElem (by rw [half_len (by rw [Hl.out]; omega), Hl.out]; exact hlt)⟩
        obtain ⟨hc, hf⟩ := own_cell hown.out hu
        clear hu
        have h1 : (0 : Int) ≤ j := by omega
        have h2 : (j : Int) < n := by omega
        have h3 : (0 : Int) ≤ ((k + j : Nat) : Int) := by omega
        go_wp2
        go_roundw
        case rel => exact ⟨j + 1, by omega, by go_num, by go_num, by
            have h9 := own_set hown.out hlt (mkI ((k + j : Nat) : Int))
            rw [half_set (by rw [Hl.out]; exact hlt)] at h9
            exact h9, hide (only_setCell hgr.out (.inl rfl) _)⟩
        case measure => simp [intOf]; omega
      · go_wp2
        go_ret
        obtain rfl : j = n := by omega
        refine ⟨rfl, ?_, hgr.out⟩
        have h9 := hown.out
        rw [← Hl.out, half_all, Hl.out] at h9
        exact h9

set_option maxHeartbeats 400000 in
/-- 'heldFloat32S' finds the marks where they were written. -/
theorem heldFloat32S (A : Option Addr) (n c k : Nat) (B : Nat) (w : World) (h : Reads w B 1 A n (marksOf mkF k n)) (hn : n + k ≤ 1099511627776) :
    Calls Try.prog 67 #[.slice A n c, .int .i64 (k : Int)] w fun e w' => e = .returned (.int .i64 ((k + n : Nat) : Int)) ∧ ∃ m, w' = w.drewN m := by
  go_enter Try.func67, Try.ntmps67
  go_wp2
  go_loopw [1, 5] (fun a i wr => ∃ j m : Nat, j ≤ n ∧ a = .int .i64 ((k + j : Nat) : Int) ∧ i = .int .i64 j ∧ wr = w.drewN m) (fun _ i _ => n - (intOf i).toNat)
  case atStart => exact ⟨0, 0, Nat.zero_le _, by go_num, rfl, rfl⟩
  case round =>
    obtain ⟨j, m, hj, rfl, rfl, rfl⟩ := hrel
    by_cases hlt : j < n
    · obtain ⟨ad, u, rfl, _, hx, hc⟩ := h.at_ hlt
      rw [marksOf_at hlt] at hx
      injection hx with hx
      subst hx
      have hc' : w.cell? (ad.add j) = some (.float .f32 (floatOfInt .f32 ((k : Int) + (j : Int)))) := by rw [hc]; simp [mkF]
      clear hc
      have h3 : (0 : Int) ≤ ((k + j : Nat) : Int) := by omega
      have hne : (FloatKind.f32.format.order (floatOfInt .f32 ((k : Int) + (j : Int))) (floatOfInt .f32 ((k : Int) + (j : Int))) != some Ordering.eq) = false := by rw [order_self, isNan_ofInt]; rfl
      go_wp2
      go_roundw
      case rel => exact ⟨j + 1, _, by omega, by go_num, by go_num, rfl⟩
      case measure => simp [intOf]; omega
    · go_wp2
      go_ret
      obtain rfl : j = n := by omega
      exact ⟨rfl, _, rfl⟩

set_option maxHeartbeats 400000 in
/-- 'heldInt64S' finds the marks where they were written. -/
theorem heldInt64S (A : Option Addr) (n c k : Nat) (B : Nat) (w : World) (h : Reads w B 1 A n (marksOf mkI k n)) (hn : n + k ≤ 1099511627776) :
    Calls Try.prog 70 #[.slice A n c, .int .i64 (k : Int)] w fun e w' => e = .returned (.int .i64 ((k + n : Nat) : Int)) ∧ ∃ m, w' = w.drewN m := by
  go_enter Try.func70, Try.ntmps70
  go_wp2
  go_loopw [1, 5] (fun a i wr => ∃ j m : Nat, j ≤ n ∧ a = .int .i64 ((k + j : Nat) : Int) ∧ i = .int .i64 j ∧ wr = w.drewN m) (fun _ i _ => n - (intOf i).toNat)
  case atStart => exact ⟨0, 0, Nat.zero_le _, by go_num, rfl, rfl⟩
  case round =>
    obtain ⟨j, m, hj, rfl, rfl, rfl⟩ := hrel
    by_cases hlt : j < n
    · obtain ⟨ad, u, rfl, _, hx, hc⟩ := h.at_ hlt
      rw [marksOf_at hlt] at hx
      injection hx with hx
      subst hx
      have hc' : w.cell? (ad.add j) = some (.int .i64 ((k : Int) + (j : Int))) := by rw [hc]; simp [mkI]
      clear hc
      have h3 : (0 : Int) ≤ ((k + j : Nat) : Int) := by omega
      have hne : (((k : Int) + (j : Int)) != ((k : Int) + (j : Int))) = false := by simp
      go_wp2
      go_roundw
      case rel => exact ⟨j + 1, _, by omega, by go_num, by go_num, rfl⟩
      case measure => simp [intOf]; omega
    · go_wp2
      go_ret
      obtain rfl : j = n := by omega
      exact ⟨rfl, _, rfl⟩

set_option maxHeartbeats 400000 in
/-- 'eqInt64S' of two lists that are equal. -/
theorem eqInt64S_eq (A A' : Option Addr) (n n' c c' : Nat) (xs : List Int) (B B' : Nat) (w : World) (h : Reads w B 1 A n (xs.map (Value.int .i64))) (h' : Reads w B' 1 A' n' (xs.map (Value.int .i64))) (hn : n ≤ maxLen) :
    Calls Try.prog 84 #[.slice A n c, .slice A' n' c'] w fun e w' => e = .returned (.bool true) ∧ ∃ n, w' = w.drewN n := by
  have hl : n' = n := by rw [← h.map_len, ← h'.map_len]
  subst hl
  unfold maxLen at hn
  go_enter Try.func84, Try.ntmps84
  go_wp2
  go_loopw [5] (fun i wr => ∃ k m : Nat, k ≤ n' ∧ i = .int .i64 k ∧ wr = w.drewN m) (fun i _ => n' - (intOf i).toNat)
  case atStart => exact ⟨0, 0, Nat.zero_le _, rfl, rfl⟩
  case round =>
    obtain ⟨k, m, hk, rfl, rfl⟩ := hrel
    by_cases hlt : k < n'
    · obtain ⟨ad, x, rfl, _, hx, hc⟩ := h.map_at hlt
      obtain ⟨ad', y, rfl, _, hy, hc'⟩ := h'.map_at hlt
      obtain rfl : y = x := by rw [hx] at hy; injection hy with hy; exact hy.symm
      have hne : (y != y) = false := by simp
      clear hx hy
      have h1 : (0 : Int) ≤ k := by omega
      have h2 : (k : Int) < n' := by omega
      go_wp2
      go_quiet (fail)
      go_wp2
      go_roundw
      case rel => exact ⟨k + 1, _, by omega, by go_num, rfl⟩
      case measure => simp [intOf]; omega
    · go_wp2
      go_ret
      exact ⟨rfl, m, rfl⟩

end Go.Proofs.Ytjfmjeffmnjilaa
