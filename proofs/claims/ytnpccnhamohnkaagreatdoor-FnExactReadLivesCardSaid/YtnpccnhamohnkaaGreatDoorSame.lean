/-
  Contracts of the helpers of the laws, continued: copies and marks.
-/
import Derived.Test.YtnpccnhamohnkaaGreatDoorFin
namespace Go.Proofs.YtnpccnhamohnkaaGreatDoor
open Go.RowKit Fl Mem
set_option linter.unusedVariables false

theorem info_f32 : (Tryz.prog.info? 37).map (fun i => (i.zero, i.size, i.bytes)) = some (some (.float .f32 0), 1, 4) := by kernel_rfl

/-- The cells of a row of n of which the first k are known. -/
def part {α : Type} (F : α → Value) (z : Value) (xs : List α) (n k : Nat) : Array Value := ((xs.take k).map F ++ List.replicate (n - k) z).toArray
theorem part_zero {α : Type} (F : α → Value) (z : Value) (xs : List α) (n : Nat) : part F z xs n 0 = Array.replicate n z := by simp [part]
theorem part_at {α : Type} {F : α → Value} {z : Value} {xs : List α} {n k : Nat} (hl : xs.length = n) (hk : k < n) : (part F z xs n k)[k]? = some z := by
  unfold part
  rw [List.getElem?_toArray, List.getElem?_append_right (by simp; omega)]
  simp [List.getElem?_replicate]; omega
theorem part_set {α : Type} {F : α → Value} {z : Value} {xs : List α} {n k : Nat} {x : α} (hl : xs.length = n) (hk : k < n) (hx : xs[k]? = some x) : (part F z xs n k).setIfInBounds k (F x) = part F z xs n (k + 1) := by
  unfold part
  apply Array.ext_getElem?
  intro i
  rw [Array.getElem?_setIfInBounds]
  simp only [List.getElem?_toArray, List.size_toArray, List.length_append, List.length_map, List.length_take, List.length_replicate]
  by_cases hi : k = i
  · subst hi
    rw [if_pos rfl, if_pos (by omega), List.getElem?_append_left (by simp; omega), List.getElem?_map, List.getElem?_take, if_pos (by omega), hx]; rfl
  · rw [if_neg hi]
    rcases Nat.lt_or_ge i k with h | h
    · rw [List.getElem?_append_left (by simp; omega), List.getElem?_append_left (by simp; omega)]
      simp only [List.getElem?_map, List.getElem?_take]
      rw [if_pos h, if_pos (by omega)]
    · rw [List.getElem?_append_right (by simp; omega), List.getElem?_append_right (by simp; omega)]
      simp only [List.length_map, List.length_take, List.getElem?_replicate]
      by_cases h2 : i < n
      · rw [if_pos (by omega), if_pos (by omega)]
      · rw [if_neg (by omega), if_neg (by omega)]
theorem part_all {α : Type} {F : α → Value} {z : Value} {xs : List α} {n : Nat} (hl : xs.length = n) : part F z xs n n = (xs.map F).toArray := by
  unfold part
  rw [List.take_of_length_le (by omega)]; simp

theorem own_of_blk {w : World} {base g n : Nat} {t : TypeId} {xs : List Value} (h : Blk w g t xs.toArray) (hb : base ≤ g) (hl : xs.length = n) (hn : n ≤ maxLen) : w.ownsRow base t 1 (.slice (some ⟨g, 0, none⟩) n n) n xs :=
  ⟨by omega, .inr ⟨g, n, xs.toArray, rfl, hb, h, Nat.le_refl _, hn, by simp [hl], by simp [List.take_of_length_le, hl]⟩⟩

theorem info_i64 : (Tryz.prog.info? 2).map (fun i => (i.zero, i.size, i.bytes)) = some (some (.int .i64 0), 1, 8) := by kernel_rfl

abbrev il (xs : List Int) : List Value := xs.map (Value.int .i64)
abbrev nl (xs : List Nat) : List Value := xs.map (fun n : Nat => Value.int .i64 (n : Int))

theorem own_shape {w : World} {base : Nat} {e : TypeId} {size n : Nat} {v : Value} {xs : List Value} (h : w.ownsRow base e size v n xs) : ∃ A c, v = .slice A n c := by
  rcases h.2 with ⟨rfl, rfl⟩ | ⟨g, cap, cur, rfl, _⟩
  · exact ⟨_, _, rfl⟩
  · exact ⟨_, _, rfl⟩
theorem own_head {w : World} {base : Nat} {e : TypeId} {n : Nat} {v u : Value} {xs : List Value} (h : w.ownsRow base e 1 v n (u :: xs)) : ∃ g c, v = .slice (some ⟨g, 0, none⟩) n c ∧ w.cell? ⟨g, 0, none⟩ = some u := by
  rcases h.2 with ⟨rfl, rfl⟩ | ⟨g, cap, cur, rfl, _⟩
  · have := h.1; simp at this
  · exact ⟨g, cap, rfl, by have := h.cells (g := g) rfl 0 u rfl; simpa [Addr.add] using this⟩

theorem own_emp {w : World} {base g : Nat} {e : TypeId} {size : Nat} (hg : g = w.heap.size) (hb : base ≤ g) : (w.alloc (.cells #[] e)).ownsRow base e size (.slice (some ⟨g, 0, none⟩) 0 0) 0 [] := by
  subst hg
  exact World.ownsRow_made _ _ _ hb (by simp [maxLen]) (by simp)

/-- A block that has just been made reads as what was put in. -/
theorem reads_new {α : Type} (F : α → Value) (w : World) (e : TypeId) (xs : List α) : Reads (w.alloc (.cells (xs.map F).toArray e)) (w.alloc (.cells (xs.map F).toArray e)).heap.size 1 (some ⟨w.heap.size, 0, none⟩) xs.length (xs.map F) := by
  refine ⟨by simp, fun _ => ⟨_, rfl, by simp, fun j u hu => ?_⟩⟩
  have h := Blk.cell (Blk.new w e (xs.map F).toArray) j
  rw [Addr.add_lit, Nat.zero_add, h]
  simpa using hu

theorem own_up {w : World} {base base' : Nat} {e : TypeId} {size n : Nat} {v : Value} {xs : List Value} (h : w.ownsRow base e size v n xs) (hb : base' ≤ base) : w.ownsRow base' e size v n xs := by
  refine ⟨h.1, ?_⟩
  rcases h.2 with h2 | ⟨g, cap, cur, h2, h3, h4⟩
  · exact .inl h2
  · exact .inr ⟨g, cap, cur, h2, by omega, h4⟩

end Go.Proofs.YtnpccnhamohnkaaGreatDoor

/-
  Contracts on lists of numbers that are told, and on numbers that are greater than 0.
-/
namespace Go.Proofs.YtnpccnhamohnkaaGreatDoor
open Go.RowKit Fl Mem
set_option linter.unusedVariables false
set_option maxRecDepth 100000

/-- Is a number finite and greater than 0. -/
def pos (x : Nat) : Bool := fin .f32 x && (FloatKind.f32.format.order x 0 == some .gt)
theorem pos_cn (x : Nat) : pos (cn .f32 x) = pos x := by unfold pos; rw [fin_cn, order_cnl]
theorem areMore_1 (x : Nat) (w : World) : Calls Tryz.prog 180 #[.float .f32 x] w fun e w' => e = .returned (.bool (!pos x)) ∧ ∃ n, w' = w.drewN n := by
  have hp : Hid (pos x = (fin .f32 x && (FloatKind.f32.format.order x 0 == some .gt))) := hide rfl
  cases hf : fin .f32 x
  all_goals
    go_enter Tryz.func180, Tryz.ntmps180
    go_wp2_with (go_at_call 136; refine (i_IsFinite _ _).mono ?_; rintro e w' ⟨rfl, m', rfl⟩)
    go_ret
    exact ⟨ret_bool (by rw [hp.out, hf]; simp), _, rfl⟩

set_option maxHeartbeats 400000 in
theorem indexFunc_areMore (A : Option Addr) (n c : Nat) (xs : List Nat) (B : Nat) (w : World) (h : Reads w B 1 A n (fl .f32 xs)) (hn : n ≤ maxLen) :
    Calls Tryz.prog 209 #[.slice A n c, .func (.func 180) #[] #[]] w fun e w' => e = .returned (.int .i64 (ixf (fun x => !pos x) xs)) ∧ ∃ n, w' = w.drewN n := by
  unfold maxLen at hn
  have Hlen := hide h.map_len
  go_enter Tryz.func209, Tryz.ntmps209
  go_wp2
  go_loopw [5, 8] (fun _ i wr => ∃ k m : Nat, k ≤ n ∧ i = .int .i64 k ∧ wr = w.drewN m ∧ Hid ((xs.take k).all (fun y => !!pos y) = true)) (fun _ i _ => n - (intOf i).toNat)
  case atStart => exact ⟨0, 0, Nat.zero_le _, rfl, rfl, rfl⟩
  case round =>
    obtain ⟨k, m, hk, rfl, rfl, ha⟩ := hrel
    by_cases hlt : k < n
    · obtain ⟨ad, x, rfl, _, hx, hc⟩ := h.map_at hlt
      have Hx := hide hx
      clear hx
      go_wp2_with (go_at_call 180; refine (areMore_1 _ _).mono ?_; rintro e w' ⟨rfl, m', rfl⟩)
      · rename_i h0
        go_ret
        exact ⟨ret_int (ixf_at Hx.out ha.out h0).symm, _, rfl⟩
      · rename_i h0
        go_roundw
        case rel => exact ⟨k + 1, _, by omega, by go_num, rfl, hide (by rw [take_eq Hx.out, List.all_append, ha.out]; simp at h0; simp [h0])⟩
        case measure => simp [intOf]; omega
    · go_wp2
      go_ret
      refine ⟨ret_int (ixf_none ?_).symm, _, rfl⟩
      rw [← ha.out, List.take_of_length_le (by rw [Hlen.out]; omega)]
theorem containsFunc_areMore (A : Option Addr) (n c : Nat) (xs : List Nat) (B : Nat) (w : World) (h : Reads w B 1 A n (fl .f32 xs)) (hn : n ≤ maxLen) :
    Calls Tryz.prog 167 #[.slice A n c, .func (.func 180) #[] #[]] w fun e w' => e = .returned (.bool (xs.any (fun x => !pos x))) ∧ ∃ n, w' = w.drewN n := by
  go_enter Tryz.func167, Tryz.ntmps167
  go_wp2_with (go_at_call 209; refine (indexFunc_areMore _ _ _ xs _ _ h hn).mono ?_; rintro e w' ⟨rfl, m', rfl⟩)
  go_ret
  refine ⟨ret_bool ?_, _, rfl⟩
  rw [← ixf_ge]
theorem i_areMore (A : Option Addr) (n c : Nat) (xs : List Nat) (B : Nat) (w : World) (h : Reads w B 1 A n (fl .f32 xs)) (hn : n ≤ maxLen) :
    Calls Tryz.prog 122 #[.slice A n c] w fun e w' => e = .returned (.bool (xs.all pos)) ∧ ∃ n, w' = w.drewN n := by
  go_enter Tryz.func122, Tryz.ntmps122
  go_wp2_with (go_at_call 167; refine (containsFunc_areMore _ _ _ xs _ _ h hn).mono ?_; rintro e w' ⟨rfl, m', rfl⟩)
  go_ret
  refine ⟨ret_bool ?_, _, rfl⟩
  rw [List.all_eq_not_any_not]
theorem s_l02Above (x : Nat) (w : World) : Calls Tryz.prog 171 #[.float .f32 x] w fun e w' => e = .returned (.bool (pos x)) ∧ ∃ n, w' = w.drewN n := by
  have hp : Hid (pos x = (fin .f32 x && (FloatKind.f32.format.order x 0 == some .gt))) := hide rfl
  cases hf : fin .f32 x
  all_goals
    go_enter Tryz.func171, Tryz.ntmps171
    go_wp2_with (go_at_call 206; refine (s_l01Finite _ _).mono ?_; rintro e w' ⟨rfl, m', rfl⟩)
    go_ret
    exact ⟨ret_bool (by rw [hp.out, hf]; simp), _, rfl⟩

/-- Is a list one of numbers that are told. -/
def isToldL (xs : List Nat) : Bool := decide (1 ≤ xs.length) && decide (xs.length ≤ 256) && xs.all (fin .f32)
theorem told_len {xs : List Nat} (h : isToldL xs = true) : 1 ≤ xs.length ∧ xs.length ≤ 256 := by
  unfold isToldL at h
  simp at h
  exact h.1
theorem fl_eq {op : BinOp} {k : FloatKind} {x y a b : Nat} {w : World} (hx : cn k x = a) (hy : cn k y = b) : cn k (flR op k x y w) = fb op k a b := by rw [cn_flR, ← fb_cn, hx, hy]
theorem fl_eqr {op : BinOp} {k : FloatKind} {x y b : Nat} {w : World} (hy : cn k y = b) : cn k (flR op k x y w) = fb op k x b := by rw [cn_flR, ← fb_cnr, hy]
theorem fl_eql {op : BinOp} {k : FloatKind} {x y a : Nat} {w : World} (hx : cn k x = a) : cn k (flR op k x y w) = fb op k a y := by rw [cn_flR, ← fb_cnl, hx]

/-- The same of two numbers, or of one, that have just been laid. -/
theorem i_areFinite2 (w : World) (e : TypeId) (a b g : Nat) (hg : g = w.heap.size) {RA RB : Nat} (hA : cn .f32 a = RA) (hB : cn .f32 b = RB) :
    Calls Tryz.prog 143 #[.slice (some ⟨g, 0, none⟩) 2 2] (w.alloc (.cells #[.float .f32 a, .float .f32 b] e)) fun r w' => r = .returned (.bool (fin .f32 RA && fin .f32 RB)) ∧ Hid (cn .f32 a = RA) ∧ Hid (cn .f32 b = RB) ∧ ∃ n, w' = (w.alloc (.cells #[.float .f32 a, .float .f32 b] e)).drewN n := by
  subst hg
  refine (i_areFinite _ _ _ [a, b] _ _ (reads_new (Value.float .f32) w e [a, b]) (by simp [maxLen])).mono ?_
  rintro r w' ⟨rfl, h⟩
  exact ⟨by simp [← hA, ← hB, fin_cn], hA, hB, h⟩
theorem i_areMore1 (w : World) (e : TypeId) (a g : Nat) (hg : g = w.heap.size) :
    Calls Tryz.prog 122 #[.slice (some ⟨g, 0, none⟩) 1 1] (w.alloc (.cells #[.float .f32 a] e)) fun r w' => r = .returned (.bool (pos a)) ∧ ∃ n, w' = (w.alloc (.cells #[.float .f32 a] e)).drewN n := by
  subst hg
  refine (i_areMore _ _ _ [a] _ _ (reads_new (Value.float .f32) w e [a]) (by simp [maxLen])).mono ?_
  rintro r w' ⟨rfl, h⟩
  exact ⟨by simp, h⟩
end Go.Proofs.YtnpccnhamohnkaaGreatDoor

/-
  Rounding, in plain numbers: the rung that a number is written to rises with the number, and a number that the format has is written as it is.
-/
namespace Go.Proofs.YtnpccnhamohnkaaGreatDoor.Fl
open Go.RowKit
set_option linter.unusedVariables false

/-- 'n / 2^d' to the nearest whole number, between two the even one. -/
def rnd (n d : Nat) : Nat := n / 2 ^ d + (if 2 ^ d < 2 * (n % 2 ^ d) ∨ (2 ^ d = 2 * (n % 2 ^ d) ∧ n / 2 ^ d % 2 = 1) then 1 else 0)

theorem cut_rnd (s : Bool) (n d : Nat) : Ieee.Toward.even.cut s n d = rnd n d := by
  unfold Ieee.Toward.cut rnd
  rw [Nat.shiftLeft_eq, Nat.one_mul]
  rcases Nat.le_total d (n.log2 + 2) with h | h
  · rw [Nat.min_eq_left h]
    simp only [Nat.add_left_cancel_iff]
    by_cases h1 : 2 ^ d < 2 * (n % 2 ^ d)
    · simp [h1]
    · by_cases h2 : 2 ^ d = 2 * (n % 2 ^ d)
      · rw [← h2]
        by_cases h3 : n / 2 ^ d % 2 = 1 <;> simp [h3]
      · have h2' : (2 ^ d == 2 * (n % 2 ^ d)) = false := by simpa using h2
        simp [h1, h2, h2']
  · rw [Nat.min_eq_right h]
    have hlt : n < 2 ^ (n.log2 + 1) := Nat.lt_log2_self
    have e1 : 2 ^ (n.log2 + 2) = 2 * 2 ^ (n.log2 + 1) := by rw [Nat.pow_succ 2 (n.log2 + 1), Nat.mul_comm]
    have e2 : 2 ^ (n.log2 + 2) ≤ 2 ^ d := Nat.pow_le_pow_right (by omega) h
    have d1 : n / 2 ^ (n.log2 + 2) = 0 := Nat.div_eq_of_lt (by omega)
    have d2 : n / 2 ^ d = 0 := Nat.div_eq_of_lt (by omega)
    have m1 : n % 2 ^ (n.log2 + 2) = n := Nat.mod_eq_of_lt (by omega)
    have m2 : n % 2 ^ d = n := Nat.mod_eq_of_lt (by omega)
    simp only []
    rw [d1, d2, m1, m2]
    have c1 : ¬ 2 ^ (n.log2 + 2) < 2 * n := by omega
    have c3 : ¬ 2 ^ d < 2 * n := by omega
    simp [c1, c3]

/-- Doubled, and one more or less: where the rounded number lies. -/
theorem rnd_le (n d : Nat) : 2 * (rnd n d * 2 ^ d) ≤ 2 * n + 2 ^ d := by
  unfold rnd
  have h := Nat.div_add_mod n (2 ^ d)
  have hm := Nat.mod_lt n (Nat.two_pow_pos d)
  generalize n / 2 ^ d = q at *
  generalize n % 2 ^ d = r at *
  generalize 2 ^ d = g at *
  rw [Nat.mul_comm] at h
  split
  · rename_i hc
    rw [Nat.add_mul]
    omega
  · rw [Nat.add_zero]; omega
theorem rnd_ge (n d : Nat) : 2 * n ≤ 2 * (rnd n d * 2 ^ d) + 2 ^ d := by
  unfold rnd
  have h := Nat.div_add_mod n (2 ^ d)
  have hm := Nat.mod_lt n (Nat.two_pow_pos d)
  generalize n / 2 ^ d = q at *
  generalize n % 2 ^ d = r at *
  generalize 2 ^ d = g at *
  rw [Nat.mul_comm] at h
  split
  · rename_i hc
    rw [Nat.add_mul]
    omega
  · rename_i hc
    rw [Nat.add_zero]; omega

/-- The rounded number rises. -/
theorem rnd_mono {n n' : Nat} (d : Nat) (h : n ≤ n') : rnd n d ≤ rnd n' d := by
  have hg := Nat.two_pow_pos d
  have h1 := Nat.div_add_mod n (2 ^ d)
  have h2 := Nat.div_add_mod n' (2 ^ d)
  have hm1 := Nat.mod_lt n hg
  have hm2 := Nat.mod_lt n' hg
  have hq : n / 2 ^ d ≤ n' / 2 ^ d := Nat.div_le_div_right h
  unfold rnd
  rcases Nat.lt_or_ge (n / 2 ^ d) (n' / 2 ^ d) with hlt | hge
  · split <;> split <;> omega
  · have he : n / 2 ^ d = n' / 2 ^ d := by omega
    rw [he] at h1 ⊢
    have hr : n % 2 ^ d ≤ n' % 2 ^ d := by omega
    generalize n' / 2 ^ d = q at *
    generalize n % 2 ^ d = r at *
    generalize n' % 2 ^ d = r' at *
    generalize 2 ^ d = g at *
    split
    · rename_i hc
      rw [if_pos]
      · omega
      · rcases hc with hc | ⟨hc, hc'⟩
        · left; omega
        · rcases Nat.lt_or_ge g (2 * r') with h5 | h5
          · left; exact h5
          · right; exact ⟨by omega, hc'⟩
    · omega
theorem rnd_shift (n d j : Nat) : rnd (n * 2 ^ j) (d + j) = rnd n d := by
  unfold rnd
  have hj := Nat.two_pow_pos j
  have e1 : n * 2 ^ j / 2 ^ (d + j) = n / 2 ^ d := by rw [Nat.pow_add, Nat.mul_div_mul_right _ _ hj]
  have e2 : n * 2 ^ j % 2 ^ (d + j) = n % 2 ^ d * 2 ^ j := by rw [Nat.pow_add, Nat.mul_mod_mul_right]
  rw [e1, e2, Nat.pow_add]
  have c1 : (2 ^ d * 2 ^ j < 2 * (n % 2 ^ d * 2 ^ j)) ↔ (2 ^ d < 2 * (n % 2 ^ d)) := by rw [← Nat.mul_assoc]; exact Nat.mul_lt_mul_right hj
  have c2 : (2 ^ d * 2 ^ j = 2 * (n % 2 ^ d * 2 ^ j)) ↔ (2 ^ d = 2 * (n % 2 ^ d)) := by rw [← Nat.mul_assoc]; exact Nat.mul_right_cancel_iff hj
  simp only [c1, c2]
theorem rnd_zero (n : Nat) : rnd n 0 = n := by unfold rnd; simp [Nat.mod_one]

/-- The place of the last digit that is kept. -/
def lastOf (f : Ieee.Format) (m : Nat) (e : Int) : Int := max (e + m.log2 - f.fractionBits) f.leastPlace
/-- The rung that 'm 2^e' is written to; 0 for 0. -/
def rungOf (f : Ieee.Format) (m : Nat) (e : Int) : Nat :=
  if m = 0 then 0 else (lastOf f m e - f.leastPlace).toNat * f.binade + rnd (m * 2 ^ (e - lastOf f m e).toNat) (lastOf f m e - e).toNat

theorem nearest_rung (f : Ieee.Format) (s : Bool) (m : Nat) (e : Int) : f.nearest s m e = f.word s (min (rungOf f m e) f.infRung) := by
  unfold Ieee.Format.nearest rungOf
  by_cases h : m = 0
  · rw [if_pos h, if_pos h]; simp
  · rw [if_neg h, if_neg h]
    simp only [cut_rnd, Nat.shiftLeft_eq]
    rfl

/-- 'm 2^e' is at most 'n 2^j'. -/
def NumLe (m : Nat) (e : Int) (n : Nat) (j : Int) : Prop := m * 2 ^ (e - min e j).toNat ≤ n * 2 ^ (j - min e j).toNat
theorem NumLe.at_ {m n : Nat} {e j : Int} (h : NumLe m e n j) {b : Int} (h1 : b ≤ e) (h2 : b ≤ j) : m * 2 ^ (e - b).toNat ≤ n * 2 ^ (j - b).toNat := by
  unfold NumLe at h
  have e1 : (e - b).toNat = (e - min e j).toNat + (min e j - b).toNat := by omega
  have e2 : (j - b).toNat = (j - min e j).toNat + (min e j - b).toNat := by omega
  rw [e1, e2, Nat.pow_add, Nat.pow_add, ← Nat.mul_assoc, ← Nat.mul_assoc]
  exact Nat.mul_le_mul_right _ h
theorem NumLe.of {m n : Nat} {e j : Int} {b : Int} (h1 : b ≤ e) (h2 : b ≤ j) (h : m * 2 ^ (e - b).toNat ≤ n * 2 ^ (j - b).toNat) : NumLe m e n j := by
  unfold NumLe
  have e1 : (e - b).toNat = (e - min e j).toNat + (min e j - b).toNat := by omega
  have e2 : (j - b).toNat = (j - min e j).toNat + (min e j - b).toNat := by omega
  rw [e1, e2, Nat.pow_add, Nat.pow_add, ← Nat.mul_assoc, ← Nat.mul_assoc] at h
  exact Nat.le_of_mul_le_mul_right h (Nat.two_pow_pos _)
theorem NumLe.log {m n : Nat} {e j : Int} (hm : m ≠ 0) (h : NumLe m e n j) : e + m.log2 ≤ j + n.log2 := by
  have hn : n ≠ 0 := by
    rintro rfl
    unfold NumLe at h
    rw [Nat.zero_mul] at h
    have : 0 < m * 2 ^ (e - min e j).toNat := Nat.mul_pos (by omega) (Nat.two_pow_pos _)
    omega
  have h1 : 2 ^ (m.log2 + (e - min e j).toNat) ≤ m * 2 ^ (e - min e j).toNat := by
    rw [Nat.pow_add]; exact Nat.mul_le_mul_right _ (Nat.log2_self_le hm)
  have h2 : n * 2 ^ (j - min e j).toNat < 2 ^ (n.log2 + 1 + (j - min e j).toNat) := by
    rw [Nat.pow_add]; exact Nat.mul_lt_mul_of_pos_right Nat.lt_log2_self (Nat.two_pow_pos _)
  have h3 : 2 ^ (m.log2 + (e - min e j).toNat) < 2 ^ (n.log2 + 1 + (j - min e j).toNat) := Nat.lt_of_le_of_lt h1 (Nat.lt_of_le_of_lt h h2)
  have h4 := (Nat.pow_lt_pow_iff_right (by omega : 1 < 2)).1 h3
  omega

/-- What is kept has at most one digit more than the fraction field, or is that power of two; and no fewer digits, unless the number is small. -/
theorem kept_le (f : Ieee.Format) {m : Nat} {e : Int} (hm : m ≠ 0) : rnd (m * 2 ^ (e - lastOf f m e).toNat) (lastOf f m e - e).toNat ≤ 2 * f.binade := by
  have hl : e + m.log2 - f.fractionBits ≤ lastOf f m e := by unfold lastOf; omega
  have h1 : rnd (m * 2 ^ (e - lastOf f m e).toNat) (lastOf f m e - e).toNat ≤ rnd (2 ^ (f.fractionBits + 1) * 2 ^ (lastOf f m e - e).toNat) (lastOf f m e - e).toNat := by
    refine rnd_mono _ ?_
    rw [← Nat.pow_add]
    have h2 : m * 2 ^ (e - lastOf f m e).toNat ≤ 2 ^ (m.log2 + 1 + (e - lastOf f m e).toNat) := by
      rw [Nat.pow_add]; exact Nat.mul_le_mul_right _ (Nat.le_of_lt Nat.lt_log2_self)
    refine Nat.le_trans h2 (Nat.pow_le_pow_right (by omega) ?_)
    omega
  have h3 := rnd_shift (2 ^ (f.fractionBits + 1)) 0 (lastOf f m e - e).toNat
  rw [Nat.zero_add, rnd_zero] at h3
  rw [h3] at h1
  unfold Ieee.Format.binade
  rw [Nat.pow_succ] at h1
  omega
theorem kept_ge (f : Ieee.Format) {m : Nat} {e : Int} (hm : m ≠ 0) (hl : lastOf f m e = e + m.log2 - f.fractionBits) : f.binade ≤ rnd (m * 2 ^ (e - lastOf f m e).toNat) (lastOf f m e - e).toNat := by
  have h1 : rnd (2 ^ f.fractionBits * 2 ^ (lastOf f m e - e).toNat) (lastOf f m e - e).toNat ≤ rnd (m * 2 ^ (e - lastOf f m e).toNat) (lastOf f m e - e).toNat := by
    refine rnd_mono _ ?_
    rw [← Nat.pow_add]
    have h2 : 2 ^ (m.log2 + (e - lastOf f m e).toNat) ≤ m * 2 ^ (e - lastOf f m e).toNat := by
      rw [Nat.pow_add]; exact Nat.mul_le_mul_right _ (Nat.log2_self_le hm)
    refine Nat.le_trans (Nat.pow_le_pow_right (by omega) ?_) h2
    omega
  have h3 := rnd_shift (2 ^ f.fractionBits) 0 (lastOf f m e - e).toNat
  rw [Nat.zero_add, rnd_zero] at h3
  rw [h3] at h1
  exact h1

/-- THE RUNG RISES WITH THE NUMBER. -/
theorem rung_mono (f : Ieee.Format) {m n : Nat} {e j : Int} (h : NumLe m e n j) : rungOf f m e ≤ rungOf f n j := by
  by_cases hm : m = 0
  · unfold rungOf; rw [if_pos hm]; omega
  have hlog := h.log hm
  have hn : n ≠ 0 := by
    rintro rfl
    unfold NumLe at h
    rw [Nat.zero_mul] at h
    have : 0 < m * 2 ^ (e - min e j).toNat := Nat.mul_pos (by omega) (Nat.two_pow_pos _)
    omega
  have hle : lastOf f m e ≤ lastOf f n j := by unfold lastOf; omega
  have k1 := kept_le f (e := e) hm
  unfold rungOf
  rw [if_neg hm, if_neg hn]
  rcases Int.lt_or_le (lastOf f m e) (lastOf f n j) with hlt | hge
  · have hl : lastOf f n j = j + n.log2 - f.fractionBits := by unfold lastOf at *; omega
    have k2 := kept_ge f (e := j) hn hl
    have hb : (lastOf f m e - f.leastPlace).toNat + 1 ≤ (lastOf f n j - f.leastPlace).toNat := by
      have : f.leastPlace ≤ lastOf f m e := by unfold lastOf; omega
      omega
    have hb2 := Nat.mul_le_mul_right f.binade hb
    rw [Nat.add_mul, Nat.one_mul] at hb2
    omega
  · have he : lastOf f m e = lastOf f n j := by omega
    rw [he]
    refine Nat.add_le_add_left ?_ _
    -- both are brought to one place
    have hb := h.at_ (b := min (min e j) (lastOf f n j)) (by omega) (by omega)
    have r1 := rnd_shift (m * 2 ^ (e - lastOf f n j).toNat) (lastOf f n j - e).toNat (min e (lastOf f n j) - min (min e j) (lastOf f n j)).toNat
    have r2 := rnd_shift (n * 2 ^ (j - lastOf f n j).toNat) (lastOf f n j - j).toNat (min j (lastOf f n j) - min (min e j) (lastOf f n j)).toNat
    rw [← r1, ← r2]
    rw [Nat.mul_assoc, Nat.mul_assoc, ← Nat.pow_add, ← Nat.pow_add]
    rw [show (lastOf f n j - e).toNat + (min e (lastOf f n j) - min (min e j) (lastOf f n j)).toNat = (lastOf f n j - min (min e j) (lastOf f n j)).toNat by omega]
    rw [show (lastOf f n j - j).toNat + (min j (lastOf f n j) - min (min e j) (lastOf f n j)).toNat = (lastOf f n j - min (min e j) (lastOf f n j)).toNat by omega]
    rw [show (e - lastOf f n j).toNat + (min e (lastOf f n j) - min (min e j) (lastOf f n j)).toNat = (e - min (min e j) (lastOf f n j)).toNat by omega]
    rw [show (j - lastOf f n j).toNat + (min j (lastOf f n j) - min (min e j) (lastOf f n j)).toNat = (j - min (min e j) (lastOf f n j)).toNat by omega]
    exact rnd_mono _ hb

/-- What a rung stands for. -/
def magOf (f : Ieee.Format) (r : Nat) : Nat := if r < f.binade then r else f.binade + r % f.binade
def placeOf (f : Ieee.Format) (r : Nat) : Int := if r < f.binade then f.leastPlace else f.leastPlace + (r / f.binade - 1 : Nat)

theorem read_word {k : FloatKind} {s : Bool} {r : Nat} (h : r < k.format.infRung) : k.format.read (k.format.word s r) = .number s (magOf k.format r) (placeOf k.format r) := by
  unfold Ieee.Format.read Ieee.Format.word magOf placeOf
  have hlt := Ieee.Format.infRung_lt k.format
  have hw : 0 < k.format.signWeight := by omega
  have hm : (if s = true then k.format.signWeight + r else r) % k.format.signWeight = r := by
    split
    · rw [Nat.add_mod_left, Nat.mod_eq_of_lt (by omega)]
    · exact Nat.mod_eq_of_lt (by omega)
  have hs : ((if s = true then k.format.signWeight + r else r) / k.format.signWeight % 2 == 1) = s := by
    cases s
    · rw [if_neg (by simp), Nat.div_eq_of_lt (by omega)]; rfl
    · rw [if_pos rfl, Nat.add_div_left _ hw, Nat.div_eq_of_lt (by omega)]; rfl
  simp only [hm, hs]
  split
  · rfl
  · rfl

theorem binade_pos (f : Ieee.Format) : 0 < f.binade := Nat.two_pow_pos _

/-- A number that the format has is written as it is. -/
theorem rung_read (f : Ieee.Format) (r : Nat) : rungOf f (magOf f r) (placeOf f r) = r := by
  have hB := binade_pos f
  unfold magOf placeOf
  by_cases h : r < f.binade
  · rw [if_pos h, if_pos h]
    unfold rungOf
    by_cases h0 : r = 0
    · rw [if_pos h0, h0]
    · rw [if_neg h0]
      have hl : r.log2 < f.fractionBits := (Nat.log2_lt h0).2 h
      have : lastOf f r f.leastPlace = f.leastPlace := by unfold lastOf; omega
      rw [this]
      simp [rnd_zero]
  · rw [if_neg h, if_neg h]
    unfold rungOf
    have hmod := Nat.mod_lt r hB
    rw [if_neg (by omega)]
    have hl1 : f.fractionBits ≤ (f.binade + r % f.binade).log2 := (Nat.le_log2 (by omega)).2 (Nat.le_add_right _ _)
    have hl2 : (f.binade + r % f.binade).log2 < f.fractionBits + 1 := (Nat.log2_lt (by omega)).2 (by rw [Nat.pow_succ]; unfold Ieee.Format.binade at *; omega)
    have hl : (f.binade + r % f.binade).log2 = f.fractionBits := by omega
    have : lastOf f (f.binade + r % f.binade) (f.leastPlace + (r / f.binade - 1 : Nat)) = f.leastPlace + (r / f.binade - 1 : Nat) := by unfold lastOf; rw [hl]; omega
    rw [this]
    simp only [Int.sub_self, Int.toNat_zero, Nat.pow_zero, Nat.mul_one, rnd_zero]
    rw [show (f.leastPlace + ((r / f.binade - 1 : Nat) : Int) - f.leastPlace).toNat = r / f.binade - 1 by omega]
    have hd : 1 ≤ r / f.binade := (Nat.one_le_div_iff hB).2 (by omega)
    have h1 := Nat.div_add_mod r f.binade
    have h2 : (r / f.binade - 1) * f.binade + f.binade = r / f.binade * f.binade := by
      have : r / f.binade = (r / f.binade - 1) + 1 := by omega
      rw [this]
      rw [Nat.add_sub_cancel, Nat.add_mul, Nat.one_mul]
    rw [Nat.mul_comm] at h1
    omega

theorem NumLe.total (m n : Nat) (e j : Int) : NumLe m e n j ∨ NumLe n j m e := by
  unfold NumLe
  rw [Int.min_comm j e]
  exact Nat.le_total _ _
theorem numle_of_rung (f : Ieee.Format) {r r' : Nat} (h : r ≤ r') : NumLe (magOf f r) (placeOf f r) (magOf f r') (placeOf f r') := by
  rcases Nat.eq_or_lt_of_le h with rfl | h
  · exact Nat.le_refl _
  · rcases NumLe.total (magOf f r) (magOf f r') (placeOf f r) (placeOf f r') with h1 | h1
    · exact h1
    · have := rung_mono f h1
      rw [rung_read, rung_read] at this
      omega
/-- What is at most a number that the format has is written to no higher rung. -/
theorem rung_le (f : Ieee.Format) {m : Nat} {e : Int} {r : Nat} (h : NumLe m e (magOf f r) (placeOf f r)) : rungOf f m e ≤ r := by
  have := rung_mono f h
  rwa [rung_read] at this
theorem rung_ge (f : Ieee.Format) {m : Nat} {e : Int} {r : Nat} (h : NumLe (magOf f r) (placeOf f r) m e) : r ≤ rungOf f m e := by
  have := rung_mono f h
  rwa [rung_read] at this
end Go.Proofs.YtnpccnhamohnkaaGreatDoor.Fl

/-
  'min' and 'max' of floats as rules of the walk, and the greatest absolute value in two ways.
-/
namespace Go.Proofs.YtnpccnhamohnkaaGreatDoor.Fl
open Go.RowKit
set_option linter.unusedVariables false

/-- The greater one (mx) or the lesser one of two numbers; none: a not-a-number. -/
def mmBits (mx : Bool) (k : FloatKind) (x y : Nat) : Option Nat :=
  match k.format.order x y with
  | none => none
  | some .lt => some (if mx then y else x)
  | some .gt => some (if mx then x else y)
  | some .eq => some (if (k.decode x).neg = mx then y else x)
def mmR (mx : Bool) (k : FloatKind) (x y : Nat) (w : World) : Nat := (mmBits mx k x y).getD ((Question.nanMinMax k mx x y).cut (w.tape w.drawn (.nanMinMax k mx x y)))
def mmN (mx : Bool) (k : FloatKind) (x y : Nat) : Nat := if (mmBits mx k x y).isSome then 0 else 1
/-- The same, told. -/
def mm (mx : Bool) (k : FloatKind) (x y : Nat) : Nat := cn k ((mmBits mx k x y).getD (nanOf k))
theorem cn_mmR (mx : Bool) (k : FloatKind) (x y : Nat) (w : World) : cn k (mmR mx k x y w) = mm mx k x y := by
  unfold mmR mm
  cases mmBits mx k x y with
  | some r => rfl
  | none => simp only [Option.getD_none]; rw [cn_nan (drawn_minmax k mx x y _).1, cn_nan (isNan_nanOf k)]
theorem cn_mm (mx : Bool) (k : FloatKind) (x y : Nat) : cn k (mm mx k x y) = mm mx k x y := by unfold mm; rw [cn_cn]
theorem order_nanl {k : FloatKind} {x : Nat} (h : isNan k x = true) (y : Nat) : k.format.order x y = none := by
  obtain ⟨s, t, hr⟩ := read_nan h
  unfold Ieee.Format.order
  rw [hr]; rfl
theorem order_nanr {k : FloatKind} {y : Nat} (h : isNan k y = true) (x : Nat) : k.format.order x y = none := by
  obtain ⟨s, t, hr⟩ := read_nan h
  unfold Ieee.Format.order
  rw [hr]
  cases k.format.read x <;> rfl
theorem mm_cnl (mx : Bool) (k : FloatKind) (x y : Nat) : mm mx k (cn k x) y = mm mx k x y := by
  cases h : isNan k x
  · rw [cn_num h]
  · unfold mm mmBits
    rw [order_nanl h, order_nanl (by rw [isNan_cn]; exact h)]
theorem mm_cnr (mx : Bool) (k : FloatKind) (x y : Nat) : mm mx k x (cn k y) = mm mx k x y := by
  cases h : isNan k y
  · rw [cn_num h]
  · unfold mm mmBits
    rw [order_nanr h, order_nanr (by rw [isNan_cn]; exact h)]

section
variable {P : Program}
theorem run_max2_float (k k' : FloatKind) (x y : Nat) (w : World) : (Builtin.max2 (.float k x) (.float k' y)).run P w = .ok (.float k (mmR true k x y w)) (w.drewN (mmN true k x y)) := by
  unfold Builtin.max2 mmR mmN mmBits
  cases h : k.format.order x y with
  | none => simp [h, go_sem, World.drew_is_drewN]
  | some o => cases o <;> simp [h, World.drewN_zero]
theorem run_min2_float (k k' : FloatKind) (x y : Nat) (w : World) : (Builtin.min2 (.float k x) (.float k' y)).run P w = .ok (.float k (mmR false k x y w)) (w.drewN (mmN false k x y)) := by
  unfold Builtin.min2 mmR mmN mmBits
  cases h : k.format.order x y with
  | none => simp [h, go_sem, World.drew_is_drewN]
  | some o => cases o <;> simp [h, World.drewN_zero] <;> cases (k.decode x).neg <;> rfl
@[go_sem] theorem run_max_float2 (ts : Array TypeId) (t : TypeId) (k k' : FloatKind) (x y : Nat) (w : World) : (Builtin.max_ ts t #[.float k x, .float k' y]).run P w = .ok (.float k (mmR true k x y w)) (w.drewN (mmN true k x y)) := by
  simp only [Builtin.max_, List.foldlM_cons, List.foldlM_nil, bind_pure, run_max2_float]
@[go_sem] theorem run_min_float2 (ts : Array TypeId) (t : TypeId) (k k' : FloatKind) (x y : Nat) (w : World) : (Builtin.min_ ts t #[.float k x, .float k' y]).run P w = .ok (.float k (mmR false k x y w)) (w.drewN (mmN false k x y)) := by
  simp only [Builtin.min_, List.foldlM_cons, List.foldlM_nil, bind_pure, run_min2_float]
@[go_sem] theorem run_max_float3 (ts : Array TypeId) (t : TypeId) (k k' k'' : FloatKind) (x y z : Nat) (w : World) : (Builtin.max_ ts t #[.float k x, .float k' y, .float k'' z]).run P w =
    .ok (.float k (mmR true k (mmR true k x y w) z (w.drewN (mmN true k x y)))) (w.drewN (mmN true k x y + mmN true k (mmR true k x y w) z)) := by
  simp only [Builtin.max_, List.foldlM_cons, List.foldlM_nil, bind_pure, Sem.run_bind, run_max2_float, Result.andThen_ok, World.drewN_drewN]
end

theorem read_neg (k : FloatKind) (x : Nat) : k.format.read (Op.negFloat k x) = (k.format.read x).opposite := by
  have h1 : Op.negFloat k x % k.format.signWeight = x % k.format.signWeight := by
    unfold Op.negFloat Ieee.Format.signWeight
    rw [Nat.xor_mod_two_pow, Nat.mod_self, Nat.xor_zero]
  have h2 : Op.negFloat k x / k.format.signWeight % 2 = 1 - x / k.format.signWeight % 2 := by
    unfold Op.negFloat Ieee.Format.signWeight
    rw [Nat.xor_div_two_pow, Nat.div_self (Nat.two_pow_pos _)]
    generalize x / 2 ^ (k.format.exponentBits + k.format.fractionBits) = q
    have := Nat.xor_mod_two_pow (a := q) (b := 1) (n := 1)
    simp only [Nat.pow_one] at this
    rw [this]
    rcases Nat.mod_two_eq_zero_or_one q with h | h <;> rw [h] <;> rfl
  unfold Ieee.Format.read
  simp only [h1, h2]
  have h3 : (1 - x / k.format.signWeight % 2 == 1) = !(x / k.format.signWeight % 2 == 1) := by
    rcases Nat.mod_two_eq_zero_or_one (x / k.format.signWeight) with h | h <;> rw [h] <;> rfl
  rw [h3]
  split
  · rfl
  · split
    · rfl
    · split <;> rfl

theorem signed_false (m u : Nat) : 0 ≤ Ieee.signed false m u := by unfold Ieee.signed; rw [if_neg (by simp)]; exact Int.natCast_nonneg _
theorem signed_true (m u : Nat) : Ieee.signed true m u ≤ 0 := by unfold Ieee.signed; rw [if_pos rfl]; have := Int.natCast_nonneg (m <<< u); omega
theorem ord_pn {k : FloatKind} {x y m n : Nat} {i j : Int} (hx : k.format.read x = .number false m i) (hy : k.format.read y = .number true n j) : k.format.order x y = some .gt ∨ k.format.order x y = some .eq := by
  rw [order_num hx hy (b := min i j) (by omega) (by omega), compare_int]
  have h1 := signed_false m (i - min i j).toNat
  have h2 := signed_true n (j - min i j).toNat
  unfold sval
  split
  · omega
  · split <;> simp
theorem ord_np {k : FloatKind} {x y m n : Nat} {i j : Int} (hx : k.format.read x = .number true m i) (hy : k.format.read y = .number false n j) : k.format.order x y = some .lt ∨ k.format.order x y = some .eq := by
  rw [order_num hx hy (b := min i j) (by omega) (by omega), compare_int]
  have h1 := signed_true m (i - min i j).toNat
  have h2 := signed_false n (j - min i j).toNat
  unfold sval
  split
  · simp
  · split
    · simp
    · omega
theorem num_nan {k : FloatKind} {x : Nat} {s : Bool} {m : Nat} {i : Int} (h : k.format.read x = .number s m i) : isNan k x = false := by unfold isNan; rw [h]; rfl
theorem mm_pn {k : FloatKind} {x y m n : Nat} {i j : Int} (hx : k.format.read x = .number false m i) (hy : k.format.read y = .number true n j) : mm true k x y = x := by
  have hd : k.decode x = .number false m i := hx
  unfold mm mmBits
  rcases ord_pn hx hy with h | h
  · rw [h]; exact cn_num (num_nan hx)
  · rw [h]; simp only [hd, Ieee.Datum.neg, Bool.false_eq_true, if_false, Option.getD_some]; exact cn_num (num_nan hx)
theorem mm_np {k : FloatKind} {x y m n : Nat} {i j : Int} (hx : k.format.read x = .number true m i) (hy : k.format.read y = .number false n j) : mm true k x y = y := by
  have hd : k.decode x = .number true m i := hx
  unfold mm mmBits
  rcases ord_np hx hy with h | h
  · rw [h]; exact cn_num (num_nan hy)
  · rw [h]; simp only [hd, Ieee.Datum.neg, if_true, Option.getD_some]; exact cn_num (num_nan hy)
theorem mm_pp {k : FloatKind} {x y m n : Nat} {i j : Int} (hx : k.format.read x = .number false m i) (hy : k.format.read y = .number false n j) : ∃ m i, k.format.read (mm true k x y) = .number false m i := by
  have ho := order_num hx hy (b := min i j) (by omega) (by omega)
  unfold mm mmBits
  rw [ho]
  generalize compare (sval false m i (min i j)) (sval false n j (min i j)) = o
  cases o
  · simp only [if_true, Option.getD_some]; rw [cn_num (num_nan hy)]; exact ⟨_, _, hy⟩
  · have hd : k.decode x = .number false m i := hx
    simp only [hd, Ieee.Datum.neg, Bool.false_eq_true, if_false, Option.getD_some]; rw [cn_num (num_nan hx)]; exact ⟨_, _, hx⟩
  · simp only [if_true, Option.getD_some]; rw [cn_num (num_nan hx)]; exact ⟨_, _, hx⟩

/-- A number that is at least 0, and has no minus sign. -/
def Pos (k : FloatKind) (x : Nat) : Prop := ∃ m i, k.format.read x = .number false m i
/-- The greatest absolute value in two ways. -/
theorem peak_step {k : FloatKind} {p x : Nat} (hp : Pos k p) (hx : fin k x = true) :
    mm true k p (mm true k x (Op.negFloat k x)) = mm true k (mm true k p x) (Op.negFloat k x) ∧ Pos k (mm true k p (mm true k x (Op.negFloat k x))) := by
  obtain ⟨m, i, hp⟩ := hp
  obtain ⟨s, n, j, hx⟩ := (fin_iff k x).1 hx
  have hn : k.format.read (Op.negFloat k x) = .number (!s) n j := by rw [read_neg, hx]; rfl
  cases s
  · rw [mm_pn hx hn]
    obtain ⟨m', i', hq⟩ := mm_pp hp hx
    rw [mm_pn hq hn]
    exact ⟨rfl, _, _, hq⟩
  · rw [mm_np hx hn, mm_pn hp hx]
    exact ⟨rfl, mm_pp hp hn⟩
theorem pos_zero : Pos .f32 0 := ⟨0, -149, by decide +kernel⟩

/-- The greatest absolute value of numbers. -/
def peakTo (xs : List Nat) : Nat := xs.foldl (fun p x => mm true .f32 p (mm true .f32 x (Op.negFloat .f32 x))) 0
theorem peakTo_snoc (xs : List Nat) (x : Nat) : peakTo (xs ++ [x]) = mm true .f32 (peakTo xs) (mm true .f32 x (Op.negFloat .f32 x)) := by unfold peakTo; rw [List.foldl_append]; rfl
theorem peak_pos (xs : List Nat) : (xs.all (fin .f32) = true) → ∀ p, Pos .f32 p → Pos .f32 (xs.foldl (fun p x => mm true .f32 p (mm true .f32 x (Op.negFloat .f32 x))) p) := by
  induction xs with
  | nil => intro _ p hp; exact hp
  | cons x xs ih =>
    intro h p hp
    simp only [List.all_cons, Bool.and_eq_true] at h
    exact ih h.2 _ (peak_step hp h.1).2
theorem peakTo_snoc' {xs : List Nat} {x : Nat} (h : xs.all (fin .f32) = true) (hx : fin .f32 x = true) : peakTo (xs ++ [x]) = mm true .f32 (mm true .f32 (peakTo xs) x) (Op.negFloat .f32 x) := by
  rw [peakTo_snoc]
  exact (peak_step (peak_pos xs h 0 pos_zero) hx).1
end Go.Proofs.YtnpccnhamohnkaaGreatDoor.Fl

/-
  Two ways to the lesser one of two differences.
-/
namespace Go.Proofs.YtnpccnhamohnkaaGreatDoor.Fl
open Go.RowKit
set_option linter.unusedVariables false

theorem width_sw (k : FloatKind) : 2 ^ k.format.width = k.format.signWeight * 2 := by
  unfold Ieee.Format.width Ieee.Format.signWeight
  rw [← Nat.pow_succ]
  congr 1
  omega
theorem sw_pos (f : Ieee.Format) : 0 < f.signWeight := Nat.two_pow_pos _
/-- A word is a sign and a rung. -/
theorem wf_word {k : FloatKind} {x : Nat} (h : Wf k x) : x = k.format.word (x / k.format.signWeight % 2 == 1) (x % k.format.signWeight) := by
  unfold Wf at h
  rw [width_sw] at h
  have hp := sw_pos k.format
  have hd := Nat.div_add_mod x k.format.signWeight
  have hq : x / k.format.signWeight < 2 := by rw [Nat.div_lt_iff_lt_mul hp, Nat.mul_comm]; exact h
  unfold Ieee.Format.word
  generalize x % k.format.signWeight = r at *
  generalize x / k.format.signWeight = q at *
  rcases Nat.lt_or_ge q 1 with h1 | h1
  · obtain rfl : q = 0 := by omega
    simp at hd ⊢
    omega
  · obtain rfl : q = 1 := by omega
    simp at hd ⊢
    omega
theorem read_of_rung {k : FloatKind} {x : Nat} {s : Bool} {m : Nat} {i : Int} (h : k.format.read x = .number s m i) :
    s = (x / k.format.signWeight % 2 == 1) ∧ x % k.format.signWeight < k.format.infRung ∧ m = magOf k.format (x % k.format.signWeight) ∧ i = placeOf k.format (x % k.format.signWeight) := by
  have hlt := Ieee.Format.infRung_lt k.format
  have hbi : k.format.binade ≤ k.format.infRung := by cases k <;> decide +kernel
  unfold Ieee.Format.read at h
  unfold magOf placeOf
  simp only at h
  split at h
  · rename_i h1
    injection h with h2 h3 h4
    rw [if_pos h1, if_pos h1]
    exact ⟨h2.symm, by omega, h3.symm, h4.symm⟩
  · split at h
    · rename_i h1 h1'
      injection h with h2 h3 h4
      rw [if_neg h1, if_neg h1]
      exact ⟨h2.symm, h1', h3.symm, h4.symm⟩
    · split at h <;> cases h
theorem place_ge (f : Ieee.Format) (r : Nat) : f.leastPlace ≤ placeOf f r := by unfold placeOf; split <;> omega
theorem read_inf {k : FloatKind} {x : Nat} {s : Bool} (h : k.format.read x = .infinity s) : s = (x / k.format.signWeight % 2 == 1) ∧ x % k.format.signWeight = k.format.infRung := by
  unfold Ieee.Format.read at h
  simp only at h
  split at h
  · cases h
  · split at h
    · cases h
    · split at h
      · rename_i h1; injection h with h2; exact ⟨h2.symm, h1⟩
      · cases h
theorem mag_zero {f : Ieee.Format} {r : Nat} (h : magOf f r = 0) : r = 0 := by
  have := binade_pos f
  unfold magOf at h
  split at h <;> omega

theorem rung_eq {f : Ieee.Format} {r r' : Nat} (h1 : NumLe (magOf f r) (placeOf f r) (magOf f r') (placeOf f r')) (h2 : NumLe (magOf f r') (placeOf f r') (magOf f r) (placeOf f r)) : r = r' := by
  have a := rung_mono f h1
  have b := rung_mono f h2
  rw [rung_read, rung_read] at a b
  omega

theorem isNan_word' {k : FloatKind} {s : Bool} {r : Nat} (h : r ≤ k.format.infRung) : isNan k (k.format.word s r) = false := by
  unfold isNan Ieee.Format.read Ieee.Format.word
  have hlt := Ieee.Format.infRung_lt k.format
  have hw : 0 < k.format.signWeight := by omega
  have hm : (if s = true then k.format.signWeight + r else r) % k.format.signWeight = r := by
    split
    · rw [Nat.add_mod_left, Nat.mod_eq_of_lt (by omega)]
    · exact Nat.mod_eq_of_lt (by omega)
  simp only [hm]
  split
  · rfl
  · split
    · rfl
    · rw [if_pos (by omega)]; rfl
theorem isNan_nearest' (k : FloatKind) (s : Bool) (m : Nat) (e : Int) : isNan k (k.format.nearest s m e) = false := by
  unfold Ieee.Format.nearest
  split
  · exact isNan_word' (Nat.zero_le _)
  · exact isNan_word' (Nat.min_le_right _ _)

theorem order_eq {k : FloatKind} {x y : Nat} (hx : Wf k x) (hy : Wf k y) (h : k.format.order x y = some .eq) : x = y ∨ ∃ s i t j, k.format.read x = .number s 0 i ∧ k.format.read y = .number t 0 j := by
  have wx := wf_word hx
  have wy := wf_word hy
  cases rx : k.format.read x with
  | nan s t => unfold Ieee.Format.order at h; rw [rx] at h; simp [Ieee.Datum.order] at h
  | infinity s =>
    cases ry : k.format.read y with
    | nan s t => unfold Ieee.Format.order at h; rw [rx, ry] at h; simp [Ieee.Datum.order] at h
    | number t n j => unfold Ieee.Format.order at h; rw [rx, ry] at h; cases s <;> simp [Ieee.Datum.order] at h
    | infinity t =>
      have hst : s = t := by unfold Ieee.Format.order at h; rw [rx, ry] at h; cases s <;> cases t <;> first | rfl | (exact absurd h (by decide))
      obtain ⟨a1, a2⟩ := read_inf rx
      obtain ⟨b1, b2⟩ := read_inf ry
      left
      rw [wx, wy, ← a1, ← b1, a2, b2, hst]
  | number s m i =>
    cases ry : k.format.read y with
    | nan s t => unfold Ieee.Format.order at h; rw [rx, ry] at h; simp [Ieee.Datum.order] at h
    | infinity t => unfold Ieee.Format.order at h; rw [rx, ry] at h; cases t <;> simp [Ieee.Datum.order] at h
    | number t n j =>
      rw [order_num rx ry (b := min i j) (by omega) (by omega)] at h
      obtain ⟨a1, a2, a3, a4⟩ := read_of_rung rx
      obtain ⟨b1, b2, b3, b4⟩ := read_of_rung ry
      have hv : sval s m i (min i j) = sval t n j (min i j) := by
        injection h with h
        rw [compare_int] at h
        split at h
        · cases h
        · split at h
          · assumption
          · cases h
      have key : m * 2 ^ (i - min i j).toNat = n * 2 ^ (j - min i j).toNat → s = t → x = y := by
        intro he hst
        have hr : x % k.format.signWeight = y % k.format.signWeight := by
          apply rung_eq (f := k.format)
          · rw [← a3, ← a4, ← b3, ← b4]; unfold NumLe; omega
          · rw [← a3, ← a4, ← b3, ← b4]; unfold NumLe; rw [Int.min_comm j i]; omega
        rw [wx, wy, ← a1, ← b1, hr, hst]
      unfold sval Ieee.signed at hv
      rw [Nat.shiftLeft_eq, Nat.shiftLeft_eq] at hv
      have z0 : ∀ (a : Nat) (e : Nat), a * 2 ^ e = 0 → a = 0 := by
        intro a e he
        rcases Nat.mul_eq_zero.1 he with h | h
        · exact h
        · exact absurd h (by have := Nat.two_pow_pos e; omega)
      have hs := z0 m (i - min i j).toNat
      have ht := z0 n (j - min i j).toNat
      generalize m * 2 ^ (i - min i j).toNat = a at *
      generalize n * 2 ^ (j - min i j).toNat = b at *
      cases s <;> cases t
      · left; exact key (by simp at hv; omega) rfl
      · simp at hv
        obtain rfl := hs (by omega)
        obtain rfl := ht (by omega)
        exact .inr ⟨_, _, _, _, rfl, rfl⟩
      · simp at hv
        obtain rfl := hs (by omega)
        obtain rfl := ht (by omega)
        exact .inr ⟨_, _, _, _, rfl, rfl⟩
      · left; exact key (by simp at hv; omega) rfl

theorem order_swap (k : FloatKind) (x y : Nat) : k.format.order y x = (k.format.order x y).map Ordering.swap := by
  unfold Ieee.Format.order
  cases k.format.read x with
  | nan s t => cases k.format.read y <;> rfl
  | infinity s =>
    cases k.format.read y with
    | nan s t => rfl
    | number t n j => cases s <;> rfl
    | infinity t => cases s <;> cases t <;> rfl
  | number s m i =>
    cases k.format.read y with
    | nan s t => rfl
    | infinity t => cases t <;> rfl
    | number t n j =>
      simp only [Ieee.Datum.order, Option.map_some, Int.min_comm j i]
      rw [compare_int, compare_int]
      congr 1
      split
      · rw [if_neg (by omega), if_neg (by omega)]; rfl
      · split
        · rw [if_neg (by omega), if_pos (by omega)]; rfl
        · rw [if_pos (by omega)]; rfl

theorem wf_fb (op : BinOp) (k : FloatKind) (x y : Nat) : Wf k (fb op k x y) := by
  unfold fb
  have hn : Wf k (nanOf k) := by cases k <;> (unfold Wf; decide +kernel)
  cases h : floatBits op k x y with
  | none => simp only [Option.getD_none]; rw [cn_nan (isNan_nanOf k)]; exact hn
  | some r =>
    simp only [Option.getD_some]
    unfold cn
    split
    · exact hn
    · exact lt_of_wf (floatBits_wf h)

/-- A difference that is nought is one of equal numbers. -/
theorem sub_zero {k : FloatKind} {x y : Nat} {s : Bool} {i : Int} (h : k.format.read (fb .sub k x y) = .number s 0 i) : k.format.order x y = some .eq := by
  have hnan : ∀ z, isNan k z = true → k.format.read z ≠ .number s 0 i := by
    intro z hz he
    have := num_nan he
    rw [hz] at this; cases this
  have hinf : ∀ g : Bool, k.format.read (cn k (k.format.write (.infinity g))) ≠ .number s 0 i := by
    intro g he
    have : ∀ t, k.format.read (cn k (k.format.write (.infinity g))) = .infinity t → False := by intro t ht; rw [ht] at he; cases he
    exact this g (by cases k <;> cases g <;> decide +kernel)
  unfold fb floatBits Ieee.Format.sub at h
  simp only at h
  cases rx : k.format.read x with
  | nan a b => rw [rx] at h; simp only [Ieee.Datum.sum, Option.map_none, Option.getD_none] at h; rw [cn_nan (isNan_nanOf k)] at h; exact absurd h (hnan _ (isNan_nanOf k))
  | infinity a =>
    rw [rx] at h
    cases ry : k.format.read y with
    | nan c d => rw [ry] at h; simp only [Ieee.Datum.sum, Ieee.Datum.opposite, Option.map_none, Option.getD_none] at h; rw [cn_nan (isNan_nanOf k)] at h; exact absurd h (hnan _ (isNan_nanOf k))
    | infinity c =>
      rw [ry] at h
      simp only [Ieee.Datum.sum, Ieee.Datum.opposite] at h
      split at h
      · exact absurd h (hinf _)
      · simp only [Option.map_none, Option.getD_none] at h; rw [cn_nan (isNan_nanOf k)] at h; exact absurd h (hnan _ (isNan_nanOf k))
    | number c n j => rw [ry] at h; exact absurd h (hinf _)
  | number a m p =>
    rw [rx] at h
    cases ry : k.format.read y with
    | nan c d => rw [ry] at h; simp only [Ieee.Datum.sum, Ieee.Datum.opposite, Option.map_none, Option.getD_none] at h; rw [cn_nan (isNan_nanOf k)] at h; exact absurd h (hnan _ (isNan_nanOf k))
    | infinity c => rw [ry] at h; exact absurd h (hinf _)
    | number c n j =>
      rw [ry] at h
      simp only [Ieee.Datum.sum, Ieee.Datum.opposite, Option.map_some, Option.getD_some, Ieee.Format.write] at h
      rw [order_num rx ry (b := min p j) (by omega) (by omega)]
      have hneg : Ieee.signed (!c) n (j - min p j).toNat = - Ieee.signed c n (j - min p j).toNat := by
        unfold Ieee.signed
        cases c <;> simp
      rw [hneg] at h
      have hp1 := (read_of_rung rx).2.2.2
      have hp2 := (read_of_rung ry).2.2.2
      have g1 := place_ge k.format (x % k.format.signWeight)
      have g2 := place_ge k.format (y % k.format.signWeight)
      rw [← hp1] at g1
      rw [← hp2] at g2
      unfold sval
      generalize Ieee.signed a m (p - min p j).toNat = A at *
      generalize Ieee.signed c n (j - min p j).toNat = B at *
      rw [compare_int]
      rcases Classical.em (A = B) with he | he
      · rw [if_neg (by omega), if_pos he]
      · exfalso
        rw [if_neg (by omega)] at h
        have hT : (A + -B).natAbs ≠ 0 := by omega
        generalize (A + -B).natAbs = T at *
        generalize (decide (A + -B < 0)) = sg at *
        rw [cn_num (isNan_nearest' k sg T (min p j)), nearest_rung] at h
        have h1 : 1 ≤ rungOf k.format T (min p j) := by
          apply rung_ge
          have hb : (1 : Nat) < k.format.binade := by cases k <;> decide +kernel
          have : magOf k.format 1 = 1 := by unfold magOf; rw [if_pos hb]
          rw [this]
          have : placeOf k.format 1 = k.format.leastPlace := by unfold placeOf; rw [if_pos hb]
          rw [this]
          unfold NumLe
          rw [Int.min_eq_left (by omega), Int.sub_self]
          simp only [Int.toNat_zero, Nat.pow_zero, Nat.mul_one]
          exact Nat.mul_pos (by omega) (Nat.two_pow_pos _)
        rcases Nat.lt_or_ge (rungOf k.format T (min p j)) k.format.infRung with h2 | h2
        · rw [Nat.min_eq_left (by omega), read_word h2] at h
          injection h with h3 h4 h5
          have := mag_zero h4
          omega
        · rw [Nat.min_eq_right h2] at h
          exact hinf sg (by rw [show k.format.write (.infinity sg) = k.format.word sg k.format.infRung from rfl, cn_num (by cases k <;> cases sg <;> decide +kernel)]; exact h)

/-- THE LESSER DIFFERENCE. -/
theorem mm_least {k : FloatKind} {lo hi m : Nat} (hlo : fin k lo = true) (hhi : fin k hi = true) (hlt : k.format.order lo hi = some .lt) :
    mm false k (fb .sub k hi m) (fb .sub k m lo) = if (k.format.order (fb .sub k m lo) (fb .sub k hi m) == some .lt) = true then fb .sub k m lo else fb .sub k hi m := by
  rw [order_swap k (fb .sub k hi m) (fb .sub k m lo)]
  have hx := wf_fb .sub k hi m
  have hy := wf_fb .sub k m lo
  unfold mm mmBits
  cases h : k.format.order (fb .sub k hi m) (fb .sub k m lo) with
  | none =>
    simp only [Option.map_none, Option.getD_none]
    rw [cn_nan (isNan_nanOf k)]
    rw [if_neg (by decide)]
    -- m is a not-a-number
    cases hm : isNan k m with
    | true => unfold fb; rw [floatBits_nan_right hm]; simp only [Option.getD_none]; rw [cn_nan (isNan_nanOf k)]
    | false =>
      exfalso
      obtain ⟨a, m1, i1, r1⟩ := (fin_iff k lo).1 hlo
      obtain ⟨b, m2, i2, r2⟩ := (fin_iff k hi).1 hhi
      have n1 : isNan k (fb .sub k hi m) = false := by
        unfold fb floatBits Ieee.Format.sub
        rw [r2]
        cases rm : k.format.read m with
        | nan c d => unfold isNan at hm; rw [rm] at hm; cases hm
        | infinity c => rw [isNan_cn]; simp only [Ieee.Datum.opposite, Ieee.Datum.sum, Option.map_some, Option.getD_some]; cases k <;> cases c <;> decide +kernel
        | number c n j => rw [isNan_cn]; exact isNan_nearest' _ _ _ _
      have n2 : isNan k (fb .sub k m lo) = false := by
        unfold fb floatBits Ieee.Format.sub
        rw [r1]
        cases rm : k.format.read m with
        | nan c d => unfold isNan at hm; rw [rm] at hm; cases hm
        | infinity c => rw [isNan_cn]; simp only [Ieee.Datum.opposite, Ieee.Datum.sum, Option.map_some, Option.getD_some]; cases k <;> cases c <;> decide +kernel
        | number c n j => rw [isNan_cn]; exact isNan_nearest' _ _ _ _
      generalize fb .sub k hi m = X at *
      generalize fb .sub k m lo = Y at *
      unfold Ieee.Format.order at h
      unfold isNan at n1 n2
      cases rX : k.format.read X with
      | nan c d => rw [rX] at n1; cases n1
      | infinity c =>
        cases rY : k.format.read Y with
        | nan c d => rw [rY] at n2; cases n2
        | infinity d => rw [rX, rY] at h; simp [Ieee.Datum.order] at h
        | number d n j => rw [rX, rY] at h; simp [Ieee.Datum.order] at h
      | number c m i =>
        cases rY : k.format.read Y with
        | nan c d => rw [rY] at n2; cases n2
        | infinity d => rw [rX, rY] at h; simp [Ieee.Datum.order] at h
        | number d n j => rw [rX, rY] at h; simp [Ieee.Datum.order] at h
  | some o =>
    cases o with
    | lt => exact cn_fb .sub k hi m
    | gt => exact cn_fb .sub k m lo
    | eq =>
      show cn k (if (k.decode (fb .sub k hi m)).neg = false then fb .sub k m lo else fb .sub k hi m) = fb .sub k hi m
      rcases order_eq hx hy h with he | ⟨s, i, t, j, h1, h2⟩
      · rw [← he]
        rw [show (if (k.decode (fb .sub k hi m)).neg = false then fb .sub k hi m else fb .sub k hi m) = fb .sub k hi m by split <;> rfl, cn_fb]
      · exfalso
        have e1 := sub_zero h1
        have e2 := sub_zero h2
        -- hi = m, m = lo
        obtain ⟨a, m1, i1, r1⟩ := (fin_iff k lo).1 hlo
        obtain ⟨b, m2, i2, r2⟩ := (fin_iff k hi).1 hhi
        cases rm : k.format.read m with
        | nan c d => unfold Ieee.Format.order at e1; rw [r2, rm] at e1; simp [Ieee.Datum.order] at e1
        | infinity c => unfold Ieee.Format.order at e1; rw [r2, rm] at e1; cases c <;> simp [Ieee.Datum.order] at e1
        | number c m3 i3 =>
          have b1 : min i1 (min i2 i3) ≤ i1 := by omega
          have b2 : min i1 (min i2 i3) ≤ i2 := by omega
          have b3 : min i1 (min i2 i3) ≤ i3 := by omega
          rw [order_num r2 rm b2 b3, compare_int] at e1
          rw [order_num rm r1 b3 b1, compare_int] at e2
          rw [order_num r1 r2 b1 b2, compare_int] at hlt
          simp only [Option.some.injEq] at e1 e2 hlt
          split at hlt
          · rename_i g1
            split at e1
            · cases e1
            · split at e1
              · split at e2
                · cases e2
                · split at e2
                  · omega
                  · cases e2
              · cases e1
          · split at hlt <;> cases hlt
end Go.Proofs.YtnpccnhamohnkaaGreatDoor.Fl

/-
  Contracts of 'the same number', for one and for lists: the program's and the reference's.
-/
namespace Go.Proofs.YtnpccnhamohnkaaGreatDoor
open Go.RowKit Fl Mem
set_option linter.unusedVariables false
set_option maxRecDepth 100000

/-- Are two words the same number. -/
def sameN (a b : Nat) : Bool := decide (cn .f32 a = cn .f32 b)
def sgn (a : Nat) : Bool := a / 2147483648 % 2 == 1
/-- 'float64(x)' of what is no not-a-number. -/
def wideS (a : Nat) : Nat := (cvBits .f32 .f64 a).getD 0
theorem f64_sw : FloatKind.f64.format.signWeight = 9223372036854775808 := by decide +kernel
theorem wideS_ok {a : Nat} (h : isNan .f32 a = false) : (∀ W, cvR .f32 .f64 a W = wideS a) ∧ cvN .f32 .f64 a = 0 ∧ decide (9223372036854775808 ≤ wideS a) = sgn a ∧ wideS a < 18446744073709551616 := by
  have hw : ∀ s r, r < 9223372036854775808 → decide (9223372036854775808 ≤ FloatKind.f64.format.word s r) = s ∧ FloatKind.f64.format.word s r < 18446744073709551616 := by
    intro s r hr
    unfold Ieee.Format.word
    rw [f64_sw]
    cases s
    · rw [if_neg (by simp)]; exact ⟨decide_eq_false (by omega), by omega⟩
    · rw [if_pos rfl]; exact ⟨decide_eq_true (by omega), by omega⟩
  have hsw : FloatKind.f32.format.signWeight = 2147483648 := by decide +kernel
  cases hd : FloatKind.f32.decode a with
  | nan s t =>
    exfalso
    have : FloatKind.f32.format.read a = .nan s t := hd
    unfold isNan at h
    rw [this] at h; cases h
  | infinity s =>
    have hc : cvBits .f32 .f64 a = some (FloatKind.f64.encode (.infinity s)) := by simp [cvBits, hd]
    have hs := (read_inf (k := .f32) (x := a) hd).1
    rw [hsw] at hs
    have h1 := hw s FloatKind.f64.format.infRung (by decide +kernel)
    refine ⟨fun W => by unfold cvR wideS; rw [hc]; rfl, by unfold cvN; rw [hc]; rfl, ?_, ?_⟩
    · unfold wideS sgn; rw [hc, ← hs]; exact h1.1
    · unfold wideS; rw [hc]; exact h1.2
  | number s m e =>
    have hc := cvBits_num hd
    have hs := (read_of_rung (k := .f32) (x := a) hd).1
    rw [hsw] at hs
    obtain ⟨b1, b2, b3⟩ := read32 hd
    obtain ⟨r, hr, hlt⟩ := nearest64_lt s m e b1 b2 b3
    have hi : FloatKind.f64.format.infRung = 9218868437227405312 := by decide +kernel
    rw [hi] at hlt
    have h1 := hw s r (by omega)
    have he : FloatKind.f64.encode (.number s m e) = FloatKind.f64.format.word s r := hr
    refine ⟨fun W => by unfold cvR wideS; rw [hc]; rfl, by unfold cvN; rw [hc]; rfl, ?_, ?_⟩
    · unfold wideS sgn; rw [hc, ← hs, Option.getD_some, he]; exact h1.1
    · unfold wideS; rw [hc, Option.getD_some, he]; exact h1.2

theorem nan_iff (a : Nat) : (FloatKind.f32.format.order a a != some Ordering.eq) = isNan .f32 a := by
  rw [order_self]
  cases isNan .f32 a <;> rfl
theorem sameN_nan {a b : Nat} (ha : isNan .f32 a = true) : sameN a b = isNan .f32 b := by
  unfold sameN
  rw [cn_nan ha]
  cases hb : isNan .f32 b
  · rw [cn_num hb]
    refine decide_eq_false (fun he => ?_)
    rw [← he, isNan_nanOf] at hb
    cases hb
  · rw [cn_nan hb]; exact decide_eq_true rfl
theorem sameN_nan' {a b : Nat} (ha : isNan .f32 a = false) (hb : isNan .f32 b = true) : sameN a b = false := by
  unfold sameN
  rw [cn_num ha, cn_nan hb]
  refine decide_eq_false (fun he => ?_)
  rw [he, isNan_nanOf] at ha
  cases ha
theorem sameN_num {a b : Nat} (wa : Wf .f32 a) (wb : Wf .f32 b) (ha : isNan .f32 a = false) (hb : isNan .f32 b = false) :
    sameN a b = ((FloatKind.f32.format.order a b == some Ordering.eq) && (sgn a == sgn b)) := by
  unfold sameN
  rw [cn_num ha, cn_num hb, Bool.eq_iff_iff, decide_eq_true_iff, Bool.and_eq_true]
  constructor
  · rintro rfl
    rw [order_self, ha]
    simp
  · rintro ⟨h1, h2⟩
    rcases order_eq wa wb (by simpa using h1) with h | ⟨s, i, t, j, ra, rb⟩
    · exact h
    · obtain ⟨a1, _, a3, _⟩ := read_of_rung ra
      obtain ⟨b1, _, b3, _⟩ := read_of_rung rb
      have za := mag_zero a3.symm
      have zb := mag_zero b3.symm
      rw [wf_word wa, wf_word wb, za, zb]
      have hsw : FloatKind.f32.format.signWeight = 2147483648 := by decide +kernel
      unfold sgn at h2
      rw [← hsw, beq_iff_eq] at h2
      rw [h2]

section
variable {P : Program} {f : FuncId} {fn : Func}
theorem run_call_bits64 (hf : P.funcs[f]? = some fn) (hname : (fn.name == "runtime.NumGoroutine") = false) (hb : fn.body.isNone = true) (hn : Extern.findNext fn = none) (he : Extern.find fn = some Extern.MathFloatBits.float64bits) (y : Nat) (w : World) :
    (callFunc f #[.float .f64 y]).run P w = .ok (.value (.int .u64 (y : Int))) w := by
  rw [run_callFunc_extern hf hname hb hn he]
  rfl
theorem run_call_bits32 (hf : P.funcs[f]? = some fn) (hname : (fn.name == "runtime.NumGoroutine") = false) (hb : fn.body.isNone = true) (hn : Extern.findNext fn = none) (he : Extern.find fn = some Extern.MathFloatBits.float32bits) (y : Nat) (w : World) :
    (callFunc f #[.float .f32 y]).run P w = .ok (.value (.int .u32 (y : Int))) w := by
  rw [run_callFunc_extern hf hname hb hn he]
  rfl
end

theorem signbit_calls {y : Nat} {w : World} (hy : y < 18446744073709551616) : Calls Tryz.prog 203 #[.float .f64 y] w fun e w' => e = .returned (.bool (decide (9223372036854775808 ≤ y))) ∧ w = w' := by
  have hs := fun (y : Nat) (w : World) => run_call_bits64 (P := Tryz.prog) (f := 246) Tryz.func246 (by kernel_rfl) (by kernel_rfl) (by kernel_rfl) (by rfl) y w
  go_enter Tryz.func203, Tryz.ntmps203
  go_wp2
  go_ret
  refine ⟨ret_bool ?_, rfl⟩
  rw [Bool.eq_iff_iff, decide_eq_true_iff, decide_eq_true_iff]
  unfold wrap64
  omega

theorem s_l01Bits {a : Nat} {w : World} (wa : Wf .f32 a) : Calls Tryz.prog 170 #[.float .f32 a] w fun e w' => e = .returned (.int .i64 (cn .f32 a : Int)) ∧ w = w' := by
  have hlt : a < 4294967296 := by
    unfold Wf at wa
    have hw : 2 ^ FloatKind.f32.format.width = 4294967296 := by decide +kernel
    rw [hw] at wa; exact wa
  have hs := fun (y : Nat) (w : World) => run_call_bits32 (P := Tryz.prog) (f := 184) Tryz.func184 (by kernel_rfl) (by kernel_rfl) (by kernel_rfl) (by rfl) y w
  have hnn := nan_iff a
  cases ha : isNan .f32 a with
  | true =>
    rw [ha] at hnn
    have Ha := hide ha
    clear ha
    go_enter Tryz.func170, Tryz.ntmps170
    go_wp2
    go_ret
    exact ⟨ret_int (by rw [cn_nan Ha.out]; rfl), rfl⟩
  | false =>
    rw [ha] at hnn
    have Ha := hide ha
    clear ha
    go_enter Tryz.func170, Tryz.ntmps170
    go_wp2
    go_ret
    exact ⟨ret_int (by rw [cn_num Ha.out]), rfl⟩
set_option maxHeartbeats 1000000 in
theorem i_SameNumber {a b : Nat} {w : World} (wa : Wf .f32 a) (wb : Wf .f32 b) : Calls Tryz.prog 151 #[.float .f32 a, .float .f32 b] w fun e w' => e = .returned (.bool (sameN a b)) ∧ w = w' := by
  have hna := nan_iff a
  have hnb := nan_iff b
  cases ha : isNan .f32 a with
  | true =>
    have Hs := hide (sameN_nan (b := b) ha)
    rw [ha] at hna
    clear ha
    cases hb : isNan .f32 b with
    | true =>
      rw [hb] at hnb Hs
      clear hb
      go_enter Tryz.func151, Tryz.ntmps151
      go_wp2
      go_ret
      exact ⟨ret_bool Hs.out.symm, rfl⟩
    | false =>
      rw [hb] at hnb Hs
      clear hb
      go_enter Tryz.func151, Tryz.ntmps151
      go_wp2
      go_ret
      exact ⟨ret_bool Hs.out.symm, rfl⟩
  | false =>
    cases hb : isNan .f32 b with
    | true =>
      have Hs := hide (sameN_nan' ha hb)
      rw [hb] at hnb
      rw [ha] at hna
      clear ha hb
      go_enter Tryz.func151, Tryz.ntmps151
      go_wp2
      go_ret
      exact ⟨ret_bool Hs.out.symm, rfl⟩
    | false =>
      have Hs := hide (sameN_num wa wb ha hb)
      rw [hb] at hnb
      rw [ha] at hna
      obtain ⟨a1, a2, a3, a4⟩ := wideS_ok ha
      obtain ⟨b1, b2, b3, b4⟩ := wideS_ok hb
      have Ha3 := hide a3
      have Hb3 := hide b3
      clear ha hb a3 b3
      cases ho : (FloatKind.f32.format.order a b == some Ordering.eq) with
      | false =>
        rw [ho] at Hs
        go_enter Tryz.func151, Tryz.ntmps151
        go_wp2
        go_ret
        exact ⟨ret_bool Hs.out.symm, rfl⟩
      | true =>
        rw [ho] at Hs
        go_enter Tryz.func151, Tryz.ntmps151
        go_wp2_with (first | (have _t := HA2; go_at_call 203; refine (signbit_calls b4).mono ?_; rintro e w' ⟨rfl, rfl⟩) | (go_at_call 203; refine (signbit_calls a4).mono ?_; rintro e w' ⟨rfl, rfl⟩; have HA2 : True := trivial))
        go_ret
        refine ⟨ret_bool ?_, rfl⟩
        rw [Hs.out, ← Ha3.out, ← Hb3.out]
        rfl
end Go.Proofs.YtnpccnhamohnkaaGreatDoor
