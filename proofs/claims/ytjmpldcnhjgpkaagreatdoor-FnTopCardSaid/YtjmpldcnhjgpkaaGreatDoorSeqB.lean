/-
  Contracts of the helpers of the laws, continued: copies and marks.
-/
import Derived.Test.YtjmpldcnhjgpkaaGreatDoorHelp
import Derived.Test.YtjmpldcnhjgpkaaGreatDoorOps
namespace Go.Proofs.YtjmpldcnhjgpkaaGreatDoor
open Go.RowKit Fl Mem
set_option linter.unusedVariables false

theorem info_f32 : (Tryz.prog.info? 25).map (fun i => (i.zero, i.size, i.bytes)) = some (some (.float .f32 0), 1, 4) := by kernel_rfl

/-- The cells of a row of n of which the first k are known. -/
def part {α : Type} (F : α → Value) (z : Value) (xs : List α) (n k : Nat) : Array Value := ((xs.take k).map F ++ List.replicate (n - k) z).toArray
theorem part_zero {α : Type} (F : α → Value) (z : Value) (xs : List α) (n : Nat) : part F z xs n 0 = Array.replicate n z := by simp [part]
theorem part_at {α : Type} {F : α → Value} {z : Value} {xs : List α} {n k : Nat} (hl : xs.length = n) (hk : k < n) : (part F z xs n k)[k]? = some z := by
  unfold part
  rw [List.getElem?_toArray, List.getElem?_append_right (by simp; omega)]
  simp [List.getElem?_replicate]; omega
theorem part_set {α : Type} {F : α → Value} {z : Value} {xs : List α} {n k : Nat} {x : α} (hl : xs.length = n) (hk : k < n) (hx : xs[k]? = some x) : (part F z xs n k).setIfInBounds k (F x) = part F z xs n (k + 1) := by
  unfold part
  apply Array.ext_getElem?
  intro i
  rw [Array.getElem?_setIfInBounds]
  simp only [List.getElem?_toArray, List.size_toArray, List.length_append, List.length_map, List.length_take, List.length_replicate]
  by_cases hi : k = i
  · subst hi
    rw [if_pos rfl, if_pos (by omega), List.getElem?_append_left (by simp; omega), List.getElem?_map, List.getElem?_take, if_pos (by omega), hx]; rfl
  · rw [if_neg hi]
    rcases Nat.lt_or_ge i k with h | h
    · rw [List.getElem?_append_left (by simp; omega), List.getElem?_append_left (by simp; omega)]
      simp only [List.getElem?_map, List.getElem?_take]
      rw [if_pos h, if_pos (by omega)]
    · rw [List.getElem?_append_right (by simp; omega), List.getElem?_append_right (by simp; omega)]
      simp only [List.length_map, List.length_take, List.getElem?_replicate]
      by_cases h2 : i < n
      · rw [if_pos (by omega), if_pos (by omega)]
      · rw [if_neg (by omega), if_neg (by omega)]
theorem part_all {α : Type} {F : α → Value} {z : Value} {xs : List α} {n : Nat} (hl : xs.length = n) : part F z xs n n = (xs.map F).toArray := by
  unfold part
  rw [List.take_of_length_le (by omega)]; simp

theorem own_of_blk {w : World} {base g n : Nat} {t : TypeId} {xs : List Value} (h : Blk w g t xs.toArray) (hb : base ≤ g) (hl : xs.length = n) (hn : n ≤ maxLen) : w.ownsRow base t 1 (.slice (some ⟨g, 0, none⟩) n n) n xs :=
  ⟨by omega, .inr ⟨g, n, xs.toArray, rfl, hb, h, Nat.le_refl _, hn, by simp [hl], by simp [List.take_of_length_le, hl]⟩⟩

theorem info_i64 : (Tryz.prog.info? 2).map (fun i => (i.zero, i.size, i.bytes)) = some (some (.int .i64 0), 1, 8) := by kernel_rfl

abbrev il (xs : List Int) : List Value := xs.map (Value.int .i64)
abbrev nl (xs : List Nat) : List Value := xs.map (fun n : Nat => Value.int .i64 (n : Int))

theorem own_shape {w : World} {base : Nat} {e : TypeId} {size n : Nat} {v : Value} {xs : List Value} (h : w.ownsRow base e size v n xs) : ∃ A c, v = .slice A n c := by
  rcases h.2 with ⟨rfl, rfl⟩ | ⟨g, cap, cur, rfl, _⟩
  · exact ⟨_, _, rfl⟩
  · exact ⟨_, _, rfl⟩
theorem own_head {w : World} {base : Nat} {e : TypeId} {n : Nat} {v u : Value} {xs : List Value} (h : w.ownsRow base e 1 v n (u :: xs)) : ∃ g c, v = .slice (some ⟨g, 0, none⟩) n c ∧ w.cell? ⟨g, 0, none⟩ = some u := by
  rcases h.2 with ⟨rfl, rfl⟩ | ⟨g, cap, cur, rfl, _⟩
  · have := h.1; simp at this
  · exact ⟨g, cap, rfl, by have := h.cells (g := g) rfl 0 u rfl; simpa [Addr.add] using this⟩

theorem own_emp {w : World} {base g : Nat} {e : TypeId} {size : Nat} (hg : g = w.heap.size) (hb : base ≤ g) : (w.alloc (.cells #[] e)).ownsRow base e size (.slice (some ⟨g, 0, none⟩) 0 0) 0 [] := by
  subst hg
  exact World.ownsRow_made _ _ _ hb (by simp [maxLen]) (by simp)

/-- A block that has just been made reads as what was put in. -/
theorem reads_new {α : Type} (F : α → Value) (w : World) (e : TypeId) (xs : List α) : Reads (w.alloc (.cells (xs.map F).toArray e)) (w.alloc (.cells (xs.map F).toArray e)).heap.size 1 (some ⟨w.heap.size, 0, none⟩) xs.length (xs.map F) := by
  refine ⟨by simp, fun _ => ⟨_, rfl, by simp, fun j u hu => ?_⟩⟩
  have h := Blk.cell (Blk.new w e (xs.map F).toArray) j
  rw [Addr.add_lit, Nat.zero_add, h]
  simpa using hu

theorem own_up {w : World} {base base' : Nat} {e : TypeId} {size n : Nat} {v : Value} {xs : List Value} (h : w.ownsRow base e size v n xs) (hb : base' ≤ base) : w.ownsRow base' e size v n xs := by
  refine ⟨h.1, ?_⟩
  rcases h.2 with h2 | ⟨g, cap, cur, h2, h3, h4⟩
  · exact .inl h2
  · exact .inr ⟨g, cap, cur, h2, by omega, h4⟩

end Go.Proofs.YtjmpldcnhjgpkaaGreatDoor

/-
  The logarithm in 64 bits: both sides' walks.
-/
namespace Go.Proofs.YtjmpldcnhjgpkaaGreatDoor
open Go.RowKit Mem Fl
set_option linter.unusedVariables false
set_option maxRecDepth 100000

/-- The bits of a number. -/
def bitsOf (v : Value) : Nat := match v with
  | .float _ b => b
  | _ => 0
set_option maxHeartbeats 4000000 in
theorem i_naturalLog {r : Nat} {w : World} (h1 : 4503599627370496 ≤ r) (h2 : r < 9218868437227405312) :
    Calls Tryz.prog 162 #[.float .f64 r] w fun e w' => ∃ z, e = .returned (.float .f64 z) ∧ Hid (cn .f64 z = logV r) ∧ ∃ m, w' = w.drewN m := by
  have hI : Hid (FloatKind.f64.format.infRung = 9218868437227405312) := hide d64_inf
  go_enter Tryz.func162, Tryz.ntmps162
  go_wp2
  go_loopw [0, 3] (fun x e wr => ∃ c j m : Nat, x = .float .f64 c ∧ e = .float .f64 (floatOfInt .f64 ((j : Nat) : Int)) ∧ Hid (r = c + j * 4503599627370496) ∧ Hid (j = 0 ∨ 4604930618986332160 ≤ c) ∧ wr = w.drewN m) (fun x _ _ => bitsOf x)
  case atStart => exact ⟨r, 0, 0, rfl, congrArg _ e_zero, hide (by omega), hide (.inl rfl), rfl⟩
  case round =>
    obtain ⟨c, j, m, rfl, rfl, hr, hj, rfl⟩ := hrel
    have hr' := hr.out
    have hj' := hj.out
    have hg := ge_pos (k := .f64) (c := c) (q := 4609434218613702656) (by rw [hI.out]; omega) (by rw [hI.out]; omega)
    by_cases hc : 4609434218613702656 ≤ c
    · rw [decide_eq_true hc] at hg
      obtain ⟨c', hc', HH⟩ := half64x (c := c) (by omega) (by omega)
      have Hr : Hid (r = c' + (j + 1) * 4503599627370496) := hide (by omega)
      have Hc : Hid (4604930618986332160 ≤ c') := hide (by omega)
      have Hl : Hid (c' < c) := hide (by omega)
      have HF := hide (flR_pos HH (by rw [hI.out]; omega))
      have Hj := hide (@e_up j (by omega))
      clear hr' hj' hr hj hc hc' HH
      go_wp2
      go_roundw
      case rel => exact ⟨c', j + 1, _, by rw [HF.out], by rw [Hj.out], Hr, hide (.inr Hc.out), rfl⟩
      case measure =>
        rw [HF.out]
        exact Hl.out
    · rw [decide_eq_false hc] at hg
      have Hr : Hid ((r : Int) = c + (j : Int) * 4503599627370496) := hide (by omega)
      have Hc : Hid ((j : Int) ≤ 0 ∨ 4604930618986332160 ≤ c) := hide (by omega)
      have Hl : Hid (c < 4609434218613702656 ∧ 4503599627370496 ≤ c) := hide (by omega)
      clear hr' hj' hr hj hc
      go_wp2
      clear hg
      go_loopw [0, 3] (fun x e wr => ∃ (c : Nat) (ev : Int) (m : Nat), x = .float .f64 c ∧ e = .float .f64 (floatOfInt .f64 ev) ∧ Hid ((r : Int) = c + ev * 4503599627370496) ∧ Hid (ev ≤ 0 ∨ 4604930618986332160 ≤ c) ∧ Hid (c < 4609434218613702656 ∧ 4503599627370496 ≤ c) ∧ wr = w.drewN m) (fun x _ _ => 4604930618986332160 - bitsOf x)
      case atStart => exact ⟨c, (j : Int), _, rfl, rfl, Hr, Hc, Hl, rfl⟩
      case round =>
        clear Hr Hc Hl
        obtain ⟨c, ev, m, rfl, rfl, hr, hj, hc15, rfl⟩ := hrel
        have hr' := hr.out
        have hj' := hj.out
        obtain ⟨hc1, hc2⟩ := hc15.out
        have hg := lt_pos (k := .f64) (c := c) (q := 4604930618986332160) (by rw [hI.out]; omega) (by rw [hI.out]; omega)
        by_cases hc : c < 4604930618986332160
        · rw [decide_eq_true hc] at hg
          obtain ⟨c', hc', HH⟩ := dbl64x (c := c) (by omega) (by omega)
          have Hr : Hid ((r : Int) = c' + (ev - 1) * 4503599627370496) := hide (by omega)
          have Hc : Hid (ev - 1 ≤ 0 ∨ 4604930618986332160 ≤ c') := hide (by omega)
          have Hl : Hid (c' < 4609434218613702656 ∧ 4503599627370496 ≤ c') := hide (by omega)
          have Hm : Hid (4604930618986332160 - c' < 4604930618986332160 - c) := hide (by omega)
          have HF := hide (flR_pos HH (by rw [hI.out]; omega))
          have Hj := hide (@e_down ev (by omega) (by omega))
          clear hr' hj' hr hj hc hc' HH hc15 hc1 hc2
          go_wp2
          go_roundw
          case rel => exact ⟨c', ev - 1, _, by rw [HF.out], by rw [Hj.out], Hr, Hc, Hl, rfl⟩
          case measure =>
            rw [HF.out]
            exact Hm.out
        · rw [decide_eq_false hc] at hg
          have HR := hide (red_of hr.out (by omega) hc1)
          clear hr hj hc15 hr' hj' hc1 hc2 hc h1 h2
          go_wp2
          clear hg
          go_loopw [6, 7] (fun q kv wr => ∃ (j qz m : Nat), j ≤ 13 ∧ kv = .float .f64 (floatOfInt .f64 (25 - 2 * ((j : Nat) : Int))) ∧ q = .float .f64 qz ∧ Hid (cn .f64 qz = logQ (fb .mul .f64 (logS c) (logS c)) j) ∧ wr = w.drewN m) (fun _ kv _ => kM (bitsOf kv))
          case atStart => exact ⟨0, 0, _, by omega, congrArg _ k_zero, rfl, hide (q_zero _), rfl⟩
          case round =>
            obtain ⟨j, qz, m', hj, rfl, rfl, hq, rfl⟩ := hrel
            have hg := ks_ge j (by omega)
            by_cases hj3 : j < 13
            · rw [decide_eq_true hj3] at hg
              have HK := hide (@ks_step j hj3)
              have HM := hide (km_dec j hj3)
              go_wp2
              go_roundw
              case rel => exact ⟨j + 1, _, _, by omega, by rw [HK.out], rfl, hide (q_step (u_step (s_step _ _ _) _) hq.out _ _ _), rfl⟩
              case measure =>
                rw [HK.out]
                exact HM.out
            · rw [decide_eq_false hj3] at hg
              obtain rfl : j = 13 := by omega
              go_wp2
              go_ret
              exact ⟨_, rfl, hide (end_step HR.out (s_step _ _ _) hq.out _ _ _ _), _, rfl⟩
end Go.Proofs.YtjmpldcnhjgpkaaGreatDoor

/-
  The logarithm of 32 bits: plain facts on quotients and differences of what is above 0.
-/
namespace Go.Proofs.YtjmpldcnhjgpkaaGreatDoor.Fl
open Go.RowKit
set_option linter.unusedVariables false

theorem gt_pos {k : FloatKind} {c q : Nat} (hc : c < k.format.infRung) (hq : q < k.format.infRung) : (k.format.order c q == some .gt) = decide (q < c) := by
  rw [order_pos hc hq, compare_int]
  rcases Nat.lt_trichotomy c q with h | h | h
  · rw [if_pos (by omega), decide_eq_false (by omega)]; rfl
  · subst h; rw [if_neg (by omega), if_pos rfl, decide_eq_false (Nat.lt_irrefl _)]; rfl
  · rw [if_neg (by omega), if_neg (by omega), decide_eq_true h]; rfl
theorem le_pos {k : FloatKind} {c q : Nat} (hc : c < k.format.infRung) (hq : q < k.format.infRung) : (k.format.order c q == some .lt || k.format.order c q == some .eq) = decide (c ≤ q) := by
  rw [order_pos hc hq, compare_int]
  rcases Nat.lt_trichotomy c q with h | h | h
  · rw [if_pos (by omega), decide_eq_true (by omega)]; rfl
  · subst h; rw [if_neg (by omega), if_pos rfl, decide_eq_true (Nat.le_refl _)]; rfl
  · rw [if_neg (by omega), if_neg (by omega), decide_eq_false (by omega)]; rfl
theorem eq_pos {k : FloatKind} {c q : Nat} (hc : c < k.format.infRung) (hq : q < k.format.infRung) : (k.format.order c q == some .eq) = decide (c = q) := by
  rw [order_pos hc hq, compare_int]
  rcases Nat.lt_trichotomy c q with h | h | h
  · rw [if_pos (by omega), decide_eq_false (by omega)]; rfl
  · subst h; rw [if_neg (by omega), if_pos rfl, decide_eq_true rfl]; rfl
  · rw [if_neg (by omega), if_neg (by omega), decide_eq_false (by omega)]; rfl
theorem ne_pos {k : FloatKind} {c q : Nat} (hc : c < k.format.infRung) (hq : q < k.format.infRung) : (k.format.order c q != some .eq) = decide (c ≠ q) := by
  rw [bne, eq_pos hc hq]
  by_cases h : c = q
  · rw [decide_eq_true h, decide_eq_false (fun h' => h' h)]; rfl
  · rw [decide_eq_false h, decide_eq_true h]; rfl
/-- What is divided by at most 1 becomes no less. -/
theorem quo_dn {x y : Nat} (hx : Nn x) (hy : Nn y) (h0 : y ≠ 0) (h1 : y ≤ 1065353216) : x ≤ fb .quo .f32 x y ∧ fb .quo .f32 x y ≤ 2139095040 := by
  have rx := nn_read hx
  have ry := nn_read hy
  have px := pl_ge x
  have py := pl_ge y
  have mx := mag_lt x
  have hn : magOf F32 y ≠ 0 := fun e => h0 (mag_zero e)
  have hle := (numle_of_rung F32 h1)
  unfold fb floatBits Ieee.Format.div
  simp only
  rw [rx, ry]
  simp only [Ieee.Datum.quotient, if_neg hn, Option.map_some, Option.getD_some, Ieee.Format.write]
  rw [show (false ^^ false) = false from rfl, nearest_rung, word_false]
  have hd : FloatKind.f32.format.fractionBits + 2 = 25 := by decide +kernel
  rw [hd]
  show x ≤ cn .f32 (min (rungOf F32 _ _) F32.infRung) ∧ cn .f32 (min (rungOf F32 _ _) F32.infRung) ≤ _
  rw [cn_min, f32_inf]
  refine ⟨Nat.le_min.2 ⟨?_, by unfold Nn at hx; omega⟩, Nat.min_le_right _ _⟩
  have h2 := hle.at_ (b := -149) (by have := pl_ge y; omega) (by have := pl_ge 1065353216; omega)
  rw [show magOf F32 1065353216 * 2 ^ (placeOf F32 1065353216 - -149).toNat = 2 ^ 149 by decide +kernel] at h2
  refine rung_ge F32 ?_
  generalize magOf F32 x = m at *
  generalize magOf F32 y = n at *
  generalize placeOf F32 x = i at *
  generalize placeOf F32 y = j at *
  by_cases hm : m = 0
  · subst hm; unfold NumLe; simp
  rw [Nat.shiftLeft_eq]
  generalize hmore : 25 + n.log2 - m.log2 = more at *
  have l1 := log_lo hm
  have l2 := log_hi n
  have hD : 2 ^ (25 + n.log2) ≤ m * 2 ^ more := by
    refine Nat.le_trans ?_ (Nat.mul_le_mul_right _ l1)
    rw [← Nat.pow_add]
    exact Nat.pow_le_pow_right (by omega) (by omega)
  have hn0 : 0 < n := by omega
  have hj : j ≤ 0 := by
    rcases Int.lt_or_le 0 j with h | h
    · exfalso
      have h3 : 2 ^ 150 ≤ n * 2 ^ (j - -149).toNat := Nat.le_trans (Nat.pow_le_pow_right (by omega) (by omega)) (Nat.le_mul_of_pos_left _ hn0)
      have h4 : 2 ^ 149 < 2 ^ 150 := by decide
      omega
    · exact h
  have hnj : n ≤ 2 ^ (-j).toNat := by
    rw [show 149 = (-j).toNat + (j - -149).toNat by omega, Nat.pow_add] at h2
    exact Nat.le_of_mul_le_mul_right h2 (Nat.two_pow_pos _)
  have hq : m * 2 ^ (more - (-j).toNat) ≤ m * 2 ^ more / n := by
    rw [Nat.le_div_iff_mul_le hn0]
    rcases Nat.lt_or_ge more (-j).toNat with hlt | hge
    · rw [show more - (-j).toNat = 0 by omega, Nat.pow_zero, Nat.mul_one]
      refine Nat.le_trans ?_ hD
      have h3 : m * n ≤ 2 ^ 24 * 2 ^ (n.log2 + 1) := Nat.mul_le_mul (by omega) (by omega)
      rw [← Nat.pow_add, show 24 + (n.log2 + 1) = 25 + n.log2 by omega] at h3
      exact h3
    · rw [Nat.mul_assoc]
      refine Nat.mul_le_mul_left _ ?_
      refine Nat.le_trans (Nat.mul_le_mul_left _ hnj) ?_
      rw [← Nat.pow_add]
      exact Nat.pow_le_pow_right (by omega) (by omega)
  refine NumLe.of (b := min i (i - j - more - 1)) (by omega) (by omega) ?_
  generalize m * 2 ^ more / n = D at *
  have h5 : m * 2 ^ (i - min i (i - j - more - 1)).toNat ≤ 2 * D * 2 ^ (i - j - more - 1 - min i (i - j - more - 1)).toNat := by
    rw [Nat.mul_comm 2 D, Nat.mul_assoc, ← Nat.pow_succ']
    refine Nat.le_trans ?_ (Nat.mul_le_mul_right _ hq)
    rw [Nat.mul_assoc, ← Nat.pow_add]
    exact Nat.mul_le_mul_left _ (Nat.pow_le_pow_right (by omega) (by omega))
  exact Nat.le_trans h5 (Nat.mul_le_mul_right _ (Nat.le_add_right _ _))
/-- 1 without what is between 0 and 1. -/
theorem one_sub {a : Nat} (h : a < 1065353216) : fb .sub .f32 1065353216 a ≤ 1065353216 ∧ fb .sub .f32 1065353216 a ≠ 0 ∧ Nn (fb .sub .f32 1065353216 a) := by
  have ha : Nn a := by unfold Nn; omega
  have rx := nn_read (x := 1065353216) (by unfold Nn; omega)
  have ry := nn_read ha
  have py := pl_ge a
  have hv : iv a ≤ iv 1065353215 := iv_le.1 (by omega)
  have e1 : iv 1065353215 = 2 ^ 149 - 2 ^ 125 := by decide +kernel
  have e2 : magOf F32 1065353216 = 2 ^ 23 ∧ placeOf F32 1065353216 = -23 := by decide +kernel
  have e3 : iv 1065353216 = 2 ^ 149 := by decide +kernel
  have e4 : iv 864026624 = 2 ^ 125 := by decide +kernel
  have h125 : 2 ^ 125 ≤ 2 ^ 149 := by decide
  have key : fb .sub .f32 1065353216 a = min (rungOf F32 (2 ^ 149 - iv a) (-149)) F32.infRung := by
    unfold fb floatBits Ieee.Format.sub
    simp only
    rw [rx, ry]
    simp only [Ieee.Datum.sum, Ieee.Datum.opposite, Option.map_some, Option.getD_some, Ieee.Format.write]
    rw [e2.1, e2.2]
    have hs : ∀ (m u : Nat), Ieee.signed false m u = ((m * 2 ^ u : Nat) : Int) := by intro m u; unfold Ieee.signed; rw [if_neg (by simp), Nat.shiftLeft_eq]
    have hs' : ∀ (m u : Nat), Ieee.signed (!false) m u = -((m * 2 ^ u : Nat) : Int) := by intro m u; unfold Ieee.signed; rw [if_pos (show (!false) = true from rfl), Nat.shiftLeft_eq]
    rw [hs, hs']
    unfold iv at hv e1 ⊢
    generalize magOf F32 a = n at *
    generalize placeOf F32 a = j at *
    have k1 : 2 ^ 23 * 2 ^ (-23 - min (-23) j).toNat * 2 ^ (min (-23) j + 149).toNat = 2 ^ 149 := by
      rw [← Nat.pow_add, ← Nat.pow_add]; congr 1; omega
    have k2 : n * 2 ^ (j - min (-23) j).toNat * 2 ^ (min (-23) j + 149).toNat = n * 2 ^ (j + 149).toNat := by
      rw [Nat.mul_assoc, ← Nat.pow_add]; congr 2; omega
    generalize 2 ^ 23 * 2 ^ (-23 - min (-23) j).toNat = X at *
    generalize n * 2 ^ (j - min (-23) j).toNat = Y at *
    have hlt : Y < X := by
      have : Y * 2 ^ (min (-23) j + 149).toNat < X * 2 ^ (min (-23) j + 149).toNat := by
        rw [k1, k2]
        rw [e1] at hv
        have : 0 < 2 ^ 125 := by decide
        omega
      exact Nat.lt_of_mul_lt_mul_right this
    have hsg : (if ((X : Nat) : Int) + -((Y : Nat) : Int) = 0 then false && !false else decide (((X : Nat) : Int) + -((Y : Nat) : Int) < 0)) = false := by
      rw [if_neg (by omega), decide_eq_false (by omega)]
    rw [hsg, nearest_rung, word_false, cn_min]
    congr 1
    rw [show (((X : Nat) : Int) + -((Y : Nat) : Int)).natAbs = X - Y by omega]
    refine rung_same (b := -149) (by omega) (by omega) ?_
    rw [Int.sub_self, Int.toNat_zero, Nat.pow_zero, Nat.mul_one, Nat.sub_mul, show (min (-23) j - -149).toNat = (min (-23) j + 149).toNat by omega, k1, k2]
  have u1 : rungOf F32 (2 ^ 149 - iv a) (-149) ≤ 1065353216 := rung_up (b := 0) (by omega) (by rw [e3]; omega)
  have u2 : 864026624 ≤ rungOf F32 (2 ^ 149 - iv a) (-149) := rung_dn (b := 0) (by omega) (by rw [e4]; rw [e1] at hv; omega)
  rw [key, f32_inf]
  unfold Nn
  omega
def logN (x : Nat) : Nat := if x = 2139095040 then 2139095040 else nar (logV (wide x))
theorem logN_inf : logN 2139095040 = 2139095040 := if_pos rfl
theorem logN_num {x : Nat} (h : Nn x) : logN x = nar (logV (wide x)) := if_neg (by unfold Nn at h; omega)
/-- The word of 64 bits is told by that of 32. -/
theorem cvR_pos {x : Nat} (h : Nn x) (h0 : x ≠ 0) (w : World) : cvR .f32 .f64 x w = wide x := by
  have h1 := cn_cvR x w
  have h2 := wide_pos h h0
  have hr : wide x < FloatKind.f64.format.infRung := by rw [d64_inf]; exact h2.2
  exact (eq_of_cn (k := .f64) (a := wide x) (by rw [cn_pos hr, h1]) (num_nan (read_pos hr))).symm
theorem cvR_inf (w : World) : cvR .f32 .f64 2139095040 w = 9218868437227405312 := by
  have : cvBits .f32 .f64 2139095040 = some 9218868437227405312 := by decide +kernel
  unfold cvR; rw [this]; rfl
theorem cvR_inf' (w : World) : cvR .f64 .f32 9218868437227405312 w = 2139095040 := by
  have : cvBits .f64 .f32 9218868437227405312 = some 2139095040 := by decide +kernel
  unfold cvR; rw [this]; rfl
theorem log_end {x z : Nat} (h : Nn x) (h0 : x ≠ 0) (hz : cn .f64 z = logV (wide x)) (w : World) : cn .f32 (cvR .f64 .f32 z w) = logN x := by
  have h2 := wide_pos h h0
  have hb := narOk_bd (bd_log h2.2)
  rw [cn_cvR64 (narOk_cn.1 (by rw [hz]; exact hb)), ← nar_cn, hz, logN_num h]
end Go.Proofs.YtjmpldcnhjgpkaaGreatDoor.Fl

/-
  Contracts on numbers that are finite, one by one and all.
-/
namespace Go.Proofs.YtjmpldcnhjgpkaaGreatDoor
open Go.RowKit Fl Mem
set_option linter.unusedVariables false

theorem i_IsFinite (x : Nat) (w : World) : Calls Tryz.prog 83 #[.float .f32 x] w fun e w' => e = .returned (.bool (fin .f32 x)) ∧ ∃ n, w' = w.drewN n := by
  go_enter Tryz.func83, Tryz.ntmps83
  go_wp2
  go_ret
  exact ⟨rfl, _, rfl⟩
theorem areFinite_1 (x : Nat) (w : World) : Calls Tryz.prog 125 #[.float .f32 x] w fun e w' => e = .returned (.bool (!fin .f32 x)) ∧ ∃ n, w' = w.drewN n := by
  go_enter Tryz.func125, Tryz.ntmps125
  go_wp2_with (go_at_call 83; refine (i_IsFinite _ _).mono ?_; rintro e w' ⟨rfl, m', rfl⟩)
  go_ret
  exact ⟨rfl, _, rfl⟩

/-- What 'slices.IndexFunc' gives. -/
def ixf {α : Type} (p : α → Bool) (xs : List α) : Int := match xs.findIdx? p with | some i => i | none => -1
theorem ixf_at {α : Type} {p : α → Bool} {xs : List α} {k : Nat} {x : α} (hx : xs[k]? = some x) (h0 : (xs.take k).all (fun y => !p y) = true) (hp : p x = true) : ixf p xs = k := by
  unfold ixf
  have : xs.findIdx? p = some k := by
    obtain ⟨hk, rfl⟩ := List.getElem?_eq_some_iff.1 hx
    rw [List.findIdx?_eq_some_iff_getElem]
    refine ⟨hk, hp, fun j hj => ?_⟩
    have := List.all_eq_true.1 h0 xs[j] (by rw [List.mem_take_iff_getElem]; exact ⟨j, by omega, rfl⟩)
    simpa using this
  rw [this]
theorem ixf_none {α : Type} {p : α → Bool} {xs : List α} (h0 : xs.all (fun y => !p y) = true) : ixf p xs = -1 := by
  unfold ixf
  have : xs.findIdx? p = none := by
    rw [List.findIdx?_eq_none_iff]
    intro x hx
    have := List.all_eq_true.1 h0 x hx
    simpa using this
  rw [this]
theorem ixf_ge {α : Type} (p : α → Bool) (xs : List α) : decide (0 ≤ ixf p xs) = xs.any p := by
  unfold ixf
  cases h : xs.findIdx? p with
  | none =>
    rw [List.findIdx?_eq_none_iff] at h
    have : xs.any p = false := by
      rw [List.any_eq_false]
      intro x hx
      simp [h x hx]
    rw [this]; rfl
  | some i =>
    have h2 : xs.any p = true := by
      rw [List.findIdx?_eq_some_iff_getElem] at h
      obtain ⟨hi, hp, _⟩ := h
      exact List.any_eq_true.2 ⟨_, List.getElem_mem hi, hp⟩
    rw [h2]
    simp
theorem ixf_lt {α : Type} (p : α → Bool) (xs : List α) : -1 ≤ ixf p xs ∧ ixf p xs < xs.length ∨ ixf p xs = -1 := by
  unfold ixf
  cases h : xs.findIdx? p with
  | none => right; rfl
  | some i =>
    left
    rw [List.findIdx?_eq_some_iff_getElem] at h
    obtain ⟨hi, _⟩ := h
    simp only
    omega

set_option maxHeartbeats 400000 in
theorem indexFunc_areFinite (A : Option Addr) (n c : Nat) (xs : List Nat) (B : Nat) (w : World) (h : Reads w B 1 A n (fl .f32 xs)) (hn : n ≤ maxLen) :
    Calls Tryz.prog 129 #[.slice A n c, .func (.func 125) #[] #[]] w fun e w' => e = .returned (.int .i64 (ixf (fun x => !fin .f32 x) xs)) ∧ ∃ n, w' = w.drewN n := by
  unfold maxLen at hn
  have Hlen := hide h.map_len
  go_enter Tryz.func129, Tryz.ntmps129
  go_wp2
  go_loopw [5, 8] (fun _ i wr => ∃ k m : Nat, k ≤ n ∧ i = .int .i64 k ∧ wr = w.drewN m ∧ Hid ((xs.take k).all (fun y => !!fin .f32 y) = true)) (fun _ i _ => n - (intOf i).toNat)
  case atStart => exact ⟨0, 0, Nat.zero_le _, rfl, rfl, rfl⟩
  case round =>
    obtain ⟨k, m, hk, rfl, rfl, ha⟩ := hrel
    by_cases hlt : k < n
    · obtain ⟨ad, x, rfl, _, hx, hc⟩ := h.map_at hlt
      have Hx := hide hx
      clear hx
      go_wp2_with (go_at_call 125; refine (areFinite_1 _ _).mono ?_; rintro e w' ⟨rfl, m', rfl⟩)
      · rename_i h0
        go_ret
        exact ⟨ret_int (ixf_at Hx.out ha.out h0).symm, _, rfl⟩
      · rename_i h0
        go_roundw
        case rel => exact ⟨k + 1, _, by omega, by go_num, rfl, hide (by rw [take_eq Hx.out, List.all_append, ha.out]; simp at h0; simp [h0])⟩
        case measure => simp [intOf]; omega
    · go_wp2
      go_ret
      refine ⟨ret_int (ixf_none ?_).symm, _, rfl⟩
      rw [← ha.out, List.take_of_length_le (by rw [Hlen.out]; omega)]

theorem containsFunc_areFinite (A : Option Addr) (n c : Nat) (xs : List Nat) (B : Nat) (w : World) (h : Reads w B 1 A n (fl .f32 xs)) (hn : n ≤ maxLen) :
    Calls Tryz.prog 105 #[.slice A n c, .func (.func 125) #[] #[]] w fun e w' => e = .returned (.bool (xs.any (fun x => !fin .f32 x))) ∧ ∃ n, w' = w.drewN n := by
  go_enter Tryz.func105, Tryz.ntmps105
  go_wp2_with (go_at_call 129; refine (indexFunc_areFinite _ _ _ xs _ _ h hn).mono ?_; rintro e w' ⟨rfl, m', rfl⟩)
  go_ret
  refine ⟨ret_bool ?_, _, rfl⟩
  rw [← ixf_ge]

theorem i_areFinite (A : Option Addr) (n c : Nat) (xs : List Nat) (B : Nat) (w : World) (h : Reads w B 1 A n (fl .f32 xs)) (hn : n ≤ maxLen) :
    Calls Tryz.prog 90 #[.slice A n c] w fun e w' => e = .returned (.bool (xs.all (fin .f32))) ∧ ∃ n, w' = w.drewN n := by
  go_enter Tryz.func90, Tryz.ntmps90
  go_wp2_with (go_at_call 105; refine (containsFunc_areFinite _ _ _ xs _ _ h hn).mono ?_; rintro e w' ⟨rfl, m', rfl⟩)
  go_ret
  refine ⟨ret_bool ?_, _, rfl⟩
  rw [List.all_eq_not_any_not]

/-- Is a list a signal. -/
def isSig (xs : List Nat) : Bool := decide (1 ≤ xs.length) && decide (xs.length ≤ 96) && xs.all (fin .f32)

theorem isSig_len {xs : List Nat} (h : isSig xs = true) : 1 ≤ xs.length ∧ xs.length ≤ 96 := by
  unfold isSig at h
  simp at h
  exact h.1
/-- Is an integer in a range. -/
def inB (a lo hi : Int) : Bool := decide (lo ≤ a) && decide (a ≤ hi)
theorem inB_iff {a lo hi : Int} : inB a lo hi = true ↔ lo ≤ a ∧ a ≤ hi := by unfold inB; simp
theorem i_within (a lo hi : Int) (w : World) : Calls Tryz.prog 54 #[.int .i64 a, .int .i64 lo, .int .i64 hi] w fun e w' => e = .returned (.bool (inB a lo hi)) ∧ w = w' := by
  by_cases h : lo ≤ a
  · go_enter Tryz.func54, Tryz.ntmps54
    go_wp2
    go_ret
    exact ⟨ret_bool (by unfold inB; rw [decide_eq_true h]; rfl), rfl⟩
  · go_enter Tryz.func54, Tryz.ntmps54
    go_wp2
    go_ret
    exact ⟨ret_bool (by unfold inB; rw [decide_eq_false (by omega)]; rfl), rfl⟩
end Go.Proofs.YtjmpldcnhjgpkaaGreatDoor

/-
  The logarithm of 32 bits: both sides' walks, of what is above 0.
-/
namespace Go.Proofs.YtjmpldcnhjgpkaaGreatDoor
open Go.RowKit Mem Fl
set_option linter.unusedVariables false
set_option maxRecDepth 100000

set_option maxHeartbeats 1000000 in
theorem i_LogNumber {x : Nat} {w : World} (h : x ≤ 2139095040) (h0 : x ≠ 0) :
    Calls Tryz.prog 122 #[.float .f32 x] w fun e w' => ∃ z, e = .returned (.float .f32 z) ∧ Hid (cn .f32 z = logN x) ∧ ∃ m, w' = w.drewN m := by
  by_cases hx : x = 2139095040
  · subst hx
    have g1 : (FloatKind.f32.format.order 2139095040 0 == some .eq) = false := by decide +kernel
    have g2 : (FloatKind.f32.format.order 2139095040 0 == some .lt) = false := by decide +kernel
    have g3 : (FloatKind.f32.format.order 2139095040 2139095040 != some .eq) = false := by decide +kernel
    have g4 : fin .f32 2139095040 = false := by decide +kernel
    have g5 : Hid (cn .f32 2139095040 = logN 2139095040) := hide (by rw [logN_inf]; decide +kernel)
    clear h h0
    go_enter Tryz.func122, Tryz.ntmps122
    go_wp2_with (go_at_call 83; refine (i_IsFinite _ _).mono ?_; rintro e w' ⟨rfl, m', rfl⟩; rw [g4])
    go_ret
    exact ⟨_, rfl, g5, _, rfl⟩
  · have hn : Nn x := by unfold Nn; omega
    have hlt : x < FloatKind.f32.format.infRung := by rw [show FloatKind.f32.format.infRung = 2139095040 from f32_inf]; omega
    have hz : 0 < FloatKind.f32.format.infRung := by omega
    have g1 := eq_pos (k := .f32) hlt hz
    have g2 := lt_pos (k := .f32) hlt hz
    have g3 := ne_pos (k := .f32) hlt hlt
    rw [decide_eq_false h0] at g1
    rw [decide_eq_false (Nat.not_lt_zero _)] at g2
    rw [decide_eq_false (fun e => e rfl)] at g3
    have g4 := nn_fin hn
    obtain ⟨w1, w2⟩ := wide_pos hn h0
    have HC := hide (cvR_pos hn h0)
    have HL : Hid (∀ (z : Nat) (W : World), cn .f64 z = logV (wide x) → cn .f32 (cvR .f64 .f32 z W) = logN x) := hide (fun z W hz => log_end hn h0 hz W)
    have HN : ∀ W, _ := fun W => i_naturalLog (r := wide x) (w := W) w1 w2
    clear h h0 hx hn hlt hz w1 w2
    generalize wide x = r at *
    replace HN := hide HN
    go_enter Tryz.func122, Tryz.ntmps122
    go_wp2_with (first | (go_at_call 83; refine (i_IsFinite _ _).mono ?_; rintro e w' ⟨rfl, m', rfl⟩; rw [g4]) | (go_at_call 162; rw [HC.out]; refine (HN.out _).mono ?_; rintro e w' ⟨z, rfl, hz, m2, rfl⟩))
    go_ret
    exact ⟨_, rfl, hide (HL.out _ _ hz.out), _, rfl⟩
end Go.Proofs.YtjmpldcnhjgpkaaGreatDoor

/-
  Contracts on lists of numbers that are told, and on numbers that are greater than 0.
-/
namespace Go.Proofs.YtjmpldcnhjgpkaaGreatDoor
open Go.RowKit Fl Mem
set_option linter.unusedVariables false
set_option maxRecDepth 100000

/-- Is a number finite and greater than 0. -/
def pos (x : Nat) : Bool := fin .f32 x && (FloatKind.f32.format.order x 0 == some .gt)
theorem pos_cn (x : Nat) : pos (cn .f32 x) = pos x := by unfold pos; rw [fin_cn, order_cnl]
theorem areMore_1 (x : Nat) (w : World) : Calls Tryz.prog 106 #[.float .f32 x] w fun e w' => e = .returned (.bool (!pos x)) ∧ ∃ n, w' = w.drewN n := by
  have hp : Hid (pos x = (fin .f32 x && (FloatKind.f32.format.order x 0 == some .gt))) := hide rfl
  cases hf : fin .f32 x
  all_goals
    go_enter Tryz.func106, Tryz.ntmps106
    go_wp2_with (go_at_call 83; refine (i_IsFinite _ _).mono ?_; rintro e w' ⟨rfl, m', rfl⟩)
    go_ret
    exact ⟨ret_bool (by rw [hp.out, hf]; simp), _, rfl⟩

set_option maxHeartbeats 400000 in
theorem indexFunc_areMore (A : Option Addr) (n c : Nat) (xs : List Nat) (B : Nat) (w : World) (h : Reads w B 1 A n (fl .f32 xs)) (hn : n ≤ maxLen) :
    Calls Tryz.prog 129 #[.slice A n c, .func (.func 106) #[] #[]] w fun e w' => e = .returned (.int .i64 (ixf (fun x => !pos x) xs)) ∧ ∃ n, w' = w.drewN n := by
  unfold maxLen at hn
  have Hlen := hide h.map_len
  go_enter Tryz.func129, Tryz.ntmps129
  go_wp2
  go_loopw [5, 8] (fun _ i wr => ∃ k m : Nat, k ≤ n ∧ i = .int .i64 k ∧ wr = w.drewN m ∧ Hid ((xs.take k).all (fun y => !!pos y) = true)) (fun _ i _ => n - (intOf i).toNat)
  case atStart => exact ⟨0, 0, Nat.zero_le _, rfl, rfl, rfl⟩
  case round =>
    obtain ⟨k, m, hk, rfl, rfl, ha⟩ := hrel
    by_cases hlt : k < n
    · obtain ⟨ad, x, rfl, _, hx, hc⟩ := h.map_at hlt
      have Hx := hide hx
      clear hx
      go_wp2_with (go_at_call 106; refine (areMore_1 _ _).mono ?_; rintro e w' ⟨rfl, m', rfl⟩)
      · rename_i h0
        go_ret
        exact ⟨ret_int (ixf_at Hx.out ha.out h0).symm, _, rfl⟩
      · rename_i h0
        go_roundw
        case rel => exact ⟨k + 1, _, by omega, by go_num, rfl, hide (by rw [take_eq Hx.out, List.all_append, ha.out]; simp at h0; simp [h0])⟩
        case measure => simp [intOf]; omega
    · go_wp2
      go_ret
      refine ⟨ret_int (ixf_none ?_).symm, _, rfl⟩
      rw [← ha.out, List.take_of_length_le (by rw [Hlen.out]; omega)]
theorem containsFunc_areMore (A : Option Addr) (n c : Nat) (xs : List Nat) (B : Nat) (w : World) (h : Reads w B 1 A n (fl .f32 xs)) (hn : n ≤ maxLen) :
    Calls Tryz.prog 105 #[.slice A n c, .func (.func 106) #[] #[]] w fun e w' => e = .returned (.bool (xs.any (fun x => !pos x))) ∧ ∃ n, w' = w.drewN n := by
  go_enter Tryz.func105, Tryz.ntmps105
  go_wp2_with (go_at_call 129; refine (indexFunc_areMore _ _ _ xs _ _ h hn).mono ?_; rintro e w' ⟨rfl, m', rfl⟩)
  go_ret
  refine ⟨ret_bool ?_, _, rfl⟩
  rw [← ixf_ge]
theorem i_areMore (A : Option Addr) (n c : Nat) (xs : List Nat) (B : Nat) (w : World) (h : Reads w B 1 A n (fl .f32 xs)) (hn : n ≤ maxLen) :
    Calls Tryz.prog 72 #[.slice A n c] w fun e w' => e = .returned (.bool (xs.all pos)) ∧ ∃ n, w' = w.drewN n := by
  go_enter Tryz.func72, Tryz.ntmps72
  go_wp2_with (go_at_call 105; refine (containsFunc_areMore _ _ _ xs _ _ h hn).mono ?_; rintro e w' ⟨rfl, m', rfl⟩)
  go_ret
  refine ⟨ret_bool ?_, _, rfl⟩
  rw [List.all_eq_not_any_not]
/-- Is a list one of numbers that are told. -/
def isToldL (xs : List Nat) : Bool := decide (1 ≤ xs.length) && decide (xs.length ≤ 256) && xs.all (fin .f32)
theorem told_len {xs : List Nat} (h : isToldL xs = true) : 1 ≤ xs.length ∧ xs.length ≤ 256 := by
  unfold isToldL at h
  simp at h
  exact h.1
theorem fl_eq {op : BinOp} {k : FloatKind} {x y a b : Nat} {w : World} (hx : cn k x = a) (hy : cn k y = b) : cn k (flR op k x y w) = fb op k a b := by rw [cn_flR, ← fb_cn, hx, hy]
theorem fl_eqr {op : BinOp} {k : FloatKind} {x y b : Nat} {w : World} (hy : cn k y = b) : cn k (flR op k x y w) = fb op k x b := by rw [cn_flR, ← fb_cnr, hy]
theorem fl_eql {op : BinOp} {k : FloatKind} {x y a : Nat} {w : World} (hx : cn k x = a) : cn k (flR op k x y w) = fb op k a y := by rw [cn_flR, ← fb_cnl, hx]

/-- The same of two numbers, or of one, that have just been laid. -/
theorem i_areFinite2 (w : World) (e : TypeId) (a b g : Nat) (hg : g = w.heap.size) {RA RB : Nat} (hA : cn .f32 a = RA) (hB : cn .f32 b = RB) :
    Calls Tryz.prog 90 #[.slice (some ⟨g, 0, none⟩) 2 2] (w.alloc (.cells #[.float .f32 a, .float .f32 b] e)) fun r w' => r = .returned (.bool (fin .f32 RA && fin .f32 RB)) ∧ Hid (cn .f32 a = RA) ∧ Hid (cn .f32 b = RB) ∧ ∃ n, w' = (w.alloc (.cells #[.float .f32 a, .float .f32 b] e)).drewN n := by
  subst hg
  refine (i_areFinite _ _ _ [a, b] _ _ (reads_new (Value.float .f32) w e [a, b]) (by simp [maxLen])).mono ?_
  rintro r w' ⟨rfl, h⟩
  exact ⟨by simp [← hA, ← hB, fin_cn], hA, hB, h⟩
theorem i_areMore1 (w : World) (e : TypeId) (a g : Nat) (hg : g = w.heap.size) :
    Calls Tryz.prog 72 #[.slice (some ⟨g, 0, none⟩) 1 1] (w.alloc (.cells #[.float .f32 a] e)) fun r w' => r = .returned (.bool (pos a)) ∧ ∃ n, w' = (w.alloc (.cells #[.float .f32 a] e)).drewN n := by
  subst hg
  refine (i_areMore _ _ _ [a] _ _ (reads_new (Value.float .f32) w e [a]) (by simp [maxLen])).mono ?_
  rintro r w' ⟨rfl, h⟩
  exact ⟨by simp, h⟩
end Go.Proofs.YtjmpldcnhjgpkaaGreatDoor

/-
  The bars of a sequence test: both sides.
-/
namespace Go.Proofs.YtjmpldcnhjgpkaaGreatDoor
open Go.RowKit Mem Fl
set_option linter.unusedVariables false
set_option maxRecDepth 100000

/-- Is a number above 0 and below another one. -/
def innr (x q : Nat) : Bool := (FloatKind.f32.format.order x 0 == some .gt) && (FloatKind.f32.format.order x q == some .lt)
theorem gt_num {x : Nat} (wf : Wf .f32 x) (h : (FloatKind.f32.format.order x 0 == some .gt) = true) : (Nn x ∨ x = 2139095040) ∧ x ≠ 0 := by
  have h0 : FloatKind.f32.format.read 0 = .number false 0 (-149) := by decide +kernel
  have hz : ∀ j : Int, Ieee.signed false 0 (j.toNat) = 0 := by intro j; simp [Ieee.signed]
  unfold Ieee.Format.order at h
  rw [h0] at h
  cases hr : FloatKind.f32.format.read x with
  | nan s t => rw [hr] at h; cases h
  | infinity s =>
    rw [hr] at h
    cases s with
    | true => cases h
    | false =>
      obtain ⟨h1, h2⟩ := read_inf hr
      have hw := wf_word wf
      rw [← h1, h2] at hw
      have : x = 2139095040 := by rw [hw]; decide +kernel
      exact ⟨.inr this, by omega⟩
  | number s m i =>
    rw [hr] at h
    simp only [Ieee.Datum.order] at h
    cases s with
    | true =>
      exfalso
      have h1 : Ieee.signed true m (i - min i (-149)).toNat ≤ 0 := signed_true _ _
      rw [show Ieee.signed false 0 (-149 - min i (-149)).toNat = 0 by simp [Ieee.signed], compare_int] at h
      split at h
      · cases h
      · split at h
        · cases h
        · omega
    | false =>
      refine ⟨.inl (nn_of wf hr), ?_⟩
      rintro rfl
      rw [h0] at hr
      cases hr
      revert h
      decide +kernel
theorem innr_pos {x q : Nat} (wf : Wf .f32 x) (hq : q < 2139095040) (h : innr x q = true) : Nn x ∧ x ≠ 0 ∧ x < q := by
  unfold innr at h
  rw [Bool.and_eq_true] at h
  obtain ⟨h1, h2⟩ := gt_num wf h.1
  have hi : FloatKind.f32.format.infRung = 2139095040 := f32_inf
  rcases h1 with h1 | h1
  · have := lt_pos (k := .f32) (c := x) (q := q) (by rw [hi]; exact h1) (by rw [hi]; exact hq)
    rw [this] at h
    exact ⟨h1, h2, of_decide_eq_true h.2⟩
  · exfalso
    subst h1
    have h3 := h.2
    have hrq := read_pos (k := .f32) (r := q) (by rw [hi]; exact hq)
    have hri : FloatKind.f32.format.read 2139095040 = .infinity false := by decide +kernel
    unfold Ieee.Format.order at h3
    rw [hri, hrq] at h3
    cases h3
def bars1 (a b : Nat) : Nat := logN (fb .quo .f32 b (fb .sub .f32 1065353216 a))
def bars2 (a b : Nat) : Nat := logN (fb .quo .f32 (fb .sub .f32 1065353216 b) a)
def barsIn (a b : Nat) : Bool := innr a 1056964608 && innr b 1056964608
def barsOk (a b : Nat) : Bool := barsIn a b && (fin .f32 (bars1 a b) && fin .f32 (bars2 a b))
theorem flR_nn {op : BinOp} {x y r : Nat} (h : fb op .f32 x y = r) (hr : r ≤ 2139095040) (w : World) : flR op .f32 x y w = r :=
  flR_bd h (by
    have : isNan .f32 (FloatKind.f32.format.word false r) = false := isNan_word' (k := .f32) (s := false) (by rw [show FloatKind.f32.format.infRung = 2139095040 from f32_inf]; exact hr)
    exact this) w
theorem bars_facts {a b : Nat} (wa : Wf .f32 a) (wb : Wf .f32 b) (h : barsIn a b = true) : ∃ d1 q1 d2 q2 : Nat, (∀ W, flR .sub .f32 1065353216 a W = d1) ∧ (∀ W, flR .quo .f32 b d1 W = q1) ∧ q1 ≤ 2139095040 ∧ q1 ≠ 0 ∧ (∀ W, flR .sub .f32 1065353216 b W = d2) ∧ (∀ W, flR .quo .f32 d2 a W = q2) ∧ q2 ≤ 2139095040 ∧ q2 ≠ 0 ∧ bars1 a b = logN q1 ∧ bars2 a b = logN q2 := by
  unfold barsIn at h
  rw [Bool.and_eq_true] at h
  obtain ⟨a1, a2, a3⟩ := innr_pos wa (by decide) h.1
  obtain ⟨b1, b2, b3⟩ := innr_pos wb (by decide) h.2
  obtain ⟨u1, u2, u3⟩ := one_sub (a := a) (by omega)
  obtain ⟨v1, v2, v3⟩ := one_sub (a := b) (by omega)
  obtain ⟨s1, s2⟩ := quo_dn b1 u3 u2 u1
  obtain ⟨t1, t2⟩ := quo_dn v3 a1 a2 (by omega)
  have hz1 : fb .quo .f32 b (fb .sub .f32 1065353216 a) ≠ 0 := fun e => b2 (Nat.le_zero.1 (e ▸ s1))
  have hz2 : fb .quo .f32 (fb .sub .f32 1065353216 b) a ≠ 0 := fun e => v2 (Nat.le_zero.1 (e ▸ t1))
  have hu : fb .sub .f32 1065353216 a ≤ 2139095040 := Nat.le_trans u1 (by decide)
  have hv : fb .sub .f32 1065353216 b ≤ 2139095040 := Nat.le_trans v1 (by decide)
  have hL1 : bars1 a b = logN (fb .quo .f32 b (fb .sub .f32 1065353216 a)) := by unfold bars1; rfl
  have hL2 : bars2 a b = logN (fb .quo .f32 (fb .sub .f32 1065353216 b) a) := by unfold bars2; rfl
  generalize bars1 a b = B1 at *
  generalize bars2 a b = B2 at *
  have hd1 : ∀ W, flR .sub .f32 1065353216 a W = fb .sub .f32 1065353216 a := flR_nn rfl hu
  have hd2 : ∀ W, flR .sub .f32 1065353216 b W = fb .sub .f32 1065353216 b := flR_nn rfl hv
  generalize fb .sub .f32 1065353216 a = d1 at *
  generalize fb .sub .f32 1065353216 b = d2 at *
  have hq1 : ∀ W, flR .quo .f32 b d1 W = fb .quo .f32 b d1 := flR_nn rfl s2
  have hq2 : ∀ W, flR .quo .f32 d2 a W = fb .quo .f32 d2 a := flR_nn rfl t2
  generalize fb .quo .f32 b d1 = q1 at *
  generalize fb .quo .f32 d2 a = q2 at *
  exact ⟨d1, q1, d2, q2, hd1, hq1, s2, hz1, hd2, hq2, t2, hz2, hL1, hL2⟩
/-- What bars look like. -/
def BarR (a b : Nat) (e : Ending) : Prop := ∃ x y : Nat, e = .returned (.tuple #[.float .f32 x, .float .f32 y, .bool (barsOk a b)]) ∧ cn .f32 x = (if barsOk a b = true then bars1 a b else 0) ∧ cn .f32 y = (if barsOk a b = true then bars2 a b else 0)
theorem cn_zero : cn .f32 0 = 0 := by decide +kernel
theorem BarR.no {a b : Nat} (h : barsOk a b = false) : BarR a b (.returned (.tuple #[.float .f32 0, .float .f32 0, .bool false])) := by
  unfold BarR; rw [h, if_neg (by simp), if_neg (by simp)]; exact ⟨0, 0, rfl, cn_zero, cn_zero⟩
theorem BarR.yes {a b x y : Nat} (h : barsOk a b = true) (hx : cn .f32 x = bars1 a b) (hy : cn .f32 y = bars2 a b) : BarR a b (.returned (.tuple #[.float .f32 x, .float .f32 y, .bool true])) := by
  unfold BarR; rw [h, if_pos rfl, if_pos rfl]; exact ⟨x, y, rfl, hx, hy⟩
end Go.Proofs.YtjmpldcnhjgpkaaGreatDoor
