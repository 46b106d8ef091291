/-
  The logarithm in 64 bits: both sides' walks.
-/
import Derived.Test.YteabfkgbakoljaaLogQ
import Derived.Test.YteabfkgbakoljaaHelq
import Derived.Test.YteabfkgbakoljaaHelp
import Derived.Test.YteabfkgbakoljaaOrd
import Derived.Test.YteabfkgbakoljaaLogR
import Derived.Test.YteabfkgbakoljaaPhQ
import Derived.Test.YteabfkgbakoljaaCapP
namespace Go.Proofs.Yteabfkgbakoljaa
open Go.RowKit Mem Fl
set_option linter.unusedVariables false
set_option maxRecDepth 100000

/-- The bits of a number. -/
def bitsOf (v : Value) : Nat := match v with
  | .float _ b => b
  | _ => 0
set_option maxHeartbeats 4000000 in
theorem i_naturalLog {r : Nat} {w : World} (h1 : 4503599627370496 ≤ r) (h2 : r < 9218868437227405312) :
    Calls Try.prog 113 #[.float .f64 r] w fun e w' => ∃ z, e = .returned (.float .f64 z) ∧ Hid (cn .f64 z = logV r) ∧ ∃ m, w' = w.drewN m := by
  have hI : Hid (FloatKind.f64.format.infRung = 9218868437227405312) := hide d64_inf
  go_enter Try.func113, Try.ntmps113
  go_wp2
  go_loopw [0, 3] (fun x e wr => ∃ c j m : Nat, x = .float .f64 c ∧ e = .float .f64 (floatOfInt .f64 ((j : Nat) : Int)) ∧ Hid (r = c + j * 4503599627370496) ∧ Hid (j = 0 ∨ 4604930618986332160 ≤ c) ∧ wr = w.drewN m) (fun x _ _ => bitsOf x)
  case atStart => exact ⟨r, 0, 0, rfl, congrArg _ e_zero, hide (by omega), hide (.inl rfl), rfl⟩
  case round =>
    obtain ⟨c, j, m, rfl, rfl, hr, hj, rfl⟩ := hrel
    have hr' := hr.out
    have hj' := hj.out
    have hg := ge_pos (k := .f64) (c := c) (q := 4609434218613702656) (by rw [hI.out]; omega) (by rw [hI.out]; omega)
    by_cases hc : 4609434218613702656 ≤ c
    · rw [decide_eq_true hc] at hg
      obtain ⟨c', hc', HH⟩ := half64x (c := c) (by omega) (by omega)
      have Hr : Hid (r = c' + (j + 1) * 4503599627370496) := hide (by omega)
      have Hc : Hid (4604930618986332160 ≤ c') := hide (by omega)
      have Hl : Hid (c' < c) := hide (by omega)
      have HF := hide (flR_pos HH (by rw [hI.out]; omega))
      have Hj := hide (@e_up j (by omega))
      clear hr' hj' hr hj hc hc' HH
      go_wp2
      go_roundw
      case rel => exact ⟨c', j + 1, _, by rw [HF.out], by rw [Hj.out], Hr, hide (.inr Hc.out), rfl⟩
      case measure =>
        rw [HF.out]
        exact Hl.out
    · rw [decide_eq_false hc] at hg
      have Hr : Hid ((r : Int) = c + (j : Int) * 4503599627370496) := hide (by omega)
      have Hc : Hid ((j : Int) ≤ 0 ∨ 4604930618986332160 ≤ c) := hide (by omega)
      have Hl : Hid (c < 4609434218613702656 ∧ 4503599627370496 ≤ c) := hide (by omega)
      clear hr' hj' hr hj hc
      go_wp2
      clear hg
      go_loopw [0, 3] (fun x e wr => ∃ (c : Nat) (ev : Int) (m : Nat), x = .float .f64 c ∧ e = .float .f64 (floatOfInt .f64 ev) ∧ Hid ((r : Int) = c + ev * 4503599627370496) ∧ Hid (ev ≤ 0 ∨ 4604930618986332160 ≤ c) ∧ Hid (c < 4609434218613702656 ∧ 4503599627370496 ≤ c) ∧ wr = w.drewN m) (fun x _ _ => 4604930618986332160 - bitsOf x)
      case atStart => exact ⟨c, (j : Int), _, rfl, rfl, Hr, Hc, Hl, rfl⟩
      case round =>
        clear Hr Hc Hl
        obtain ⟨c, ev, m, rfl, rfl, hr, hj, hc15, rfl⟩ := hrel
        have hr' := hr.out
        have hj' := hj.out
        obtain ⟨hc1, hc2⟩ := hc15.out
        have hg := lt_pos (k := .f64) (c := c) (q := 4604930618986332160) (by rw [hI.out]; omega) (by rw [hI.out]; omega)
        by_cases hc : c < 4604930618986332160
        · rw [decide_eq_true hc] at hg
          obtain ⟨c', hc', HH⟩ := dbl64x (c := c) (by omega) (by omega)
          have Hr : Hid ((r : Int) = c' + (ev - 1) * 4503599627370496) := hide (by omega)
          have Hc : Hid (ev - 1 ≤ 0 ∨ 4604930618986332160 ≤ c') := hide (by omega)
          have Hl : Hid (c' < 4609434218613702656 ∧ 4503599627370496 ≤ c') := hide (by omega)
          have Hm : Hid (4604930618986332160 - c' < 4604930618986332160 - c) := hide (by omega)
          have HF := hide (flR_pos HH (by rw [hI.out]; omega))
          have Hj := hide (@e_down ev (by omega) (by omega))
          clear hr' hj' hr hj hc hc' HH hc15 hc1 hc2
          go_wp2
          go_roundw
          case rel => exact ⟨c', ev - 1, _, by rw [HF.out], by rw [Hj.out], Hr, Hc, Hl, rfl⟩
          case measure =>
            rw [HF.out]
            exact Hm.out
        · rw [decide_eq_false hc] at hg
          have HR := hide (red_of hr.out (by omega) hc1)
          clear hr hj hc15 hr' hj' hc1 hc2 hc h1 h2
          go_wp2
          clear hg
          go_loopw [6, 7] (fun q kv wr => ∃ (j qz m : Nat), j ≤ 13 ∧ kv = .float .f64 (floatOfInt .f64 (25 - 2 * ((j : Nat) : Int))) ∧ q = .float .f64 qz ∧ Hid (cn .f64 qz = logQ (fb .mul .f64 (logS c) (logS c)) j) ∧ wr = w.drewN m) (fun _ kv _ => kM (bitsOf kv))
          case atStart => exact ⟨0, 0, _, by omega, congrArg _ k_zero, rfl, hide (q_zero _), rfl⟩
          case round =>
            obtain ⟨j, qz, m', hj, rfl, rfl, hq, rfl⟩ := hrel
            have hg := ks_ge j (by omega)
            by_cases hj3 : j < 13
            · rw [decide_eq_true hj3] at hg
              have HK := hide (@ks_step j hj3)
              have HM := hide (km_dec j hj3)
              go_wp2
              go_roundw
              case rel => exact ⟨j + 1, _, _, by omega, by rw [HK.out], rfl, hide (q_step (u_step (s_step _ _ _) _) hq.out _ _ _), rfl⟩
              case measure =>
                rw [HK.out]
                exact HM.out
            · rw [decide_eq_false hj3] at hg
              obtain rfl : j = 13 := by omega
              go_wp2
              go_ret
              exact ⟨_, rfl, hide (end_step HR.out (s_step _ _ _) hq.out _ _ _ _), _, rfl⟩
end Go.Proofs.Yteabfkgbakoljaa

/-
  Contracts on numbers that are finite, one by one and all.
-/
namespace Go.Proofs.Yteabfkgbakoljaa
open Go.RowKit Fl Mem
set_option linter.unusedVariables false

theorem i_IsFinite (x : Nat) (w : World) : Calls Try.prog 64 #[.float .f32 x] w fun e w' => e = .returned (.bool (fin .f32 x)) ∧ ∃ n, w' = w.drewN n := by
  go_enter Try.func64, Try.ntmps64
  go_wp2
  go_ret
  exact ⟨rfl, _, rfl⟩
theorem s_l01Finite (x : Nat) (w : World) : Calls Try.prog 120 #[.float .f32 x] w fun e w' => e = .returned (.bool (fin .f32 x)) ∧ ∃ n, w' = w.drewN n := by
  go_enter Try.func120, Try.ntmps120
  go_wp2
  go_ret
  exact ⟨rfl, _, rfl⟩

set_option maxHeartbeats 400000 in
theorem s_l02Finite (A : Option Addr) (n c : Nat) (xs : List Nat) (B : Nat) (w : World) (h : Reads w B 1 A n (fl .f32 xs)) (hn : n ≤ maxLen) :
    Calls Try.prog 92 #[.slice A n c] w fun e w' => e = .returned (.bool (xs.all (fin .f32))) ∧ ∃ n, w' = w.drewN n := by
  unfold maxLen at hn
  have Hlen := hide h.map_len
  go_enter Try.func92, Try.ntmps92
  go_wp2
  go_loopw [3] (fun i wr => ∃ k m : Nat, k ≤ n ∧ i = .int .i64 k ∧ wr = w.drewN m ∧ Hid ((xs.drop k).all (fin .f32) = xs.all (fin .f32))) (fun i _ => n - (intOf i).toNat)
  case atStart => exact ⟨0, 0, Nat.zero_le _, rfl, rfl, rfl⟩
  case round =>
    obtain ⟨k, m, hk, rfl, rfl, ha⟩ := hrel
    by_cases hlt : k < n
    · obtain ⟨ad, x, rfl, _, hx, hc⟩ := h.map_at hlt
      have Hx := hide hx
      clear hx
      go_wp2_with (go_at_call 120; refine (s_l01Finite _ _).mono ?_; rintro e w' ⟨rfl, m', rfl⟩)
      · rename_i h0
        go_ret
        refine ⟨ret_bool ?_, _, rfl⟩
        rw [← ha.out, drop_eq Hx.out, List.all_cons]
        simp at h0
        rw [h0]; rfl
      · rename_i h0
        go_roundw
        case rel => exact ⟨k + 1, _, by omega, by go_num, rfl, by have h1 := ha.out; rw [drop_eq Hx.out, List.all_cons] at h1; simp at h0; rw [h0] at h1; exact h1⟩
        case measure => simp [intOf]; omega
    · go_wp2
      go_ret
      refine ⟨ret_bool ?_, _, rfl⟩
      rw [← ha.out, List.drop_of_length_le (by rw [Hlen.out]; omega)]; rfl

theorem areFinite_1 (x : Nat) (w : World) : Calls Try.prog 114 #[.float .f32 x] w fun e w' => e = .returned (.bool (!fin .f32 x)) ∧ ∃ n, w' = w.drewN n := by
  go_enter Try.func114, Try.ntmps114
  go_wp2_with (go_at_call 64; refine (i_IsFinite _ _).mono ?_; rintro e w' ⟨rfl, m', rfl⟩)
  go_ret
  exact ⟨rfl, _, rfl⟩

/-- What 'slices.IndexFunc' gives. -/
def ixf {α : Type} (p : α → Bool) (xs : List α) : Int := match xs.findIdx? p with | some i => i | none => -1
theorem ixf_at {α : Type} {p : α → Bool} {xs : List α} {k : Nat} {x : α} (hx : xs[k]? = some x) (h0 : (xs.take k).all (fun y => !p y) = true) (hp : p x = true) : ixf p xs = k := by
  unfold ixf
  have : xs.findIdx? p = some k := by
    obtain ⟨hk, rfl⟩ := List.getElem?_eq_some_iff.1 hx
    rw [List.findIdx?_eq_some_iff_getElem]
    refine ⟨hk, hp, fun j hj => ?_⟩
    have := List.all_eq_true.1 h0 xs[j] (by rw [List.mem_take_iff_getElem]; exact ⟨j, by omega, rfl⟩)
    simpa using this
  rw [this]
theorem ixf_none {α : Type} {p : α → Bool} {xs : List α} (h0 : xs.all (fun y => !p y) = true) : ixf p xs = -1 := by
  unfold ixf
  have : xs.findIdx? p = none := by
    rw [List.findIdx?_eq_none_iff]
    intro x hx
    have := List.all_eq_true.1 h0 x hx
    simpa using this
  rw [this]
theorem ixf_ge {α : Type} (p : α → Bool) (xs : List α) : decide (0 ≤ ixf p xs) = xs.any p := by
  unfold ixf
  cases h : xs.findIdx? p with
  | none =>
    rw [List.findIdx?_eq_none_iff] at h
    have : xs.any p = false := by
      rw [List.any_eq_false]
      intro x hx
      simp [h x hx]
    rw [this]; rfl
  | some i =>
    have h2 : xs.any p = true := by
      rw [List.findIdx?_eq_some_iff_getElem] at h
      obtain ⟨hi, hp, _⟩ := h
      exact List.any_eq_true.2 ⟨_, List.getElem_mem hi, hp⟩
    rw [h2]
    simp
theorem ixf_lt {α : Type} (p : α → Bool) (xs : List α) : -1 ≤ ixf p xs ∧ ixf p xs < xs.length ∨ ixf p xs = -1 := by
  unfold ixf
  cases h : xs.findIdx? p with
  | none => right; rfl
  | some i =>
    left
    rw [List.findIdx?_eq_some_iff_getElem] at h
    obtain ⟨hi, _⟩ := h
    simp only
    omega

set_option maxHeartbeats 400000 in
theorem indexFunc_areFinite (A : Option Addr) (n c : Nat) (xs : List Nat) (B : Nat) (w : World) (h : Reads w B 1 A n (fl .f32 xs)) (hn : n ≤ maxLen) :
    Calls Try.prog 142 #[.slice A n c, .func (.func 114) #[] #[]] w fun e w' => e = .returned (.int .i64 (ixf (fun x => !fin .f32 x) xs)) ∧ ∃ n, w' = w.drewN n := by
  unfold maxLen at hn
  have Hlen := hide h.map_len
  go_enter Try.func142, Try.ntmps142
  go_wp2
  go_loopw [5, 8] (fun _ i wr => ∃ k m : Nat, k ≤ n ∧ i = .int .i64 k ∧ wr = w.drewN m ∧ Hid ((xs.take k).all (fun y => !!fin .f32 y) = true)) (fun _ i _ => n - (intOf i).toNat)
  case atStart => exact ⟨0, 0, Nat.zero_le _, rfl, rfl, rfl⟩
  case round =>
    obtain ⟨k, m, hk, rfl, rfl, ha⟩ := hrel
    by_cases hlt : k < n
    · obtain ⟨ad, x, rfl, _, hx, hc⟩ := h.map_at hlt
      have Hx := hide hx
      clear hx
      go_wp2_with (go_at_call 114; refine (areFinite_1 _ _).mono ?_; rintro e w' ⟨rfl, m', rfl⟩)
      · rename_i h0
        go_ret
        exact ⟨ret_int (ixf_at Hx.out ha.out h0).symm, _, rfl⟩
      · rename_i h0
        go_roundw
        case rel => exact ⟨k + 1, _, by omega, by go_num, rfl, hide (by rw [take_eq Hx.out, List.all_append, ha.out]; simp at h0; simp [h0])⟩
        case measure => simp [intOf]; omega
    · go_wp2
      go_ret
      refine ⟨ret_int (ixf_none ?_).symm, _, rfl⟩
      rw [← ha.out, List.take_of_length_le (by rw [Hlen.out]; omega)]

theorem containsFunc_areFinite (A : Option Addr) (n c : Nat) (xs : List Nat) (B : Nat) (w : World) (h : Reads w B 1 A n (fl .f32 xs)) (hn : n ≤ maxLen) :
    Calls Try.prog 109 #[.slice A n c, .func (.func 114) #[] #[]] w fun e w' => e = .returned (.bool (xs.any (fun x => !fin .f32 x))) ∧ ∃ n, w' = w.drewN n := by
  go_enter Try.func109, Try.ntmps109
  go_wp2_with (go_at_call 142; refine (indexFunc_areFinite _ _ _ xs _ _ h hn).mono ?_; rintro e w' ⟨rfl, m', rfl⟩)
  go_ret
  refine ⟨ret_bool ?_, _, rfl⟩
  rw [← ixf_ge]

theorem i_areFinite (A : Option Addr) (n c : Nat) (xs : List Nat) (B : Nat) (w : World) (h : Reads w B 1 A n (fl .f32 xs)) (hn : n ≤ maxLen) :
    Calls Try.prog 69 #[.slice A n c] w fun e w' => e = .returned (.bool (xs.all (fin .f32))) ∧ ∃ n, w' = w.drewN n := by
  go_enter Try.func69, Try.ntmps69
  go_wp2_with (go_at_call 109; refine (containsFunc_areFinite _ _ _ xs _ _ h hn).mono ?_; rintro e w' ⟨rfl, m', rfl⟩)
  go_ret
  refine ⟨ret_bool ?_, _, rfl⟩
  rw [List.all_eq_not_any_not]

/-- Is a list a signal. -/
def isSig (xs : List Nat) : Bool := decide (1 ≤ xs.length) && decide (xs.length ≤ 96) && xs.all (fin .f32)

theorem isSig_len {xs : List Nat} (h : isSig xs = true) : 1 ≤ xs.length ∧ xs.length ≤ 96 := by
  unfold isSig at h
  simp at h
  exact h.1
theorem i_IsSignal (A : Option Addr) (n c : Nat) (xs : List Nat) (B : Nat) (w : World) (h : Reads w B 1 A n (fl .f32 xs)) (hn : n ≤ maxLen) :
    Calls Try.prog 45 #[.slice A n c] w fun e w' => e = .returned (.bool (isSig xs)) ∧ ∃ n, w' = w.drewN n := by
  have hl := h.map_len
  have Hs : Hid (isSig xs = (decide (1 ≤ n) && decide (n ≤ 96) && xs.all (fin .f32))) := by unfold isSig; rw [hl]; rfl
  clear hl
  by_cases h1 : 1 ≤ n
  · by_cases h2 : n ≤ 96
    · go_enter Try.func45, Try.ntmps45
      go_wp2_with (go_at_call 69; refine (i_areFinite _ _ _ xs _ _ h hn).mono ?_; rintro e w' ⟨rfl, m', rfl⟩)
      go_ret
      exact ⟨ret_bool (by rw [Hs.out]; simp [h1, h2]), _, rfl⟩
    · go_enter Try.func45, Try.ntmps45
      go_wp2
      go_ret
      exact ⟨ret_bool (by rw [Hs.out]; simp [h2]), 0, rfl⟩
  · go_enter Try.func45, Try.ntmps45
    go_wp2
    go_ret
    exact ⟨ret_bool (by rw [Hs.out]; simp [h1]), 0, rfl⟩

theorem s_l07Signal (A : Option Addr) (n c : Nat) (xs : List Nat) (B : Nat) (w : World) (h : Reads w B 1 A n (fl .f32 xs)) (hn : n ≤ maxLen) :
    Calls Try.prog 82 #[.slice A n c] w fun e w' => e = .returned (.bool (isSig xs)) ∧ ∃ n, w' = w.drewN n := by
  have hl := h.map_len
  have Hs : Hid (isSig xs = (decide (1 ≤ n) && decide (n ≤ 96) && xs.all (fin .f32))) := by unfold isSig; rw [hl]; rfl
  clear hl
  by_cases h1 : 1 ≤ n
  · by_cases h2 : n ≤ 96
    · go_enter Try.func82, Try.ntmps82
      go_wp2_with (go_at_call 92; refine (s_l02Finite _ _ _ xs _ _ h hn).mono ?_; rintro e w' ⟨rfl, m', rfl⟩)
      go_ret
      exact ⟨ret_bool (by rw [Hs.out]; simp [h1, h2]), _, rfl⟩
    · go_enter Try.func82, Try.ntmps82
      go_wp2
      go_ret
      exact ⟨ret_bool (by rw [Hs.out]; simp [h2]), 0, rfl⟩
  · go_enter Try.func82, Try.ntmps82
    go_wp2
    go_ret
    exact ⟨ret_bool (by rw [Hs.out]; simp [h1]), 0, rfl⟩

/-- Is an integer in a range. -/
def inB (a lo hi : Int) : Bool := decide (lo ≤ a) && decide (a ≤ hi)
theorem inB_iff {a lo hi : Int} : inB a lo hi = true ↔ lo ≤ a ∧ a ≤ hi := by unfold inB; simp
theorem i_within (a lo hi : Int) (w : World) : Calls Try.prog 59 #[.int .i64 a, .int .i64 lo, .int .i64 hi] w fun e w' => e = .returned (.bool (inB a lo hi)) ∧ w = w' := by
  by_cases h : lo ≤ a
  · go_enter Try.func59, Try.ntmps59
    go_wp2
    go_ret
    exact ⟨ret_bool (by unfold inB; rw [decide_eq_true h]; rfl), rfl⟩
  · go_enter Try.func59, Try.ntmps59
    go_wp2
    go_ret
    exact ⟨ret_bool (by unfold inB; rw [decide_eq_false (by omega)]; rfl), rfl⟩
theorem s_l00In (a lo hi : Int) (w : World) : Calls Try.prog 89 #[.int .i64 a, .int .i64 lo, .int .i64 hi] w fun e w' => e = .returned (.bool (inB a lo hi)) ∧ w = w' := by
  by_cases h : lo ≤ a
  · go_enter Try.func89, Try.ntmps89
    go_wp2
    go_ret
    exact ⟨ret_bool (by unfold inB; rw [decide_eq_true h]; rfl), rfl⟩
  · go_enter Try.func89, Try.ntmps89
    go_wp2
    go_ret
    exact ⟨ret_bool (by unfold inB; rw [decide_eq_false (by omega)]; rfl), rfl⟩
end Go.Proofs.Yteabfkgbakoljaa

/-
  The logarithm of 32 bits: both sides' walks, of what is above 0.
-/
namespace Go.Proofs.Yteabfkgbakoljaa
open Go.RowKit Mem Fl
set_option linter.unusedVariables false
set_option maxRecDepth 100000

theorem isInf_fin {r : Nat} {w : World} (h2 : r < 9218868437227405312) : Calls Try.prog 148 #[.float .f64 r, .int .i64 1] w fun e w' => e = .returned (.bool false) ∧ w = w' := by
  have hg := gt_pos (k := .f64) (c := r) (q := 9218868437227405311) (by rw [d64_inf]; omega) (by rw [d64_inf]; omega)
  rw [decide_eq_false (by omega)] at hg
  go_enter Try.func148, Try.ntmps148
  go_wp2
  go_ret
  exact ⟨ret_bool (by first | exact hg | rfl | simp [hg]), rfl⟩
theorem isInf_inf {w : World} : Calls Try.prog 148 #[.float .f64 9218868437227405312, .int .i64 1] w fun e w' => e = .returned (.bool true) ∧ w = w' := by
  have hg : (FloatKind.f64.format.order 9218868437227405312 9218868437227405311 == some .gt) = true := by decide +kernel
  go_enter Try.func148, Try.ntmps148
  go_wp2
  go_ret
  exact ⟨ret_bool (by first | exact hg | rfl | simp [hg]), rfl⟩
set_option maxHeartbeats 1000000 in
theorem i_LogNumber {x : Nat} {w : World} (h : x ≤ 2139095040) (h0 : x ≠ 0) :
    Calls Try.prog 68 #[.float .f32 x] w fun e w' => ∃ z, e = .returned (.float .f32 z) ∧ Hid (cn .f32 z = logN x) ∧ ∃ m, w' = w.drewN m := by
  by_cases hx : x = 2139095040
  · subst hx
    have g1 : (FloatKind.f32.format.order 2139095040 0 == some .eq) = false := by decide +kernel
    have g2 : (FloatKind.f32.format.order 2139095040 0 == some .lt) = false := by decide +kernel
    have g3 : (FloatKind.f32.format.order 2139095040 2139095040 != some .eq) = false := by decide +kernel
    have g4 : fin .f32 2139095040 = false := by decide +kernel
    have g5 : Hid (cn .f32 2139095040 = logN 2139095040) := hide (by rw [logN_inf]; decide +kernel)
    clear h h0
    go_enter Try.func68, Try.ntmps68
    go_wp2_with (go_at_call 64; refine (i_IsFinite _ _).mono ?_; rintro e w' ⟨rfl, m', rfl⟩; rw [g4])
    go_ret
    exact ⟨_, rfl, g5, _, rfl⟩
  · have hn : Nn x := by unfold Nn; omega
    have hlt : x < FloatKind.f32.format.infRung := by rw [show FloatKind.f32.format.infRung = 2139095040 from f32_inf]; omega
    have hz : 0 < FloatKind.f32.format.infRung := by omega
    have g1 := eq_pos (k := .f32) hlt hz
    have g2 := lt_pos (k := .f32) hlt hz
    have g3 := ne_pos (k := .f32) hlt hlt
    rw [decide_eq_false h0] at g1
    rw [decide_eq_false (Nat.not_lt_zero _)] at g2
    rw [decide_eq_false (fun e => e rfl)] at g3
    have g4 := nn_fin hn
    obtain ⟨w1, w2⟩ := wide_pos hn h0
    have HC := hide (cvR_pos hn h0)
    have HL : Hid (∀ (z : Nat) (W : World), cn .f64 z = logV (wide x) → cn .f32 (cvR .f64 .f32 z W) = logN x) := hide (fun z W hz => log_end hn h0 hz W)
    have HN : ∀ W, _ := fun W => i_naturalLog (r := wide x) (w := W) w1 w2
    clear h h0 hx hn hlt hz w1 w2
    generalize wide x = r at *
    replace HN := hide HN
    go_enter Try.func68, Try.ntmps68
    go_wp2_with (first | (go_at_call 64; refine (i_IsFinite _ _).mono ?_; rintro e w' ⟨rfl, m', rfl⟩; rw [g4]) | (go_at_call 113; rw [HC.out]; refine (HN.out _).mono ?_; rintro e w' ⟨z, rfl, hz, m2, rfl⟩))
    go_ret
    exact ⟨_, rfl, hide (HL.out _ _ hz.out), _, rfl⟩
set_option maxHeartbeats 4000000 in
theorem s_l01LogWide {r : Nat} {w : World} (h1 : 4503599627370496 ≤ r) (h2 : r < 9218868437227405312) :
    Calls Try.prog 137 #[.float .f64 r] w fun e w' => ∃ z, e = .returned (.float .f64 z) ∧ Hid (cn .f64 z = logV r) ∧ ∃ m, w' = w.drewN m := by
  have hI : Hid (FloatKind.f64.format.infRung = 9218868437227405312) := hide d64_inf
  have hlt : r < FloatKind.f64.format.infRung := by rw [hI.out]; omega
  have hz : 0 < FloatKind.f64.format.infRung := by omega
  have g1 := eq_pos (k := .f64) hlt hz
  have g2 := lt_pos (k := .f64) hlt hz
  have g3 := ne_pos (k := .f64) hlt hlt
  rw [decide_eq_false (by omega)] at g1
  rw [decide_eq_false (Nat.not_lt_zero _)] at g2
  rw [decide_eq_false (fun e => e rfl)] at g3
  have HIn : ∀ W, _ := fun W => isInf_fin (r := r) (w := W) h2
  replace HIn := hide HIn
  clear hlt hz
  go_enter Try.func137, Try.ntmps137
  go_wp2_with (go_at_call 148; refine (HIn.out _).mono ?_; rintro e w' ⟨rfl, rfl⟩)
  clear g1 g2 g3
  go_loopw [0, 3] (fun x e wr => ∃ c j m : Nat, x = .float .f64 c ∧ e = .int .i64 ((j : Nat) : Int) ∧ Hid (r = c + j * 4503599627370496) ∧ Hid (j = 0 ∨ 4604930618986332160 ≤ c) ∧ wr = w.drewN m) (fun x _ _ => bitsOf x)
  case atStart => exact ⟨r, 0, 0, rfl, rfl, hide (by omega), hide (.inl rfl), rfl⟩
  case round =>
    obtain ⟨c, j, m, rfl, rfl, hr, hj, rfl⟩ := hrel
    have hr' := hr.out
    have hj' := hj.out
    have hjI : (j : Int) < 3000 := by omega
    have hg := ge_pos (k := .f64) (c := c) (q := 4609434218613702656) (by rw [hI.out]; omega) (by rw [hI.out]; omega)
    by_cases hc : 4609434218613702656 ≤ c
    · rw [decide_eq_true hc] at hg
      obtain ⟨c', hc', HH⟩ := half64x (c := c) (by omega) (by omega)
      have Hr : Hid (r = c' + (j + 1) * 4503599627370496) := hide (by omega)
      have Hc : Hid (4604930618986332160 ≤ c') := hide (by omega)
      have Hl : Hid (c' < c) := hide (by omega)
      have HF := hide (flR_pos HH (by rw [hI.out]; omega))
      clear hr' hj' hr hj hc hc' HH
      go_wp2
      go_roundw
      case rel => exact ⟨c', j + 1, _, by rw [HF.out], by go_num, Hr, hide (.inr Hc.out), rfl⟩
      case measure =>
        rw [HF.out]
        exact Hl.out
    · rw [decide_eq_false hc] at hg
      have Hr : Hid ((r : Int) = c + (j : Int) * 4503599627370496) := hide (by omega)
      have Hc : Hid ((j : Int) ≤ 0 ∨ 4604930618986332160 ≤ c) := hide (by omega)
      have Hl : Hid (c < 4609434218613702656 ∧ 4503599627370496 ≤ c) := hide (by omega)
      clear hr' hj' hr hj hc
      go_wp2
      clear hg
      go_loopw [0, 3] (fun x e wr => ∃ (c : Nat) (ev : Int) (m : Nat), x = .float .f64 c ∧ e = .int .i64 ev ∧ Hid ((r : Int) = c + ev * 4503599627370496) ∧ Hid (ev ≤ 0 ∨ 4604930618986332160 ≤ c) ∧ Hid (c < 4609434218613702656 ∧ 4503599627370496 ≤ c) ∧ wr = w.drewN m) (fun x _ _ => 4604930618986332160 - bitsOf x)
      case atStart => exact ⟨c, (j : Int), _, rfl, rfl, Hr, Hc, Hl, rfl⟩
      case round =>
        clear Hr Hc Hl hjI
        obtain ⟨c, ev, m, rfl, rfl, hr, hj, hc15, rfl⟩ := hrel
        have hr' := hr.out
        have hj' := hj.out
        obtain ⟨hc1, hc2⟩ := hc15.out
        have e1 : -3000 < ev := by omega
        have e2 : ev < 3000 := by omega
        have hg := lt_pos (k := .f64) (c := c) (q := 4604930618986332160) (by rw [hI.out]; omega) (by rw [hI.out]; omega)
        by_cases hc : c < 4604930618986332160
        · rw [decide_eq_true hc] at hg
          obtain ⟨c', hc', HH⟩ := dbl64x (c := c) (by omega) (by omega)
          have Hr : Hid ((r : Int) = c' + (ev - 1) * 4503599627370496) := hide (by omega)
          have Hc : Hid (ev - 1 ≤ 0 ∨ 4604930618986332160 ≤ c') := hide (by omega)
          have Hl : Hid (c' < 4609434218613702656 ∧ 4503599627370496 ≤ c') := hide (by omega)
          have Hm : Hid (4604930618986332160 - c' < 4604930618986332160 - c) := hide (by omega)
          have HF := hide (flR_pos HH (by rw [hI.out]; omega))
          clear hr' hj' hr hj hc hc' HH hc15 hc1 hc2
          go_wp2
          go_roundw
          case rel => exact ⟨c', ev - 1, _, by rw [HF.out], by first | rfl | go_num, Hr, Hc, Hl, rfl⟩
          case measure =>
            rw [HF.out]
            exact Hm.out
        · rw [decide_eq_false hc] at hg
          have HR := hide (red_of hr.out (by omega) hc1)
          clear hr hj hc15 hr' hj' hc1 hc2 hc h1 h2
          go_wp2
          clear hg
          go_loopw [6, 7] (fun q kv wr => ∃ (j qz m : Nat), j ≤ 13 ∧ kv = .int .i64 (25 - 2 * ((j : Nat) : Int)) ∧ q = .float .f64 qz ∧ Hid (cn .f64 qz = logQ (fb .mul .f64 (logS c) (logS c)) j) ∧ wr = w.drewN m) (fun _ kv _ => (intOf kv + 1).toNat)
          case atStart => exact ⟨0, 0, _, by omega, rfl, rfl, hide (q_zero _), rfl⟩
          case round =>
            obtain ⟨j, qz, m', hj, rfl, rfl, hq, rfl⟩ := hrel
            by_cases hj3 : j < 13
            · have i1 : (1 : Int) ≤ 25 - 2 * (j : Int) := by omega
              have i2 : 25 - 2 * (j : Int) ≤ 25 := by omega
              go_wp2
              go_roundw
              case rel => exact ⟨j + 1, _, _, by omega, by (congr 1; omega), rfl, hide (q_step (u_step (s_step _ _ _) _) hq.out _ _ _), rfl⟩
              case measure => (simp [intOf]; omega)
            · obtain rfl : j = 13 := by omega
              go_wp2
              go_ret
              exact ⟨_, rfl, hide (end_step HR.out (s_step _ _ _) hq.out _ _ _ _), _, rfl⟩
theorem s_l01LogWide_inf {w : World} : Calls Try.prog 137 #[.float .f64 9218868437227405312] w fun e w' => e = .returned (.float .f64 9218868437227405312) ∧ ∃ m, w' = w.drewN m := by
  have g1 : (FloatKind.f64.format.order 9218868437227405312 0 == some .eq) = false := by decide +kernel
  have g2 : (FloatKind.f64.format.order 9218868437227405312 0 == some .lt) = false := by decide +kernel
  have g3 : (FloatKind.f64.format.order 9218868437227405312 9218868437227405312 != some .eq) = false := by decide +kernel
  go_enter Try.func137, Try.ntmps137
  go_wp2_with (go_at_call 148; refine isInf_inf.mono ?_; rintro e w' ⟨rfl, rfl⟩)
  go_ret
  exact ⟨rfl, 0, rfl⟩
theorem s_Narrow {z : Nat} {w : World} : Calls Try.prog 130 #[.float .f64 z] w fun e w' => e = .returned (.float .f32 (cvR .f64 .f32 z w)) ∧ ∃ m, w' = w.drewN m := by
  go_enter Try.func130, Try.ntmps130
  go_wp2
  go_ret
  exact ⟨rfl, _, rfl⟩
theorem s_l01Log {x : Nat} {w : World} (h : x ≤ 2139095040) (h0 : x ≠ 0) :
    Calls Try.prog 104 #[.float .f32 x] w fun e w' => ∃ z, e = .returned (.float .f32 z) ∧ Hid (cn .f32 z = logN x) ∧ ∃ m, w' = w.drewN m := by
  by_cases hx : x = 2139095040
  · subst hx
    have g5 : Hid (∀ W, cn .f32 (cvR .f64 .f32 9218868437227405312 W) = logN 2139095040) := hide (fun W => by rw [logN_inf, cvR_inf']; decide +kernel)
    have HC := hide cvR_inf
    clear h h0
    go_enter Try.func104, Try.ntmps104
    go_wp2_with (first | (go_at_call 137; rw [HC.out]; refine s_l01LogWide_inf.mono ?_; rintro e w' ⟨rfl, m1, rfl⟩) | (go_at_call 130; refine s_Narrow.mono ?_; rintro e w' ⟨rfl, m2, rfl⟩))
    go_ret
    exact ⟨_, rfl, hide (g5.out _), _, rfl⟩
  · have hn : Nn x := by unfold Nn; omega
    obtain ⟨w1, w2⟩ := wide_pos hn h0
    have HC := hide (cvR_pos hn h0)
    have HL : Hid (∀ (z : Nat) (W : World), cn .f64 z = logV (wide x) → cn .f32 (cvR .f64 .f32 z W) = logN x) := hide (fun z W hz => log_end hn h0 hz W)
    have HN : ∀ W, _ := fun W => s_l01LogWide (r := wide x) (w := W) w1 w2
    clear h h0 hx hn w1 w2
    generalize wide x = r at *
    replace HN := hide HN
    go_enter Try.func104, Try.ntmps104
    go_wp2_with (first | (go_at_call 137; rw [HC.out]; refine (HN.out _).mono ?_; rintro e w' ⟨z, rfl, hz, m2, rfl⟩) | (go_at_call 130; refine s_Narrow.mono ?_; rintro e w' ⟨rfl, m3, rfl⟩))
    go_ret
    exact ⟨_, rfl, hide (HL.out _ _ hz.out), _, rfl⟩
end Go.Proofs.Yteabfkgbakoljaa

/-
  The sine of a number of turns from 0 to a quarter: both sides' walks.
-/
namespace Go.Proofs.Yteabfkgbakoljaa
open Go.RowKit Mem Fl
set_option linter.unusedVariables false
set_option maxRecDepth 100000

theorem fr_half {x : Nat} (h : Fr 4598175219545276416 x) : (FloatKind.f64.format.order x 4602678819172646912 == some .gt || FloatKind.f64.format.order x 4602678819172646912 == some .eq) = false := by
  rcases h with h | h
  · rw [ge_pos (by rw [d64_inf]; omega) (by rw [d64_inf]; omega), decide_eq_false (by omega)]
  · subst h; decide +kernel
theorem fr_quart {x : Nat} (h : Fr 4598175219545276416 x) : (FloatKind.f64.format.order x 4598175219545276416 == some .gt) = false := by
  rcases h with h | h
  · rw [gt_pos (by rw [d64_inf]; omega) (by rw [d64_inf]; omega), decide_eq_false (by omega)]
  · subst h; decide +kernel
theorem fr_neg {x C : Nat} (h : Fr C x) (hC : C ≤ 4607182418800017408) : (FloatKind.f64.format.order x 0 == some .lt) = false := by
  rcases h with h | h
  · rw [lt_pos (by rw [d64_inf]; omega) (by rw [d64_inf]; omega), decide_eq_false (Nat.not_lt_zero _)]
  · subst h; decide +kernel
theorem fr_nan {x C : Nat} (h : Fr C x) (hC : C ≤ 4607182418800017408) : isNan .f64 x = false := by
  rcases h with h | h
  · exact num_nan (read_pos (by rw [d64_inf]; omega))
  · subst h; decide +kernel
theorem fr_big {x : Nat} (h : Fr 4598175219545276416 x) : (FloatKind.f64.format.order x 4841369599423283200 == some .gt || FloatKind.f64.format.order x 4841369599423283200 == some .eq) = false := by
  rcases h with h | h
  · rw [ge_pos (by rw [d64_inf]; omega) (by rw [d64_inf]; omega), decide_eq_false (by omega)]
  · subst h; decide +kernel
theorem pos_gt_neg {r : Nat} (h : r < 9218868437227405312) : FloatKind.f64.format.order r 14064741636278059008 = some .gt := by
  have rx := read_pos (k := .f64) (r := r) (by rw [d64_inf]; exact h)
  have ry : FloatKind.f64.format.read 14064741636278059008 = .number true 4503599627370496 0 := by decide +kernel
  unfold Ieee.Format.order
  rw [rx, ry]
  simp only [Ieee.Datum.order]
  rw [sgn_f, sgn_t, compare_int]
  have hp := Nat.mul_pos (show 0 < 4503599627370496 by omega) (Nat.two_pow_pos (0 - min (placeOf FloatKind.f64.format r) 0).toNat)
  rw [if_neg (by omega), if_neg (by omega)]
theorem fr_low {x : Nat} (h : Fr 4598175219545276416 x) : (FloatKind.f64.format.order x 14064741636278059008 == some .lt || FloatKind.f64.format.order x 14064741636278059008 == some .eq) = false := by
  rcases h with h | h
  · rw [pos_gt_neg (by omega)]; rfl
  · subst h; decide +kernel
theorem fr_fin {x : Nat} (h : Fr 4598175219545276416 x) : (FloatKind.f64.format.order (fb .sub .f64 x x) 0 != some .eq) = false := by
  have : fin .f64 x = true := by
    obtain ⟨s, r, hr, _⟩ := (fr_bd h).read
    exact (fin_iff .f64 x).2 ⟨_, _, _, hr⟩
  unfold fin at this
  rw [bne, this]; rfl
theorem frV_id {x : Nat} (h : Fr 4598175219545276416 x) : frV x = x := by
  have hT : frT x = 0 := by unfold frT; rw [fr_int h]; rfl
  have h0 : fr0 x = x := by unfold fr0; rw [hT]; exact fr_sub h (by decide)
  unfold frV
  rw [h0, fr_neg h (by decide), if_neg (by simp)]
theorem exact_word {k : FloatKind} {z x : Nat} (h : cn k z = x) (hx : isNan k x = false) : z = x := (eq_of_cn (k := k) (a := x) (by rw [cn_num hx, h]) hx).symm
theorem conv_int {x : Nat} {n : Int} (h : floatToIntVal .f64 x .i64 = some n) (W : World) : (convert 33 2 (.float .f64 x)).run Try.prog W = .ok (.int .i64 n) W :=
  run_convert_float_int (P := Try.prog) (w := W) 33 2 .f64 .i64 _ _ (by rw [Try.underlying33]; rfl) Try.underlying2 h
theorem i_fraction {y : Nat} {w : World} (hI : floatToIntVal .f64 y .i64 = some (frT y)) :
    Calls Try.prog 125 #[.float .f64 y] w fun e w' => ∃ z, e = .returned (.float .f64 z) ∧ Hid (cn .f64 z = frV y) ∧ ∃ m, w' = w.drewN m := by
  have hp : Hid (frV y = if (FloatKind.f64.format.order (fb .sub .f64 y (floatOfInt .f64 (frT y))) 0 == some .lt) = true then fb .add .f64 (fb .sub .f64 y (floatOfInt .f64 (frT y))) 4607182418800017408 else fb .sub .f64 y (floatOfInt .f64 (frT y))) := hide rfl
  have hcv := conv_int hI
  generalize frT y = n at *
  clear hI
  cases h1 : (FloatKind.f64.format.order (fb .sub .f64 y (floatOfInt .f64 n)) 0 == some .lt) with
  | true =>
    rw [h1, if_pos rfl] at hp
    go_enter Try.func125, Try.ntmps125
    go_wp2
    go_ret
    exact ⟨_, rfl, hide (by rw [hp.out, cn_flR, ← fb_cnl, cn_flR]), _, rfl⟩
  | false =>
    rw [h1, if_neg (by simp)] at hp
    go_enter Try.func125, Try.ntmps125
    go_wp2
    go_ret
    exact ⟨_, rfl, hide (by rw [hp.out, cn_flR]), _, rfl⟩
theorem k8_ge : ∀ j : Nat, j < 9 → (FloatKind.f64.format.order (floatOfInt .f64 (8 - ((j : Nat) : Int))) 4607182418800017408 == some .gt || FloatKind.f64.format.order (floatOfInt .f64 (8 - ((j : Nat) : Int))) 4607182418800017408 == some .eq) = decide (j < 8) := by decide +kernel
theorem k8_next : ∀ j : Nat, j < 8 → fb .sub .f64 (floatOfInt .f64 (8 - ((j : Nat) : Int))) 4607182418800017408 = floatOfInt .f64 (8 - ((j + 1 : Nat) : Int)) := by decide +kernel
theorem k8_dec : ∀ j : Nat, j < 8 → kM (floatOfInt .f64 (8 - ((j + 1 : Nat) : Int))) < kM (floatOfInt .f64 (8 - ((j : Nat) : Int))) := by decide +kernel
theorem k8_den : ∀ j : Nat, j < 8 → fb .mul .f64 (fb .mul .f64 4611686018427387904 (floatOfInt .f64 (8 - ((j : Nat) : Int)))) (fb .add .f64 (fb .mul .f64 4611686018427387904 (floatOfInt .f64 (8 - ((j : Nat) : Int)))) 4607182418800017408) = floatOfInt .f64 (2 * (8 - ((j : Nat) : Int)) * (2 * (8 - ((j : Nat) : Int)) + 1)) := by decide +kernel
theorem k8_rng : ∀ j : Nat, j < 8 → 0 ≤ 2 * (8 - ((j : Nat) : Int)) * (2 * (8 - ((j : Nat) : Int)) + 1) ∧ 2 * (8 - ((j : Nat) : Int)) * (2 * (8 - ((j : Nat) : Int)) + 1) ≤ 272 := by decide +kernel
theorem k8_zero : (4620693217682128896 : Nat) = floatOfInt .f64 (8 - ((0 : Nat) : Int)) := by decide +kernel
theorem one_cn : cn .f64 4607182418800017408 = 4607182418800017408 := by decide +kernel
/-- One round, with the divisor told. -/
theorem p_step {U u p D d : Nat} {j : Nat} (hu : cn .f64 u = U) (hp : cn .f64 p = sinP U j) (hd : cn .f64 d = D) (hD : D = floatOfInt .f64 (2 * (8 - (j : Int)) * (2 * (8 - (j : Int)) + 1))) (w1 w2 w3 : World) :
    cn .f64 (flR .sub .f64 4607182418800017408 (flR .quo .f64 (flR .mul .f64 u p w1) d w2) w3) = sinP U (j + 1) := by
  have h1 : fb .mul .f64 u p = fb .mul .f64 U (sinP U j) := by rw [← fb_cn .mul .f64 u p, hu, hp]
  rw [cn_flR, ← fb_cnr, cn_flR, ← fb_cn .quo, cn_flR, hd, h1, hD]
  rfl
theorem den_step (K : Nat) (w1 w2 w3 w4 : World) : cn .f64 (flR .mul .f64 (flR .mul .f64 4611686018427387904 K w1) (flR .add .f64 (flR .mul .f64 4611686018427387904 K w2) 4607182418800017408 w3) w4) = fb .mul .f64 (fb .mul .f64 4611686018427387904 K) (fb .add .f64 (fb .mul .f64 4611686018427387904 K) 4607182418800017408) := by
  rw [cn_flR, ← fb_cn, cn_flR, cn_flR, ← fb_cnl .add, cn_flR]
theorem z_step {x : Nat} (w : World) : cn .f64 (flR .mul .f64 x 4618760256179416344 w) = sinZ x := by rw [cn_flR]; rfl
theorem z_step2 {x : Nat} (h : ∀ W, flR .sub .f64 x (floatOfInt .f64 0) W = x) (w1 w2 : World) : cn .f64 (flR .mul .f64 (flR .sub .f64 x (floatOfInt .f64 0) w1) 4618760256179416344 w2) = sinZ x := by rw [h, cn_flR]; rfl
theorem sin_end {x z p : Nat} (hz : cn .f64 z = sinZ x) (hp : cn .f64 p = sinP (fb .mul .f64 (sinZ x) (sinZ x)) 8) (w : World) : cn .f64 (flR .mul .f64 z p w) = sinV x := by
  rw [cn_flR, ← fb_cn, hz, hp]; rfl
set_option maxHeartbeats 2000000 in
theorem i_sine {x : Nat} {w : World} (h : Fr 4598175219545276416 x) :
    Calls Try.prog 126 #[.float .f64 x] w fun e w' => ∃ z, e = .returned (.float .f64 z) ∧ Hid (cn .f64 z = sinV x) ∧ ∃ m, w' = w.drewN m := by
  have h1 := fr_half h
  have h2 := fr_quart h
  have HF : ∀ W, Calls Try.prog 125 #[.float .f64 x] W fun e w' => e = .returned (.float .f64 x) ∧ ∃ m, w' = W.drewN m := fun W => by
    refine (i_fraction (by rw [fr_int h]; unfold frT; rw [fr_int h]; rfl)).mono ?_
    rintro e w' ⟨z, rfl, hz, hw⟩
    have : z = x := exact_word (by rw [hz.out, frV_id h]) (fr_nan h (by decide))
    subst this
    exact ⟨rfl, hw⟩
  replace HF := hide HF
  clear h
  go_enter Try.func126, Try.ntmps126
  go_wp2_with (go_at_call 125; refine (HF.out _).mono ?_; rintro e w' ⟨rfl, m1, rfl⟩)
  go_loopw [7, 8] (fun p kv wr => ∃ (j pz m : Nat), j ≤ 8 ∧ kv = .float .f64 (floatOfInt .f64 (8 - ((j : Nat) : Int))) ∧ p = .float .f64 pz ∧ Hid (cn .f64 pz = sinP (fb .mul .f64 (sinZ x) (sinZ x)) j) ∧ wr = w.drewN m) (fun _ kv _ => kM (bitsOf kv))
  case atStart => exact ⟨0, _, _, by omega, congrArg _ k8_zero, rfl, hide one_cn, rfl⟩
  case round =>
    obtain ⟨j, pz, m, hj, rfl, rfl, hq, rfl⟩ := hrel
    have hg := k8_ge j (by omega)
    by_cases hj8 : j < 8
    · rw [decide_eq_true hj8] at hg
      have HK : Hid (∀ W, flR .sub .f64 (floatOfInt .f64 (8 - ((j : Nat) : Int))) 4607182418800017408 W = floatOfInt .f64 (8 - ((j + 1 : Nat) : Int))) := hide (fun W => flR_bd (k8_next j hj8) (int_nan _) W)
      have HM := hide (k8_dec j hj8)
      have HD := hide (k8_den j hj8)
      go_wp2
      go_roundw
      case rel => exact ⟨j + 1, _, _, by omega, by rw [HK.out], rfl, hide (p_step (u_step (z_step _) _) hq.out (den_step _ _ _ _ _) HD.out _ _ _), rfl⟩
      case measure =>
        rw [HK.out]
        exact HM.out
    · rw [decide_eq_false hj8] at hg
      obtain rfl : j = 8 := by omega
      go_wp2
      go_ret
      exact ⟨_, rfl, hide (sin_end (z_step _) hq.out _), _, rfl⟩
set_option maxHeartbeats 2000000 in
theorem s_l01SineWide {x : Nat} {w : World} (h : Fr 4598175219545276416 x) :
    Calls Try.prog 157 #[.float .f64 x] w fun e w' => ∃ z, e = .returned (.float .f64 z) ∧ Hid (cn .f64 z = sinV x) ∧ ∃ m, w' = w.drewN m := by
  have h0 := fr_fin h
  have h3 := fr_big h
  have h4 := fr_low h
  have hI := conv_int (fr_int h)
  have hx : fb .sub .f64 x (floatOfInt .f64 0) = x := fr_sub h (by decide)
  have h1 := fr_half h
  have h2 := fr_quart h
  have h5 := fr_neg h (by decide)
  have HX : Hid (∀ W, flR .sub .f64 x (floatOfInt .f64 0) W = x) := hide (fun W => flR_bd hx (fr_nan h (by decide)) W)
  have h1' := h1
  have h2' := h2
  have h5' := h5
  rw [← hx] at h1' h2' h5'
  clear h hx
  go_enter Try.func157, Try.ntmps157
  go_wp2
  go_loopw [7, 8] (fun p kv wr => ∃ (j pz m : Nat), j ≤ 8 ∧ kv = .int .i64 (8 - ((j : Nat) : Int)) ∧ p = .float .f64 pz ∧ Hid (cn .f64 pz = sinP (fb .mul .f64 (sinZ x) (sinZ x)) j) ∧ wr = w.drewN m) (fun _ kv _ => (intOf kv).toNat)
  case atStart => exact ⟨0, _, _, by omega, rfl, rfl, hide one_cn, rfl⟩
  case round =>
    obtain ⟨j, pz, m, hj, rfl, rfl, hq, rfl⟩ := hrel
    by_cases hj8 : j < 8
    · have i1 : (1 : Int) ≤ 8 - (j : Int) := by omega
      have i2 : 8 - (j : Int) ≤ 8 := by omega
      obtain ⟨v, hv⟩ : ∃ v : Int, 2 * (8 - (j : Int)) * (2 * (8 - (j : Int)) + 1) = v := ⟨_, rfl⟩
      obtain ⟨v1, v2⟩ := k8_rng j hj8
      rw [hv] at v1 v2
      have HV := hide hv.symm
      go_wp2
      go_roundw
      case rel =>
        have HD : cn .f64 (floatOfInt .f64 v) = floatOfInt .f64 v := cn_num (int_nan v)
        have HE : floatOfInt .f64 v = floatOfInt .f64 (2 * (8 - (j : Int)) * (2 * (8 - (j : Int)) + 1)) := congrArg _ HV.out
        exact ⟨j + 1, _, _, by omega, by (congr 1; omega), rfl, hide (p_step (u_step (z_step2 HX.out _ _) _) hq.out HD HE _ _ _), rfl⟩
      case measure => (simp [intOf]; try omega)
    · obtain rfl : j = 8 := by omega
      go_wp2
      go_ret
      exact ⟨_, rfl, hide (sin_end (z_step2 HX.out _ _) hq.out _), _, rfl⟩
end Go.Proofs.Yteabfkgbakoljaa

/-
  Contracts on lists of numbers that are told, and on numbers that are greater than 0.
-/
namespace Go.Proofs.Yteabfkgbakoljaa
open Go.RowKit Fl Mem
set_option linter.unusedVariables false
set_option maxRecDepth 100000

/-- Is a number finite and greater than 0. -/
def pos (x : Nat) : Bool := fin .f32 x && (FloatKind.f32.format.order x 0 == some .gt)
theorem pos_cn (x : Nat) : pos (cn .f32 x) = pos x := by unfold pos; rw [fin_cn, order_cnl]
theorem areMore_1 (x : Nat) (w : World) : Calls Try.prog 116 #[.float .f32 x] w fun e w' => e = .returned (.bool (!pos x)) ∧ ∃ n, w' = w.drewN n := by
  have hp : Hid (pos x = (fin .f32 x && (FloatKind.f32.format.order x 0 == some .gt))) := hide rfl
  cases hf : fin .f32 x
  all_goals
    go_enter Try.func116, Try.ntmps116
    go_wp2_with (go_at_call 64; refine (i_IsFinite _ _).mono ?_; rintro e w' ⟨rfl, m', rfl⟩)
    go_ret
    exact ⟨ret_bool (by rw [hp.out, hf]; simp), _, rfl⟩

set_option maxHeartbeats 400000 in
theorem indexFunc_areMore (A : Option Addr) (n c : Nat) (xs : List Nat) (B : Nat) (w : World) (h : Reads w B 1 A n (fl .f32 xs)) (hn : n ≤ maxLen) :
    Calls Try.prog 142 #[.slice A n c, .func (.func 116) #[] #[]] w fun e w' => e = .returned (.int .i64 (ixf (fun x => !pos x) xs)) ∧ ∃ n, w' = w.drewN n := by
  unfold maxLen at hn
  have Hlen := hide h.map_len
  go_enter Try.func142, Try.ntmps142
  go_wp2
  go_loopw [5, 8] (fun _ i wr => ∃ k m : Nat, k ≤ n ∧ i = .int .i64 k ∧ wr = w.drewN m ∧ Hid ((xs.take k).all (fun y => !!pos y) = true)) (fun _ i _ => n - (intOf i).toNat)
  case atStart => exact ⟨0, 0, Nat.zero_le _, rfl, rfl, rfl⟩
  case round =>
    obtain ⟨k, m, hk, rfl, rfl, ha⟩ := hrel
    by_cases hlt : k < n
    · obtain ⟨ad, x, rfl, _, hx, hc⟩ := h.map_at hlt
      have Hx := hide hx
      clear hx
      go_wp2_with (go_at_call 116; refine (areMore_1 _ _).mono ?_; rintro e w' ⟨rfl, m', rfl⟩)
      · rename_i h0
        go_ret
        exact ⟨ret_int (ixf_at Hx.out ha.out h0).symm, _, rfl⟩
      · rename_i h0
        go_roundw
        case rel => exact ⟨k + 1, _, by omega, by go_num, rfl, hide (by rw [take_eq Hx.out, List.all_append, ha.out]; simp at h0; simp [h0])⟩
        case measure => simp [intOf]; omega
    · go_wp2
      go_ret
      refine ⟨ret_int (ixf_none ?_).symm, _, rfl⟩
      rw [← ha.out, List.take_of_length_le (by rw [Hlen.out]; omega)]
theorem containsFunc_areMore (A : Option Addr) (n c : Nat) (xs : List Nat) (B : Nat) (w : World) (h : Reads w B 1 A n (fl .f32 xs)) (hn : n ≤ maxLen) :
    Calls Try.prog 109 #[.slice A n c, .func (.func 116) #[] #[]] w fun e w' => e = .returned (.bool (xs.any (fun x => !pos x))) ∧ ∃ n, w' = w.drewN n := by
  go_enter Try.func109, Try.ntmps109
  go_wp2_with (go_at_call 142; refine (indexFunc_areMore _ _ _ xs _ _ h hn).mono ?_; rintro e w' ⟨rfl, m', rfl⟩)
  go_ret
  refine ⟨ret_bool ?_, _, rfl⟩
  rw [← ixf_ge]
theorem i_areMore (A : Option Addr) (n c : Nat) (xs : List Nat) (B : Nat) (w : World) (h : Reads w B 1 A n (fl .f32 xs)) (hn : n ≤ maxLen) :
    Calls Try.prog 74 #[.slice A n c] w fun e w' => e = .returned (.bool (xs.all pos)) ∧ ∃ n, w' = w.drewN n := by
  go_enter Try.func74, Try.ntmps74
  go_wp2_with (go_at_call 109; refine (containsFunc_areMore _ _ _ xs _ _ h hn).mono ?_; rintro e w' ⟨rfl, m', rfl⟩)
  go_ret
  refine ⟨ret_bool ?_, _, rfl⟩
  rw [List.all_eq_not_any_not]
theorem s_l02Above (x : Nat) (w : World) : Calls Try.prog 83 #[.float .f32 x] w fun e w' => e = .returned (.bool (pos x)) ∧ ∃ n, w' = w.drewN n := by
  have hp : Hid (pos x = (fin .f32 x && (FloatKind.f32.format.order x 0 == some .gt))) := hide rfl
  cases hf : fin .f32 x
  all_goals
    go_enter Try.func83, Try.ntmps83
    go_wp2_with (go_at_call 120; refine (s_l01Finite _ _).mono ?_; rintro e w' ⟨rfl, m', rfl⟩)
    go_ret
    exact ⟨ret_bool (by rw [hp.out, hf]; simp), _, rfl⟩

/-- Is a list one of numbers that are told. -/
def isToldL (xs : List Nat) : Bool := decide (1 ≤ xs.length) && decide (xs.length ≤ 256) && xs.all (fin .f32)
theorem told_len {xs : List Nat} (h : isToldL xs = true) : 1 ≤ xs.length ∧ xs.length ≤ 256 := by
  unfold isToldL at h
  simp at h
  exact h.1
theorem i_isTold (A : Option Addr) (n c : Nat) (xs : List Nat) (B : Nat) (w : World) (h : Reads w B 1 A n (fl .f32 xs)) (hn : n ≤ maxLen) :
    Calls Try.prog 63 #[.slice A n c] w fun e w' => e = .returned (.bool (isToldL xs)) ∧ ∃ n, w' = w.drewN n := by
  have hl := h.map_len
  have Hs : Hid (isToldL xs = (decide (1 ≤ n) && decide (n ≤ 256) && xs.all (fin .f32))) := by unfold isToldL; rw [hl]; rfl
  clear hl
  by_cases h1 : 1 ≤ n
  · by_cases h2 : n ≤ 256
    · have g1 : (1 : Int) ≤ (n : Int) := by omega
      have g2 : (n : Int) ≤ 256 := by omega
      go_enter Try.func63, Try.ntmps63
      go_wp2_with (go_at_call 69; refine (i_areFinite _ _ _ xs _ _ h hn).mono ?_; rintro e w' ⟨rfl, m', rfl⟩)
      go_ret
      exact ⟨ret_bool (by rw [Hs.out]; simp [h1, h2]), _, rfl⟩
    · have g1 : (1 : Int) ≤ (n : Int) := by omega
      have g2 : (256 : Int) < (n : Int) := by omega
      go_enter Try.func63, Try.ntmps63
      go_wp2
      go_ret
      exact ⟨ret_bool (by rw [Hs.out]; simp [h2]), 0, rfl⟩
  · have g1 : (n : Int) < 1 := by omega
    go_enter Try.func63, Try.ntmps63
    go_wp2
    go_ret
    exact ⟨ret_bool (by rw [Hs.out]; simp [h1]), 0, rfl⟩
theorem fl_eq {op : BinOp} {k : FloatKind} {x y a b : Nat} {w : World} (hx : cn k x = a) (hy : cn k y = b) : cn k (flR op k x y w) = fb op k a b := by rw [cn_flR, ← fb_cn, hx, hy]
theorem fl_eqr {op : BinOp} {k : FloatKind} {x y b : Nat} {w : World} (hy : cn k y = b) : cn k (flR op k x y w) = fb op k x b := by rw [cn_flR, ← fb_cnr, hy]
theorem fl_eql {op : BinOp} {k : FloatKind} {x y a : Nat} {w : World} (hx : cn k x = a) : cn k (flR op k x y w) = fb op k a y := by rw [cn_flR, ← fb_cnl, hx]

/-- The same of two numbers, or of one, that have just been laid. -/
theorem i_areFinite2 (w : World) (e : TypeId) (a b g : Nat) (hg : g = w.heap.size) {RA RB : Nat} (hA : cn .f32 a = RA) (hB : cn .f32 b = RB) :
    Calls Try.prog 69 #[.slice (some ⟨g, 0, none⟩) 2 2] (w.alloc (.cells #[.float .f32 a, .float .f32 b] e)) fun r w' => r = .returned (.bool (fin .f32 RA && fin .f32 RB)) ∧ Hid (cn .f32 a = RA) ∧ Hid (cn .f32 b = RB) ∧ ∃ n, w' = (w.alloc (.cells #[.float .f32 a, .float .f32 b] e)).drewN n := by
  subst hg
  refine (i_areFinite _ _ _ [a, b] _ _ (reads_new (Value.float .f32) w e [a, b]) (by simp [maxLen])).mono ?_
  rintro r w' ⟨rfl, h⟩
  exact ⟨by simp [← hA, ← hB, fin_cn], hA, hB, h⟩
theorem i_areMore1 (w : World) (e : TypeId) (a g : Nat) (hg : g = w.heap.size) :
    Calls Try.prog 74 #[.slice (some ⟨g, 0, none⟩) 1 1] (w.alloc (.cells #[.float .f32 a] e)) fun r w' => r = .returned (.bool (pos a)) ∧ ∃ n, w' = (w.alloc (.cells #[.float .f32 a] e)).drewN n := by
  subst hg
  refine (i_areMore _ _ _ [a] _ _ (reads_new (Value.float .f32) w e [a]) (by simp [maxLen])).mono ?_
  rintro r w' ⟨rfl, h⟩
  exact ⟨by simp, h⟩
end Go.Proofs.Yteabfkgbakoljaa

/-
  Contracts of 'the same number', for one and for lists: the program's and the reference's.
-/
namespace Go.Proofs.Yteabfkgbakoljaa
open Go.RowKit Fl Mem
set_option linter.unusedVariables false
set_option maxRecDepth 100000

/-- Are two words the same number. -/
def sameN (a b : Nat) : Bool := decide (cn .f32 a = cn .f32 b)
def sgn (a : Nat) : Bool := a / 2147483648 % 2 == 1
/-- 'float64(x)' of what is no not-a-number. -/
def wideS (a : Nat) : Nat := (cvBits .f32 .f64 a).getD 0
theorem f64_sw : FloatKind.f64.format.signWeight = 9223372036854775808 := by decide +kernel
theorem wideS_ok {a : Nat} (h : isNan .f32 a = false) : (∀ W, cvR .f32 .f64 a W = wideS a) ∧ cvN .f32 .f64 a = 0 ∧ decide (9223372036854775808 ≤ wideS a) = sgn a ∧ wideS a < 18446744073709551616 := by
  have hw : ∀ s r, r < 9223372036854775808 → decide (9223372036854775808 ≤ FloatKind.f64.format.word s r) = s ∧ FloatKind.f64.format.word s r < 18446744073709551616 := by
    intro s r hr
    unfold Ieee.Format.word
    rw [f64_sw]
    cases s
    · rw [if_neg (by simp)]; exact ⟨decide_eq_false (by omega), by omega⟩
    · rw [if_pos rfl]; exact ⟨decide_eq_true (by omega), by omega⟩
  have hsw : FloatKind.f32.format.signWeight = 2147483648 := by decide +kernel
  cases hd : FloatKind.f32.decode a with
  | nan s t =>
    exfalso
    have : FloatKind.f32.format.read a = .nan s t := hd
    unfold isNan at h
    rw [this] at h; cases h
  | infinity s =>
    have hc : cvBits .f32 .f64 a = some (FloatKind.f64.encode (.infinity s)) := by simp [cvBits, hd]
    have hs := (read_inf (k := .f32) (x := a) hd).1
    rw [hsw] at hs
    have h1 := hw s FloatKind.f64.format.infRung (by decide +kernel)
    refine ⟨fun W => by unfold cvR wideS; rw [hc]; rfl, by unfold cvN; rw [hc]; rfl, ?_, ?_⟩
    · unfold wideS sgn; rw [hc, ← hs]; exact h1.1
    · unfold wideS; rw [hc]; exact h1.2
  | number s m e =>
    have hc := cvBits_num hd
    have hs := (read_of_rung (k := .f32) (x := a) hd).1
    rw [hsw] at hs
    obtain ⟨b1, b2, b3⟩ := read32 hd
    obtain ⟨r, hr, hlt⟩ := nearest64_lt s m e b1 b2 b3
    have hi : FloatKind.f64.format.infRung = 9218868437227405312 := by decide +kernel
    rw [hi] at hlt
    have h1 := hw s r (by omega)
    have he : FloatKind.f64.encode (.number s m e) = FloatKind.f64.format.word s r := hr
    refine ⟨fun W => by unfold cvR wideS; rw [hc]; rfl, by unfold cvN; rw [hc]; rfl, ?_, ?_⟩
    · unfold wideS sgn; rw [hc, ← hs, Option.getD_some, he]; exact h1.1
    · unfold wideS; rw [hc, Option.getD_some, he]; exact h1.2

theorem nan_iff (a : Nat) : (FloatKind.f32.format.order a a != some Ordering.eq) = isNan .f32 a := by
  rw [order_self]
  cases isNan .f32 a <;> rfl
theorem sameN_nan {a b : Nat} (ha : isNan .f32 a = true) : sameN a b = isNan .f32 b := by
  unfold sameN
  rw [cn_nan ha]
  cases hb : isNan .f32 b
  · rw [cn_num hb]
    refine decide_eq_false (fun he => ?_)
    rw [← he, isNan_nanOf] at hb
    cases hb
  · rw [cn_nan hb]; exact decide_eq_true rfl
theorem sameN_nan' {a b : Nat} (ha : isNan .f32 a = false) (hb : isNan .f32 b = true) : sameN a b = false := by
  unfold sameN
  rw [cn_num ha, cn_nan hb]
  refine decide_eq_false (fun he => ?_)
  rw [he, isNan_nanOf] at ha
  cases ha
theorem sameN_num {a b : Nat} (wa : Wf .f32 a) (wb : Wf .f32 b) (ha : isNan .f32 a = false) (hb : isNan .f32 b = false) :
    sameN a b = ((FloatKind.f32.format.order a b == some Ordering.eq) && (sgn a == sgn b)) := by
  unfold sameN
  rw [cn_num ha, cn_num hb, Bool.eq_iff_iff, decide_eq_true_iff, Bool.and_eq_true]
  constructor
  · rintro rfl
    rw [order_self, ha]
    simp
  · rintro ⟨h1, h2⟩
    rcases order_eq wa wb (by simpa using h1) with h | ⟨s, i, t, j, ra, rb⟩
    · exact h
    · obtain ⟨a1, _, a3, _⟩ := read_of_rung ra
      obtain ⟨b1, _, b3, _⟩ := read_of_rung rb
      have za := mag_zero a3.symm
      have zb := mag_zero b3.symm
      rw [wf_word wa, wf_word wb, za, zb]
      have hsw : FloatKind.f32.format.signWeight = 2147483648 := by decide +kernel
      unfold sgn at h2
      rw [← hsw, beq_iff_eq] at h2
      rw [h2]

section
variable {P : Program} {f : FuncId} {fn : Func}
theorem run_call_bits64 (hf : P.funcs[f]? = some fn) (hname : (fn.name == "runtime.NumGoroutine") = false) (hb : fn.body.isNone = true) (hn : Extern.findNext fn = none) (he : Extern.find fn = some Extern.MathFloatBits.float64bits) (y : Nat) (w : World) :
    (callFunc f #[.float .f64 y]).run P w = .ok (.value (.int .u64 (y : Int))) w := by
  rw [run_callFunc_extern hf hname hb hn he]
  rfl
theorem run_call_bits32 (hf : P.funcs[f]? = some fn) (hname : (fn.name == "runtime.NumGoroutine") = false) (hb : fn.body.isNone = true) (hn : Extern.findNext fn = none) (he : Extern.find fn = some Extern.MathFloatBits.float32bits) (y : Nat) (w : World) :
    (callFunc f #[.float .f32 y]).run P w = .ok (.value (.int .u32 (y : Int))) w := by
  rw [run_callFunc_extern hf hname hb hn he]
  rfl
end

theorem s_l01Bits {a : Nat} {w : World} (wa : Wf .f32 a) : Calls Try.prog 141 #[.float .f32 a] w fun e w' => e = .returned (.int .i64 (cn .f32 a : Int)) ∧ w = w' := by
  have hlt : a < 4294967296 := by
    unfold Wf at wa
    have hw : 2 ^ FloatKind.f32.format.width = 4294967296 := by decide +kernel
    rw [hw] at wa; exact wa
  have hs := fun (y : Nat) (w : World) => run_call_bits32 (P := Try.prog) (f := 158) Try.func158 (by kernel_rfl) (by kernel_rfl) (by kernel_rfl) (by rfl) y w
  have hnn := nan_iff a
  cases ha : isNan .f32 a with
  | true =>
    rw [ha] at hnn
    have Ha := hide ha
    clear ha
    go_enter Try.func141, Try.ntmps141
    go_wp2
    go_ret
    exact ⟨ret_int (by rw [cn_nan Ha.out]; rfl), rfl⟩
  | false =>
    rw [ha] at hnn
    have Ha := hide ha
    clear ha
    go_enter Try.func141, Try.ntmps141
    go_wp2
    go_ret
    exact ⟨ret_int (by rw [cn_num Ha.out]), rfl⟩
theorem s_l01Same {a b : Nat} {w : World} (wa : Wf .f32 a) (wb : Wf .f32 b) : Calls Try.prog 107 #[.float .f32 a, .float .f32 b] w fun e w' => e = .returned (.bool (sameN a b)) ∧ w = w' := by
  have Hs : Hid (sameN a b = ((cn .f32 a : Int) == (cn .f32 b : Int))) := hide (by
    unfold sameN
    rw [Bool.eq_iff_iff, decide_eq_true_iff, beq_iff_eq]
    omega)
  go_enter Try.func107, Try.ntmps107
  go_wp2_with (first | (have _t := HA2; go_at_call 141; refine (s_l01Bits wb).mono ?_; rintro e w' ⟨rfl, rfl⟩) | (go_at_call 141; refine (s_l01Bits wa).mono ?_; rintro e w' ⟨rfl, rfl⟩; have HA2 : True := trivial))
  go_ret
  exact ⟨ret_bool (by rw [Hs.out]), rfl⟩

end Go.Proofs.Yteabfkgbakoljaa

/-
  The point of the unit circle at some turns: the program's walk.
-/
namespace Go.Proofs.Yteabfkgbakoljaa
open Go.RowKit Mem Fl
set_option linter.unusedVariables false
set_option maxRecDepth 100000

theorem abs_bits {y : Nat} (hy : y < 18446744073709551616) : bits .andNot .u64 (y : Int) 9223372036854775808 = ((y % 9223372036854775808 : Nat) : Int) := by
  have e1 : (BitVec.ofInt 64 (y : Int)).toNat = y := by
    rw [BitVec.toNat_ofInt]; omega
  have e2 : (~~~(BitVec.ofInt 64 9223372036854775808)).toNat = 2 ^ 63 - 1 := by decide +kernel
  have e3 : ((BitVec.ofInt 64 (y : Int)) &&& ~~~(BitVec.ofInt 64 9223372036854775808)).toNat = y % 9223372036854775808 := by
    rw [BitVec.toNat_and, e1, e2, Nat.and_two_pow_sub_one_eq_mod]
  unfold bits
  show IntKind.u64.wrap (((BitVec.ofInt 64 (y : Int)) &&& ~~~(BitVec.ofInt 64 9223372036854775808)).toNat : Int) = _
  rw [e3]
  have := Nat.mod_lt y (show 0 < 9223372036854775808 by omega)
  show ((y % 9223372036854775808 : Nat) : Int) % 18446744073709551616 = _
  omega
section
variable {P : Program} {f : FuncId} {fn : Func}
theorem run_call_frombits64 (hf : P.funcs[f]? = some fn) (hname : (fn.name == "runtime.NumGoroutine") = false) (hb : fn.body.isNone = true) (hn : Extern.findNext fn = none) (he : Extern.find fn = some Extern.MathFloatBits.float64frombits) (y : Nat) (w : World) :
    (callFunc f #[.int .u64 (y : Int)]).run P w = .ok (.value (.float .f64 y)) w := by
  rw [run_callFunc_extern hf hname hb hn he]
  rfl
end
theorem abs_calls {y : Nat} {w : World} (hy : y < 18446744073709551616) : Calls Try.prog 124 #[.float .f64 y] w fun e w' => e = .returned (.float .f64 (y % 9223372036854775808)) ∧ w = w' := by
  have hs := fun (y : Nat) (w : World) => run_call_bits64 (P := Try.prog) (f := 150) Try.func150 (by kernel_rfl) (by kernel_rfl) (by kernel_rfl) (by rfl) y w
  have hs2 := fun (y : Nat) (w : World) => run_call_frombits64 (P := Try.prog) (f := 143) Try.func143 (by kernel_rfl) (by kernel_rfl) (by kernel_rfl) (by rfl) y w
  have hb := abs_bits hy
  have hs3 := fun w => hs2 (y % 9223372036854775808) w
  generalize y % 9223372036854775808 = r at *
  go_enter Try.func124, Try.ntmps124
  go_wp2
  go_ret
  exact ⟨rfl, rfl⟩
theorem i_isFinite64 (x : Nat) (w : World) : Calls Try.prog 123 #[.float .f64 x] w fun e w' => e = .returned (.bool (fin .f64 x)) ∧ ∃ n, w' = w.drewN n := by
  go_enter Try.func123, Try.ntmps123
  go_wp2
  go_ret
  exact ⟨rfl, _, rfl⟩
theorem nar_t {z S : Nat} (h : cn .f64 z = S) (hS : narOk S) (w : World) : cn .f32 (cvR .f64 .f32 z w) = nar S := by
  rw [cn_cvR64 (narOk_cn.1 (by rw [h]; exact hS)), ← nar_cn, h]
theorem neg_t {z S : Nat} (h : cn .f64 z = S) (w : World) : cn .f64 (flR .sub .f64 0 z w) = fb .sub .f64 0 S := by rw [cn_flR, ← fb_cnr, h]
theorem two52_vv : ∃ d : Nat, vv .f64 4841369599423283200 = 2 ^ d ∧ d = 52 + 1074 := ⟨1126, by decide +kernel, rfl⟩
/-- A number below 2 to the 52 in size. -/
theorem small_facts {s : Bool} {r : Nat} (h : r < 4841369599423283200) : floatToIntVal .f64 (FloatKind.f64.format.word s r) .i64 = some (frT (FloatKind.f64.format.word s r)) ∧ Fr 4607182418800017408 (frV (FloatKind.f64.format.word s r)) ∧ fin .f64 (FloatKind.f64.format.word s r) = true := by
  have hi : r < FloatKind.f64.format.infRung := by rw [d64_inf]; omega
  have rx := read_word (k := .f64) (s := s) hi
  have pr := place_ge FloatKind.f64.format r
  rw [d64_least] at pr
  obtain ⟨d, hd1, hd2⟩ := two52_vv
  have hv := vv_lt (k := .f64) h
  have hf : floorv (magOf FloatKind.f64.format r) (placeOf FloatKind.f64.format r) < 2 ^ 52 := by
    obtain ⟨c, hc⟩ : ∃ c : Nat, c = 1074 := ⟨_, rfl⟩
    refine floor_lt (c := c) (by omega) ?_
    have h2 : vv .f64 r = magOf FloatKind.f64.format r * 2 ^ (placeOf FloatKind.f64.format r + c).toNat := by
      unfold vv; rw [d64_least, hc]; congr 2
    rw [← h2, hc, ← hd2, ← hd1]
    exact hv
  obtain ⟨h1, h2⟩ := fr0_bd rx pr (Nat.lt_of_lt_of_le hf (Nat.pow_le_pow_right (by omega) (by omega)))
  exact ⟨h1, frV_fr h2, (fin_iff .f64 _).2 ⟨_, _, _, rx⟩⟩
theorem word_mod {s : Bool} {r : Nat} (h : r < 9218868437227405312) : FloatKind.f64.format.word s r % 9223372036854775808 = r ∧ FloatKind.f64.format.word s r < 18446744073709551616 := by
  have hsw : FloatKind.f64.format.signWeight = 9223372036854775808 := by decide +kernel
  unfold Ieee.Format.word
  rw [hsw]
  cases s
  · rw [if_neg (by simp)]; omega
  · rw [if_pos rfl]; omega
theorem phI_nan {y j : Nat} (h : Fr 4607182418800017408 (frV y)) (hj : j ≤ 4) (hg : ∀ i, i < j → gq (phI y i) = true) : isNan .f64 (phI y j) = false := fr_nan (phI_cap h j hj hg) (cap_le j)
set_option maxHeartbeats 4000000 in
theorem i_PhasorOf {s : Bool} {r y : Nat} {w : World} (hy : y = FloatKind.f64.format.word s r) (h : r < 4841369599423283200) :
    Calls Try.prog 85 #[.float .f64 y] w fun e w' => ∃ a b, e = .returned (.complex .f32 a b) ∧ Hid (cn .f32 a = phRe y) ∧ Hid (cn .f32 b = phIm y) ∧ ∃ m, w' = w.drewN m := by
  obtain ⟨hI, hfr, hfin⟩ := small_facts (s := s) h
  obtain ⟨hm1, hm2⟩ := word_mod (s := s) (r := r) (by omega)
  have hg := ge_pos (k := .f64) (c := r) (q := 4841369599423283200) (by rw [d64_inf]; omega) (by rw [d64_inf]; omega)
  rw [decide_eq_false (by omega)] at hg
  rw [← hy] at hI hfr hfin hm1 hm2
  have HA : ∀ W, Calls Try.prog 124 #[.float .f64 y] W fun e w' => e = .returned (.float .f64 r) ∧ W = w' := fun W => by
    have := abs_calls (w := W) hm2
    rwa [hm1] at this
  have HFr : ∀ W, Calls Try.prog 125 #[.float .f64 y] W fun e w' => e = .returned (.float .f64 (phI y 0)) ∧ ∃ m, w' = W.drewN m := fun W => by
    refine (i_fraction hI).mono ?_
    rintro e w' ⟨z, rfl, hz, hw⟩
    have : z = phI y 0 := exact_word hz.out (fr_nan hfr (by decide))
    subst this
    exact ⟨rfl, hw⟩
  replace HA := hide HA
  replace HFr := hide HFr
  replace hfr := hide hfr
  clear hI hm1 hm2 hy h
  go_enter Try.func85, Try.ntmps85
  go_wp2_with (first
    | (go_at_call 123; refine (i_isFinite64 _ _).mono ?_; rintro e w' ⟨rfl, m1, rfl⟩; rw [hfin])
    | (go_at_call 124; refine (HA.out _).mono ?_; rintro e w' ⟨rfl, rfl⟩)
    | (go_at_call 125; refine (HFr.out _).mono ?_; rintro e w' ⟨rfl, m2, rfl⟩))
  clear hg hfin
  go_loopw [4, 5] (fun f q wr => ∃ j m : Nat, j ≤ 4 ∧ f = .float .f64 (phI y j) ∧ q = .int .i64 (j : Int) ∧ Hid (∀ i, i < j → gq (phI y i) = true) ∧ wr = w.drewN m) (fun _ q _ => 5 - (intOf q).toNat)
  case atStart => exact ⟨0, _, by omega, rfl, rfl, hide (fun i hi => absurd hi (Nat.not_lt_zero _)), rfl⟩
  case round =>
    obtain ⟨j, m, hj, rfl, rfl, hall, rfl⟩ := hrel
    have hjI : (j : Int) ≤ 4 := by omega
    cases hgj : gq (phI y j) with
    | true =>
      have hj4 : j < 4 := by
        rcases Nat.lt_or_ge j 4 with h | h
        · exact h
        · obtain rfl : j = 4 := by omega
          rw [gq_end hfr.out hall.out] at hgj
          cases hgj
      have hA2 : Hid (∀ i, i < j + 1 → gq (phI y i) = true) := hide (fun i hi => by
        rcases Nat.lt_or_ge i j with h | h
        · exact hall.out i h
        · obtain rfl : i = j := by omega
          exact hgj)
      have HN : Hid (∀ W, flR .sub .f64 (phI y j) 4598175219545276416 W = phI y (j + 1)) := hide (fun W => flR_bd rfl (phI_nan hfr.out (by omega) hA2.out) W)
      unfold gq at hgj
      go_wp2
      go_roundw
      case rel => exact ⟨j + 1, _, by omega, by rw [HN.out], by go_num, hA2, rfl⟩
      case measure => (simp [intOf]; try omega)
    | false =>
      have hQ := phQ_of hj hall.out hgj
      obtain ⟨fF, fC⟩ := left_fr (phI_cap hfr.out j hj hall.out) (cap_le j) hgj
      have frF := hide fF
      have frC := hide fC
      have HC : Hid (∀ W, flR .sub .f64 4598175219545276416 (phI y j) W = fb .sub .f64 4598175219545276416 (phI y j)) := hide (fun W => flR_bd rfl (fr_nan fC (by decide)) W)
      have hF : Hid (sinV (phI y j) = phS y ∧ sinV (fb .sub .f64 4598175219545276416 (phI y j)) = phC y) := hide (by unfold phS phC phF; rw [hQ]; exact ⟨rfl, rfl⟩)
      have bS := hide (bd_sin fF)
      have bC := hide (bd_sin fC)
      rw [hF.out.1] at bS
      rw [hF.out.2] at bC
      have hR : Hid (phRe y = (if j = 1 then nar (fb .sub .f64 0 (phS y)) else if j = 2 then nar (fb .sub .f64 0 (phC y)) else if j = 3 then nar (phS y) else nar (phC y)) ∧ phIm y = (if j = 1 then nar (phC y) else if j = 2 then nar (fb .sub .f64 0 (phS y)) else if j = 3 then nar (fb .sub .f64 0 (phC y)) else nar (phS y))) := hide (by unfold phRe phIm; rw [hQ]; exact ⟨rfl, rfl⟩)
      have hgk := hgj
      unfold gq at hgk
      clear hgj fF fC hQ hall
      have h5 : j = 0 ∨ j = 1 ∨ j = 2 ∨ j = 3 ∨ j = 4 := by omega
      rcases h5 with rfl | rfl | rfl | rfl | rfl
      · have hA := hR.out.1
        have hB := hR.out.2
        rw [if_neg (by decide), if_neg (by decide), if_neg (by decide)] at hA hB
        replace hA := hide hA
        replace hB := hide hB
        clear hR
        go_wp2_with (first
          | (go_at_call 126; rw [HC.out]; refine (i_sine frC.out).mono ?_; rintro e w5 ⟨c, rfl, hc, m5, rfl⟩)
          | (go_at_call 126; refine (i_sine frF.out).mono ?_; rintro e w6 ⟨sv, rfl, hs, m6, rfl⟩))
        go_ret
        exact ⟨_, _, rfl, hide ((nar_t (hc.out.trans hF.out.2) (nar_sin bC.out) _).trans hA.out.symm), hide ((nar_t (hs.out.trans hF.out.1) (nar_sin bS.out) _).trans hB.out.symm), _, rfl⟩
      · have hA := hR.out.1
        have hB := hR.out.2
        rw [if_pos rfl] at hA hB
        replace hA := hide hA
        replace hB := hide hB
        clear hR
        go_wp2_with (first
          | (go_at_call 126; rw [HC.out]; refine (i_sine frC.out).mono ?_; rintro e w5 ⟨c, rfl, hc, m5, rfl⟩)
          | (go_at_call 126; refine (i_sine frF.out).mono ?_; rintro e w6 ⟨sv, rfl, hs, m6, rfl⟩))
        go_ret
        exact ⟨_, _, rfl, hide ((nar_t (neg_t (hs.out.trans hF.out.1) _) (nar_small (bd_neg bS.out)) _).trans hA.out.symm), hide ((nar_t (hc.out.trans hF.out.2) (nar_sin bC.out) _).trans hB.out.symm), _, rfl⟩
      · have hA := hR.out.1
        have hB := hR.out.2
        rw [if_neg (by decide), if_pos rfl] at hA hB
        replace hA := hide hA
        replace hB := hide hB
        clear hR
        go_wp2_with (first
          | (go_at_call 126; rw [HC.out]; refine (i_sine frC.out).mono ?_; rintro e w5 ⟨c, rfl, hc, m5, rfl⟩)
          | (go_at_call 126; refine (i_sine frF.out).mono ?_; rintro e w6 ⟨sv, rfl, hs, m6, rfl⟩))
        go_ret
        exact ⟨_, _, rfl, hide ((nar_t (neg_t (hc.out.trans hF.out.2) _) (nar_small (bd_neg bC.out)) _).trans hA.out.symm), hide ((nar_t (neg_t (hs.out.trans hF.out.1) _) (nar_small (bd_neg bS.out)) _).trans hB.out.symm), _, rfl⟩
      · have hA := hR.out.1
        have hB := hR.out.2
        rw [if_neg (by decide), if_neg (by decide), if_pos rfl] at hA hB
        replace hA := hide hA
        replace hB := hide hB
        clear hR
        go_wp2_with (first
          | (go_at_call 126; rw [HC.out]; refine (i_sine frC.out).mono ?_; rintro e w5 ⟨c, rfl, hc, m5, rfl⟩)
          | (go_at_call 126; refine (i_sine frF.out).mono ?_; rintro e w6 ⟨sv, rfl, hs, m6, rfl⟩))
        go_ret
        exact ⟨_, _, rfl, hide ((nar_t (hs.out.trans hF.out.1) (nar_sin bS.out) _).trans hA.out.symm), hide ((nar_t (neg_t (hc.out.trans hF.out.2) _) (nar_small (bd_neg bC.out)) _).trans hB.out.symm), _, rfl⟩
      · have hA := hR.out.1
        have hB := hR.out.2
        rw [if_neg (by decide), if_neg (by decide), if_neg (by decide)] at hA hB
        replace hA := hide hA
        replace hB := hide hB
        clear hR
        go_wp2_with (first
          | (go_at_call 126; rw [HC.out]; refine (i_sine frC.out).mono ?_; rintro e w5 ⟨c, rfl, hc, m5, rfl⟩)
          | (go_at_call 126; refine (i_sine frF.out).mono ?_; rintro e w6 ⟨sv, rfl, hs, m6, rfl⟩))
        go_ret
        exact ⟨_, _, rfl, hide ((nar_t (hc.out.trans hF.out.2) (nar_sin bC.out) _).trans hA.out.symm), hide ((nar_t (hs.out.trans hF.out.1) (nar_sin bS.out) _).trans hB.out.symm), _, rfl⟩
end Go.Proofs.Yteabfkgbakoljaa

/-
  The point of the unit circle at some turns: the reference's walk; both sides at great turns.
-/
namespace Go.Proofs.Yteabfkgbakoljaa
open Go.RowKit Mem Fl
set_option linter.unusedVariables false
set_option maxRecDepth 100000

def sv (s : Bool) (r : Nat) : Int := if s = true then -((vv .f64 r : Nat) : Int) else ((vv .f64 r : Nat) : Int)
theorem order_words {s t : Bool} {r q : Nat} (hr : r < 9218868437227405312) (hq : q < 9218868437227405312) : FloatKind.f64.format.order (FloatKind.f64.format.word s r) (FloatKind.f64.format.word t q) = some (compare (sv s r) (sv t q)) := by
  have hi := d64_inf
  have rx := read_word (k := .f64) (s := s) (r := r) (by omega)
  have ry := read_word (k := .f64) (s := t) (r := q) (by omega)
  rw [order_num rx ry (b := FloatKind.f64.format.leastPlace) (place_ge _ _) (place_ge _ _)]
  have hs : ∀ (s : Bool) (x : Nat), sval s (magOf FloatKind.f64.format x) (placeOf FloatKind.f64.format x) FloatKind.f64.format.leastPlace = sv s x := by
    intro s x; unfold sval sv Ieee.signed vv; rw [Nat.shiftLeft_eq]
  rw [hs, hs]
theorem word_two : (4841369599423283200 : Nat) = FloatKind.f64.format.word false 4841369599423283200 ∧ (14064741636278059008 : Nat) = FloatKind.f64.format.word true 4841369599423283200 := by decide +kernel
theorem small_ord {s : Bool} {r : Nat} (h : r < 4841369599423283200) : (FloatKind.f64.format.order (FloatKind.f64.format.word s r) 4841369599423283200 == some .gt || FloatKind.f64.format.order (FloatKind.f64.format.word s r) 4841369599423283200 == some .eq) = false ∧ (FloatKind.f64.format.order (FloatKind.f64.format.word s r) 14064741636278059008 == some .lt || FloatKind.f64.format.order (FloatKind.f64.format.word s r) 14064741636278059008 == some .eq) = false := by
  have hv := vv_lt (k := .f64) h
  have h1 := order_words (s := s) (t := false) (r := r) (q := 4841369599423283200) (by omega) (by omega)
  have h2 := order_words (s := s) (t := true) (r := r) (q := 4841369599423283200) (by omega) (by omega)
  rw [← word_two.1] at h1
  rw [← word_two.2] at h2
  rw [h1, h2, compare_int, compare_int]
  have e1 : sv s r < sv false 4841369599423283200 := by unfold sv; cases s <;> simp <;> omega
  have e2 : sv true 4841369599423283200 < sv s r := by unfold sv; cases s <;> simp <;> omega
  rw [if_pos e1, if_neg (by omega), if_neg (by omega)]
  exact ⟨rfl, rfl⟩
set_option maxHeartbeats 1000000 in
theorem i_PhasorOf_big {s : Bool} {r y : Nat} {w : World} (hy : y = FloatKind.f64.format.word s r) (h : 4841369599423283200 ≤ r) (hr : r < 9218868437227405312) :
    Calls Try.prog 85 #[.float .f64 y] w fun e w' => e = .returned (.complex .f32 1065353216 0) ∧ ∃ m, w' = w.drewN m := by
  obtain ⟨hm1, hm2⟩ := word_mod (s := s) (r := r) hr
  have hg := ge_pos (k := .f64) (c := r) (q := 4841369599423283200) (by rw [d64_inf]; omega) (by rw [d64_inf]; omega)
  rw [decide_eq_true h] at hg
  have hfin : fin .f64 y = true := by rw [hy]; exact (fin_iff .f64 _).2 ⟨_, _, _, read_word (k := .f64) (by rw [d64_inf]; exact hr)⟩
  rw [← hy] at hm1 hm2
  have HA : ∀ W, Calls Try.prog 124 #[.float .f64 y] W fun e w' => e = .returned (.float .f64 r) ∧ W = w' := fun W => by
    have := abs_calls (w := W) hm2
    rwa [hm1] at this
  replace HA := hide HA
  clear hm1 hm2 hy h hr
  go_enter Try.func85, Try.ntmps85
  go_wp2_with (first
    | (go_at_call 123; refine (i_isFinite64 _ _).mono ?_; rintro e w' ⟨rfl, m1, rfl⟩; rw [hfin])
    | (go_at_call 124; refine (HA.out _).mono ?_; rintro e w' ⟨rfl, rfl⟩))
  go_ret
  exact ⟨rfl, _, rfl⟩
theorem big_ord {s : Bool} {r : Nat} (h : 4841369599423283200 ≤ r) (hr : r < 9218868437227405312) : (s = false → (FloatKind.f64.format.order (FloatKind.f64.format.word s r) 4841369599423283200 == some .gt || FloatKind.f64.format.order (FloatKind.f64.format.word s r) 4841369599423283200 == some .eq) = true) ∧ (s = true → (FloatKind.f64.format.order (FloatKind.f64.format.word s r) 4841369599423283200 == some .gt || FloatKind.f64.format.order (FloatKind.f64.format.word s r) 4841369599423283200 == some .eq) = false ∧ (FloatKind.f64.format.order (FloatKind.f64.format.word s r) 14064741636278059008 == some .lt || FloatKind.f64.format.order (FloatKind.f64.format.word s r) 14064741636278059008 == some .eq) = true) := by
  have hv := vv_le (k := .f64) h
  have h1 := order_words (s := s) (t := false) (r := r) (q := 4841369599423283200) hr (by omega)
  have h2 := order_words (s := s) (t := true) (r := r) (q := 4841369599423283200) hr (by omega)
  rw [← word_two.1] at h1
  rw [← word_two.2] at h2
  rw [h1, h2, compare_int, compare_int]
  obtain ⟨d, hd, _⟩ := two52_vv
  have hp := Nat.two_pow_pos d
  rw [← hd] at hp
  constructor
  · rintro rfl
    have e1 : sv false 4841369599423283200 ≤ sv false r := by unfold sv; simp; omega
    rw [if_neg (by omega)]
    split <;> rfl
  · rintro rfl
    have e1 : sv true r < sv false 4841369599423283200 := by unfold sv; simp; omega
    have e2 : sv true r ≤ sv true 4841369599423283200 := by unfold sv; simp; omega
    rw [if_pos e1]
    refine ⟨rfl, ?_⟩
    by_cases h3 : sv true r < sv true 4841369599423283200
    · rw [if_pos h3]; rfl
    · rw [if_neg h3, if_pos (by omega)]; rfl
theorem fin_ne {y : Nat} (h : fin .f64 y = true) : (FloatKind.f64.format.order (fb .sub .f64 y y) 0 != some .eq) = false := by
  unfold fin at h
  rw [bne, h]; rfl
set_option maxHeartbeats 1000000 in
theorem s_l01Phasor_big {s : Bool} {r y : Nat} {w : World} (hy : y = FloatKind.f64.format.word s r) (h : 4841369599423283200 ≤ r) (hr : r < 9218868437227405312) :
    Calls Try.prog 140 #[.float .f64 y] w fun e w' => e = .returned (.complex .f32 1065353216 0) ∧ ∃ m, w' = w.drewN m := by
  have hfin : fin .f64 y = true := by rw [hy]; exact (fin_iff .f64 _).2 ⟨_, _, _, read_word (k := .f64) (by rw [d64_inf]; exact hr)⟩
  have hne := fin_ne hfin
  obtain ⟨b1, b2⟩ := big_ord (s := s) h hr
  rw [← hy] at b1 b2
  clear hy h hr hfin
  cases s with
  | false =>
    have g1 := b1 rfl
    clear b1 b2
    go_enter Try.func140, Try.ntmps140
    go_wp2
    go_ret
    exact ⟨rfl, _, rfl⟩
  | true =>
    obtain ⟨g1, g2⟩ := b2 rfl
    clear b1 b2
    go_enter Try.func140, Try.ntmps140
    go_wp2
    go_ret
    exact ⟨rfl, _, rfl⟩
end Go.Proofs.Yteabfkgbakoljaa

/-
  The point of the unit circle at some turns: the reference's walk at turns that are not great.
-/
namespace Go.Proofs.Yteabfkgbakoljaa
open Go.RowKit Mem Fl
set_option linter.unusedVariables false
set_option maxRecDepth 100000

set_option maxHeartbeats 8000000 in
theorem s_l01Phasor {s : Bool} {r y : Nat} {w : World} (hy : y = FloatKind.f64.format.word s r) (h : r < 4841369599423283200) :
    Calls Try.prog 140 #[.float .f64 y] w fun e w' => ∃ a b, e = .returned (.complex .f32 a b) ∧ Hid (cn .f32 a = phRe y) ∧ Hid (cn .f32 b = phIm y) ∧ ∃ m, w' = w.drewN m := by
  obtain ⟨hI, hfr, hfin⟩ := small_facts (s := s) h
  obtain ⟨g1, g2⟩ := small_ord (s := s) h
  rw [← hy] at hI hfr hfin g1 g2
  have hne := fin_ne hfin
  have hcv := conv_int hI
  have hp : frV y = if (FloatKind.f64.format.order (fb .sub .f64 y (floatOfInt .f64 (frT y))) 0 == some .lt) = true then fb .add .f64 (fb .sub .f64 y (floatOfInt .f64 (frT y))) 4607182418800017408 else fb .sub .f64 y (floatOfInt .f64 (frT y)) := rfl
  have hnn := fr_nan hfr (by decide)
  replace hfr := hide hfr
  clear hfin hy h hI
  have hz0 : phI y 0 = frV y := rfl
  generalize frT y = n at *
  cases h1 : (FloatKind.f64.format.order (fb .sub .f64 y (floatOfInt .f64 n)) 0 == some .lt) with
  | true =>
    rw [h1, if_pos rfl] at hp
    have HX : Hid (∀ W1 W2, flR .add .f64 (flR .sub .f64 y (floatOfInt .f64 n) W1) 4607182418800017408 W2 = phI y 0) := hide (fun W1 W2 => exact_word (by rw [hz0, hp, cn_flR, ← fb_cnl, cn_flR]) (by rw [hz0]; exact hnn))
    clear hp hnn hz0
    go_enter Try.func140, Try.ntmps140
    go_wp2
    clear g1 g2 hne h1 hcv
    go_loopw [3, 4] (fun f q wr => ∃ j m : Nat, j ≤ 4 ∧ f = .float .f64 (phI y j) ∧ q = .int .i64 (j : Int) ∧ Hid (∀ i, i < j → gq (phI y i) = true) ∧ wr = w.drewN m) (fun _ q _ => 5 - (intOf q).toNat)
    case atStart => exact ⟨0, _, by omega, by rw [HX.out], rfl, hide (fun i hi => absurd hi (Nat.not_lt_zero _)), rfl⟩
    case round =>
      obtain ⟨j, m, hj, rfl, rfl, hall, rfl⟩ := hrel
      have hjI : (j : Int) ≤ 4 := by omega
      cases hgj : gq (phI y j) with
      | true =>
        have hj4 : j < 4 := by
          rcases Nat.lt_or_ge j 4 with h | h
          · exact h
          · obtain rfl : j = 4 := by omega
            rw [gq_end hfr.out hall.out] at hgj
            cases hgj
        have hA2 : Hid (∀ i, i < j + 1 → gq (phI y i) = true) := hide (fun i hi => by
          rcases Nat.lt_or_ge i j with h | h
          · exact hall.out i h
          · obtain rfl : i = j := by omega
            exact hgj)
        have HN : Hid (∀ W, flR .sub .f64 (phI y j) 4598175219545276416 W = phI y (j + 1)) := hide (fun W => flR_bd rfl (phI_nan hfr.out (by omega) hA2.out) W)
        unfold gq at hgj
        go_wp2
        go_roundw
        case rel => exact ⟨j + 1, _, by omega, by rw [HN.out], by go_num, hA2, rfl⟩
        case measure => (simp [intOf]; try omega)
      | false =>
        have hQ := phQ_of hj hall.out hgj
        obtain ⟨fF, fC⟩ := left_fr (phI_cap hfr.out j hj hall.out) (cap_le j) hgj
        have frF := hide fF
        have frC := hide fC
        have HC : Hid (∀ W, flR .sub .f64 4598175219545276416 (phI y j) W = fb .sub .f64 4598175219545276416 (phI y j)) := hide (fun W => flR_bd rfl (fr_nan fC (by decide)) W)
        have hF : Hid (sinV (phI y j) = phS y ∧ sinV (fb .sub .f64 4598175219545276416 (phI y j)) = phC y) := hide (by unfold phS phC phF; rw [hQ]; exact ⟨rfl, rfl⟩)
        have bS := hide (bd_sin fF)
        have bC := hide (bd_sin fC)
        rw [hF.out.1] at bS
        rw [hF.out.2] at bC
        have hR : Hid (phRe y = (if j = 1 then nar (fb .sub .f64 0 (phS y)) else if j = 2 then nar (fb .sub .f64 0 (phC y)) else if j = 3 then nar (phS y) else nar (phC y)) ∧ phIm y = (if j = 1 then nar (phC y) else if j = 2 then nar (fb .sub .f64 0 (phS y)) else if j = 3 then nar (fb .sub .f64 0 (phC y)) else nar (phS y))) := hide (by unfold phRe phIm; rw [hQ]; exact ⟨rfl, rfl⟩)
        have hgk := hgj
        unfold gq at hgk
        clear hgj fF fC hQ hall
        have h5 : j = 0 ∨ j = 1 ∨ j = 2 ∨ j = 3 ∨ j = 4 := by omega
        rcases h5 with rfl | rfl | rfl | rfl | rfl
        · have hA := hR.out.1
          have hB := hR.out.2
          rw [if_neg (by decide), if_neg (by decide), if_neg (by decide)] at hA hB
          replace hA := hide hA
          replace hB := hide hB
          clear hR
          go_wp2_with (first
            | (go_at_call 157; rw [HC.out]; refine (s_l01SineWide frC.out).mono ?_; rintro e w5 ⟨c, rfl, hc, m5, rfl⟩)
            | (go_at_call 157; refine (s_l01SineWide frF.out).mono ?_; rintro e w6 ⟨sv, rfl, hs, m6, rfl⟩)
            | (go_at_call 130; refine s_Narrow.mono ?_; rintro e w7 ⟨rfl, m7, rfl⟩))
          go_ret
          exact ⟨_, _, rfl, hide ((nar_t (hc.out.trans hF.out.2) (nar_sin bC.out) _).trans hA.out.symm), hide ((nar_t (hs.out.trans hF.out.1) (nar_sin bS.out) _).trans hB.out.symm), _, rfl⟩
        · have hA := hR.out.1
          have hB := hR.out.2
          rw [if_pos rfl] at hA hB
          replace hA := hide hA
          replace hB := hide hB
          clear hR
          go_wp2_with (first
            | (go_at_call 157; rw [HC.out]; refine (s_l01SineWide frC.out).mono ?_; rintro e w5 ⟨c, rfl, hc, m5, rfl⟩)
            | (go_at_call 157; refine (s_l01SineWide frF.out).mono ?_; rintro e w6 ⟨sv, rfl, hs, m6, rfl⟩)
            | (go_at_call 130; refine s_Narrow.mono ?_; rintro e w7 ⟨rfl, m7, rfl⟩))
          go_ret
          exact ⟨_, _, rfl, hide ((nar_t (neg_t (hs.out.trans hF.out.1) _) (nar_small (bd_neg bS.out)) _).trans hA.out.symm), hide ((nar_t (hc.out.trans hF.out.2) (nar_sin bC.out) _).trans hB.out.symm), _, rfl⟩
        · have hA := hR.out.1
          have hB := hR.out.2
          rw [if_neg (by decide), if_pos rfl] at hA hB
          replace hA := hide hA
          replace hB := hide hB
          clear hR
          go_wp2_with (first
            | (go_at_call 157; rw [HC.out]; refine (s_l01SineWide frC.out).mono ?_; rintro e w5 ⟨c, rfl, hc, m5, rfl⟩)
            | (go_at_call 157; refine (s_l01SineWide frF.out).mono ?_; rintro e w6 ⟨sv, rfl, hs, m6, rfl⟩)
            | (go_at_call 130; refine s_Narrow.mono ?_; rintro e w7 ⟨rfl, m7, rfl⟩))
          go_ret
          exact ⟨_, _, rfl, hide ((nar_t (neg_t (hc.out.trans hF.out.2) _) (nar_small (bd_neg bC.out)) _).trans hA.out.symm), hide ((nar_t (neg_t (hs.out.trans hF.out.1) _) (nar_small (bd_neg bS.out)) _).trans hB.out.symm), _, rfl⟩
        · have hA := hR.out.1
          have hB := hR.out.2
          rw [if_neg (by decide), if_neg (by decide), if_pos rfl] at hA hB
          replace hA := hide hA
          replace hB := hide hB
          clear hR
          go_wp2_with (first
            | (go_at_call 157; rw [HC.out]; refine (s_l01SineWide frC.out).mono ?_; rintro e w5 ⟨c, rfl, hc, m5, rfl⟩)
            | (go_at_call 157; refine (s_l01SineWide frF.out).mono ?_; rintro e w6 ⟨sv, rfl, hs, m6, rfl⟩)
            | (go_at_call 130; refine s_Narrow.mono ?_; rintro e w7 ⟨rfl, m7, rfl⟩))
          go_ret
          exact ⟨_, _, rfl, hide ((nar_t (hs.out.trans hF.out.1) (nar_sin bS.out) _).trans hA.out.symm), hide ((nar_t (neg_t (hc.out.trans hF.out.2) _) (nar_small (bd_neg bC.out)) _).trans hB.out.symm), _, rfl⟩
        · have hA := hR.out.1
          have hB := hR.out.2
          rw [if_neg (by decide), if_neg (by decide), if_neg (by decide)] at hA hB
          replace hA := hide hA
          replace hB := hide hB
          clear hR
          go_wp2_with (first
            | (go_at_call 157; rw [HC.out]; refine (s_l01SineWide frC.out).mono ?_; rintro e w5 ⟨c, rfl, hc, m5, rfl⟩)
            | (go_at_call 157; refine (s_l01SineWide frF.out).mono ?_; rintro e w6 ⟨sv, rfl, hs, m6, rfl⟩)
            | (go_at_call 130; refine s_Narrow.mono ?_; rintro e w7 ⟨rfl, m7, rfl⟩))
          go_ret
          exact ⟨_, _, rfl, hide ((nar_t (hc.out.trans hF.out.2) (nar_sin bC.out) _).trans hA.out.symm), hide ((nar_t (hs.out.trans hF.out.1) (nar_sin bS.out) _).trans hB.out.symm), _, rfl⟩
  | false =>
    rw [h1, if_neg (by simp)] at hp
    have HX : Hid (∀ W1, flR .sub .f64 y (floatOfInt .f64 n) W1 = phI y 0) := hide (fun W1 => exact_word (by rw [hz0, hp, cn_flR]) (by rw [hz0]; exact hnn))
    clear hp hnn hz0
    go_enter Try.func140, Try.ntmps140
    go_wp2
    clear g1 g2 hne h1 hcv
    go_loopw [3, 4] (fun f q wr => ∃ j m : Nat, j ≤ 4 ∧ f = .float .f64 (phI y j) ∧ q = .int .i64 (j : Int) ∧ Hid (∀ i, i < j → gq (phI y i) = true) ∧ wr = w.drewN m) (fun _ q _ => 5 - (intOf q).toNat)
    case atStart => exact ⟨0, _, by omega, by rw [HX.out], rfl, hide (fun i hi => absurd hi (Nat.not_lt_zero _)), rfl⟩
    case round =>
      obtain ⟨j, m, hj, rfl, rfl, hall, rfl⟩ := hrel
      have hjI : (j : Int) ≤ 4 := by omega
      cases hgj : gq (phI y j) with
      | true =>
        have hj4 : j < 4 := by
          rcases Nat.lt_or_ge j 4 with h | h
          · exact h
          · obtain rfl : j = 4 := by omega
            rw [gq_end hfr.out hall.out] at hgj
            cases hgj
        have hA2 : Hid (∀ i, i < j + 1 → gq (phI y i) = true) := hide (fun i hi => by
          rcases Nat.lt_or_ge i j with h | h
          · exact hall.out i h
          · obtain rfl : i = j := by omega
            exact hgj)
        have HN : Hid (∀ W, flR .sub .f64 (phI y j) 4598175219545276416 W = phI y (j + 1)) := hide (fun W => flR_bd rfl (phI_nan hfr.out (by omega) hA2.out) W)
        unfold gq at hgj
        go_wp2
        go_roundw
        case rel => exact ⟨j + 1, _, by omega, by rw [HN.out], by go_num, hA2, rfl⟩
        case measure => (simp [intOf]; try omega)
      | false =>
        have hQ := phQ_of hj hall.out hgj
        obtain ⟨fF, fC⟩ := left_fr (phI_cap hfr.out j hj hall.out) (cap_le j) hgj
        have frF := hide fF
        have frC := hide fC
        have HC : Hid (∀ W, flR .sub .f64 4598175219545276416 (phI y j) W = fb .sub .f64 4598175219545276416 (phI y j)) := hide (fun W => flR_bd rfl (fr_nan fC (by decide)) W)
        have hF : Hid (sinV (phI y j) = phS y ∧ sinV (fb .sub .f64 4598175219545276416 (phI y j)) = phC y) := hide (by unfold phS phC phF; rw [hQ]; exact ⟨rfl, rfl⟩)
        have bS := hide (bd_sin fF)
        have bC := hide (bd_sin fC)
        rw [hF.out.1] at bS
        rw [hF.out.2] at bC
        have hR : Hid (phRe y = (if j = 1 then nar (fb .sub .f64 0 (phS y)) else if j = 2 then nar (fb .sub .f64 0 (phC y)) else if j = 3 then nar (phS y) else nar (phC y)) ∧ phIm y = (if j = 1 then nar (phC y) else if j = 2 then nar (fb .sub .f64 0 (phS y)) else if j = 3 then nar (fb .sub .f64 0 (phC y)) else nar (phS y))) := hide (by unfold phRe phIm; rw [hQ]; exact ⟨rfl, rfl⟩)
        have hgk := hgj
        unfold gq at hgk
        clear hgj fF fC hQ hall
        have h5 : j = 0 ∨ j = 1 ∨ j = 2 ∨ j = 3 ∨ j = 4 := by omega
        rcases h5 with rfl | rfl | rfl | rfl | rfl
        · have hA := hR.out.1
          have hB := hR.out.2
          rw [if_neg (by decide), if_neg (by decide), if_neg (by decide)] at hA hB
          replace hA := hide hA
          replace hB := hide hB
          clear hR
          go_wp2_with (first
            | (go_at_call 157; rw [HC.out]; refine (s_l01SineWide frC.out).mono ?_; rintro e w5 ⟨c, rfl, hc, m5, rfl⟩)
            | (go_at_call 157; refine (s_l01SineWide frF.out).mono ?_; rintro e w6 ⟨sv, rfl, hs, m6, rfl⟩)
            | (go_at_call 130; refine s_Narrow.mono ?_; rintro e w7 ⟨rfl, m7, rfl⟩))
          go_ret
          exact ⟨_, _, rfl, hide ((nar_t (hc.out.trans hF.out.2) (nar_sin bC.out) _).trans hA.out.symm), hide ((nar_t (hs.out.trans hF.out.1) (nar_sin bS.out) _).trans hB.out.symm), _, rfl⟩
        · have hA := hR.out.1
          have hB := hR.out.2
          rw [if_pos rfl] at hA hB
          replace hA := hide hA
          replace hB := hide hB
          clear hR
          go_wp2_with (first
            | (go_at_call 157; rw [HC.out]; refine (s_l01SineWide frC.out).mono ?_; rintro e w5 ⟨c, rfl, hc, m5, rfl⟩)
            | (go_at_call 157; refine (s_l01SineWide frF.out).mono ?_; rintro e w6 ⟨sv, rfl, hs, m6, rfl⟩)
            | (go_at_call 130; refine s_Narrow.mono ?_; rintro e w7 ⟨rfl, m7, rfl⟩))
          go_ret
          exact ⟨_, _, rfl, hide ((nar_t (neg_t (hs.out.trans hF.out.1) _) (nar_small (bd_neg bS.out)) _).trans hA.out.symm), hide ((nar_t (hc.out.trans hF.out.2) (nar_sin bC.out) _).trans hB.out.symm), _, rfl⟩
        · have hA := hR.out.1
          have hB := hR.out.2
          rw [if_neg (by decide), if_pos rfl] at hA hB
          replace hA := hide hA
          replace hB := hide hB
          clear hR
          go_wp2_with (first
            | (go_at_call 157; rw [HC.out]; refine (s_l01SineWide frC.out).mono ?_; rintro e w5 ⟨c, rfl, hc, m5, rfl⟩)
            | (go_at_call 157; refine (s_l01SineWide frF.out).mono ?_; rintro e w6 ⟨sv, rfl, hs, m6, rfl⟩)
            | (go_at_call 130; refine s_Narrow.mono ?_; rintro e w7 ⟨rfl, m7, rfl⟩))
          go_ret
          exact ⟨_, _, rfl, hide ((nar_t (neg_t (hc.out.trans hF.out.2) _) (nar_small (bd_neg bC.out)) _).trans hA.out.symm), hide ((nar_t (neg_t (hs.out.trans hF.out.1) _) (nar_small (bd_neg bS.out)) _).trans hB.out.symm), _, rfl⟩
        · have hA := hR.out.1
          have hB := hR.out.2
          rw [if_neg (by decide), if_neg (by decide), if_pos rfl] at hA hB
          replace hA := hide hA
          replace hB := hide hB
          clear hR
          go_wp2_with (first
            | (go_at_call 157; rw [HC.out]; refine (s_l01SineWide frC.out).mono ?_; rintro e w5 ⟨c, rfl, hc, m5, rfl⟩)
            | (go_at_call 157; refine (s_l01SineWide frF.out).mono ?_; rintro e w6 ⟨sv, rfl, hs, m6, rfl⟩)
            | (go_at_call 130; refine s_Narrow.mono ?_; rintro e w7 ⟨rfl, m7, rfl⟩))
          go_ret
          exact ⟨_, _, rfl, hide ((nar_t (hs.out.trans hF.out.1) (nar_sin bS.out) _).trans hA.out.symm), hide ((nar_t (neg_t (hc.out.trans hF.out.2) _) (nar_small (bd_neg bC.out)) _).trans hB.out.symm), _, rfl⟩
        · have hA := hR.out.1
          have hB := hR.out.2
          rw [if_neg (by decide), if_neg (by decide), if_neg (by decide)] at hA hB
          replace hA := hide hA
          replace hB := hide hB
          clear hR
          go_wp2_with (first
            | (go_at_call 157; rw [HC.out]; refine (s_l01SineWide frC.out).mono ?_; rintro e w5 ⟨c, rfl, hc, m5, rfl⟩)
            | (go_at_call 157; refine (s_l01SineWide frF.out).mono ?_; rintro e w6 ⟨sv, rfl, hs, m6, rfl⟩)
            | (go_at_call 130; refine s_Narrow.mono ?_; rintro e w7 ⟨rfl, m7, rfl⟩))
          go_ret
          exact ⟨_, _, rfl, hide ((nar_t (hc.out.trans hF.out.2) (nar_sin bC.out) _).trans hA.out.symm), hide ((nar_t (hs.out.trans hF.out.1) (nar_sin bS.out) _).trans hB.out.symm), _, rfl⟩
end Go.Proofs.Yteabfkgbakoljaa
