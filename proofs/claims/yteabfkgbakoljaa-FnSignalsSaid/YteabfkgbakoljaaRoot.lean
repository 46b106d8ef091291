/-
  Contracts of RootPower: the program's and the reference's.
-/
import Derived.Test.YteabfkgbakoljaaMean
import Derived.Test.YteabfkgbakoljaaSqrt
import Derived.Deep.QuietTactic
import Derived.BigQuiet
namespace Go.Proofs.Yteabfkgbakoljaa
open Go.RowKit Fl Mem
set_option linter.unusedVariables false
set_option maxRecDepth 100000

/-- The squares of numbers. -/
def sqs (xs : List Nat) : List Nat := xs.map fun x => fb .mul .f32 x x
theorem sqs_len (xs : List Nat) : (sqs xs).length = xs.length := by simp [sqs]
theorem sqs_take {xs : List Nat} {k x : Nat} (h : xs[k]? = some x) : sqs (xs.take (k + 1)) = sqs (xs.take k) ++ [fb .mul .f32 x x] := by unfold sqs; rw [take_eq h, List.map_append]; rfl
theorem sqs_cn {xs ys : List Nat} (h : xs.map (cn .f32) = ys.map (cn .f32)) : sqs xs = sqs ys := by
  unfold sqs
  have e : ∀ l : List Nat, l.map (fun x => fb .mul .f32 x x) = (l.map (cn .f32)).map (fun x => fb .mul .f32 x x) := by
    intro l
    rw [List.map_map]
    congr 1
    funext x
    exact (fb_cn _ _ _ _).symm
  rw [e, h, ← e]
theorem own_snoc {w : World} {b : Nat} {t : TypeId} {v : Value} {k z : Nat} {zs : List Nat} (h : w.ownsRow b t 1 v k (fl .f32 zs ++ [.float .f32 z])) : w.ownsRow b t 1 v k (fl .f32 (zs ++ [z])) := by
  rw [fl, List.map_append]; exact h

set_option maxHeartbeats 1000000 in
theorem i_squares {A : Option Addr} {n c : Nat} {xs : List Nat} {w : World} {B : Nat} (h : Reads w B 1 A n (fl .f32 xs)) (hB : B ≤ w.heap.size) (hn : n ≤ 1000000) :
    Calls Try.prog 79 #[.slice A n c] w fun e w' => ∃ A' c' zs, e = .returned (.slice A' n c') ∧ w'.ownsRow w.heap.size 27 1 (.slice A' n c') n (fl .f32 zs) ∧ Hid (zs.map (cn .f32) = sqs xs) ∧ Below w.heap.size w w' := by
  have Hl := hide h.map_len
  go_enter Try.func79, Try.ntmps79
  go_wp2
  go_loopw [3, 9] (fun v i wr => ∃ (k : Nat) (zs : List Nat), k ≤ n ∧ i = .int .i64 k ∧ Hid (zs.map (cn .f32) = sqs (xs.take k)) ∧ wr.ownsRow w.heap.size 27 1 v k (fl .f32 zs) ∧ Below w.heap.size w wr) (fun _ i _ => n - (intOf i).toNat)
  case atStart => exact ⟨0, [], Nat.zero_le _, rfl, hide rfl, own_emp rfl (Nat.le_refl _), (by repeat (first | exact Below.refl _ _ | exact below_drewN (by assumption) _ | refine below_drewN ?_ _ | refine Below.alloc ?_ (by first | (simp; done) | (simp; omega)) _ | assumption))⟩
  case round =>
    obtain ⟨k, zs, hk, rfl, hzs, hown, hbel⟩ := hrel
    have Hown := hide hown
    have hsz := hbel.size
    clear hown
    by_cases hlt : k < n
    · obtain ⟨ad, x, rfl, _, hx, hc⟩ := (h.below (hbel.mono hB)).map_at hlt
      have HS := hide (sqs_take hx)
      clear hx
      go_wp2_with (at_builtin; refine wpList_append1 rfl (.tmp 13) (.tmp 17) 36 rfl w.heap.size 27 (.float .f32 0) _ 4 info_f32 Try.underlying36 rfl rfl _ _ _ rfl (own_drewN Hown.out _) rfl rfl (by omega) (by omega) (by simp; omega) ?_)
      intro v' w' hown' hb'
      have hbel' : Below w.heap.size w w' := (below_drewN hbel _).trans hb'
      have HT := hide (own_snoc hown')
      clear hown' hb'
      go_wp2
      go_roundw
      case rel => exact ⟨k + 1, _, by omega, by go_num, hide (by rw [HS.out, List.map_append, hzs.out, List.map_singleton, cn_flR]), HT.out, hbel'⟩
      case measure => simp [intOf]; omega
    · obtain rfl : k = n := by omega
      obtain ⟨OA, oc, hov⟩ := own_shape Hown.out
      subst hov
      go_wp2
      go_ret
      exact ⟨_, _, zs, rfl, Hown.out, hide (by rw [hzs.out, List.take_of_length_le (by rw [Hl.out]; omega)]), hbel⟩

theorem sqrt_calls (w : World) (x : Nat) : Calls Try.prog 115 #[.float .f64 x] w fun e w' => ∃ z, e = .returned (.float .f64 z) ∧ Hid (cn .f64 z = sq x) ∧ ∃ m, w' = w.drewN m := by
  have hs := fun (x : Nat) (w : World) => run_call_sqrt (P := Try.prog) (f := 144) Try.func144 (by kernel_rfl) (by kernel_rfl) (by kernel_rfl) (by rfl) x w
  go_enter Try.func115, Try.ntmps115
  go_wp2
  go_ret
  exact ⟨_, rfl, hide (cn_sqR _ _), _, rfl⟩

theorem i_RootNumber (w : World) (x : Nat) : Calls Try.prog 73 #[.float .f32 x] w fun e w' => ∃ z, e = .returned (.float .f32 z) ∧ Hid (cn .f32 z = rootOf x) ∧ ∃ m, w' = w.drewN m := by
  go_enter Try.func73, Try.ntmps73
  go_wp2_with (go_at_call 115; refine (sqrt_calls _ _).mono ?_; rintro e w' ⟨z, rfl, hz, m', rfl⟩)
  go_ret
  refine ⟨_, rfl, hide ?_, _, rfl⟩
  have hz2 : cn .f64 z = sq (wide x) := by rw [hz.out, ← sq_cn, cn_cvR]
  rw [cn_cvR64 (narOk_cn.1 (by rw [hz2]; exact narOk_sqrt x)), ← nar_cn, hz2]; rfl
theorem s_l01Narrow (w : World) (x z : Nat) (hz : cn .f64 z = sq (wide x)) : Calls Try.prog 130 #[.float .f64 z] w fun e w' => ∃ z, e = .returned (.float .f32 z) ∧ Hid (cn .f32 z = rootOf x) ∧ ∃ m, w' = w.drewN m := by
  go_enter Try.func130, Try.ntmps130
  go_wp2
  go_ret
  refine ⟨_, rfl, hide ?_, _, rfl⟩
  rw [cn_cvR64 (narOk_cn.1 (by rw [hz]; exact narOk_sqrt x)), ← nar_cn, hz]; rfl
theorem s_l01Sqrt (w : World) (x : Nat) : Calls Try.prog 118 #[.float .f32 x] w fun e w' => ∃ z, e = .returned (.float .f32 z) ∧ Hid (cn .f32 z = rootOf x) ∧ ∃ m, w' = w.drewN m := by
  go_enter Try.func118, Try.ntmps118
  go_wp2_with (first | (go_at_call 115; refine (sqrt_calls _ _).mono ?_; rintro e w' ⟨z, rfl, hz, m', rfl⟩) | (go_at_call 130; refine (s_l01Narrow _ x z (by rw [hz.out, ← sq_cn, cn_cvR])).mono ?_; rintro e w' ⟨z2, rfl, hz2, m2, rfl⟩))
  go_ret
  exact ⟨_, rfl, hz2, _, rfl⟩

theorem s_l02Number {x : Nat} {w : World} :
    Calls Try.prog 81 #[.float .f32 x] w fun e w' => e = .returned (.tuple #[.float .f32 (if fin .f32 x = true then x else 0), .bool (fin .f32 x)]) ∧ ∃ m, w' = w.drewN m := by
  cases hf : fin .f32 x
  all_goals
    go_enter Try.func81, Try.ntmps81
    go_wp2_with (go_at_call 120; refine (s_l01Finite _ _).mono ?_; rintro e w' ⟨rfl, m', rfl⟩)
    go_ret2
    exact ⟨rfl, _, rfl⟩

theorem i_ifFin {x : Nat} {w : World} {R : Nat} (hR : cn .f32 x = R) :
    Calls Try.prog 57 #[.float .f32 x] w fun e w' => ∃ z, e = .returned (.tuple #[.float .f32 z, .bool (fin .f32 R)]) ∧ Hid (cn .f32 z = if fin .f32 R = true then R else 0) ∧ ∃ m, w' = w.drewN m := by
  refine i_ifFinite.mono ?_
  rintro e w' ⟨rfl, h⟩
  subst hR
  rw [fin_cn]
  refine ⟨_, rfl, hide ?_, h⟩
  cases fin .f32 x
  · exact cn_zero
  · rfl
theorem s_l02Num {x : Nat} {w : World} {R : Nat} (hR : cn .f32 x = R) :
    Calls Try.prog 81 #[.float .f32 x] w fun e w' => ∃ z, e = .returned (.tuple #[.float .f32 z, .bool (fin .f32 R)]) ∧ Hid (cn .f32 z = if fin .f32 R = true then R else 0) ∧ ∃ m, w' = w.drewN m := by
  refine s_l02Number.mono ?_
  rintro e w' ⟨rfl, h⟩
  subst hR
  rw [fin_cn]
  refine ⟨_, rfl, hide ?_, h⟩
  cases fin .f32 x
  · exact cn_zero
  · rfl

set_option maxHeartbeats 1000000 in
theorem s_l07Power {A : Option Addr} {n c : Nat} {xs : List Nat} {w : World} {B : Nat} (h : Reads w B 1 A n (fl .f32 xs)) (hn : n ≤ 1000000) :
    Calls Try.prog 119 #[.slice A n c] w fun e w' => ∃ z, e = .returned (.float .f32 z) ∧ Hid (cn .f32 z = fmean (sqs xs)) ∧ ∃ m, w' = w.drewN m := by
  have Hl := hide h.map_len
  go_enter Try.func119, Try.ntmps119
  go_wp2
  go_loopw [3, 7] (fun s i wr => ∃ k m z : Nat, k ≤ n ∧ i = .int .i64 k ∧ s = .float .f32 z ∧ wr = w.drewN m ∧ Hid (cn .f32 z = fsum (sqs (xs.take k)))) (fun _ i _ => n - (intOf i).toNat)
  case atStart => exact ⟨0, 0, 0, Nat.zero_le _, rfl, rfl, rfl, hide cn_zero⟩
  case round =>
    obtain ⟨k, m, z, hk, rfl, rfl, rfl, hz⟩ := hrel
    by_cases hlt : k < n
    · obtain ⟨ad, x, rfl, _, hx, hc⟩ := h.map_at hlt
      have HS := hide (sqs_take hx)
      have hlt' : (k : Int) < (n : Int) := by omega
      clear hx
      go_wp2
      go_region
      go_wp2
      go_roundw
      case rel => exact ⟨k + 1, _, _, by omega, by go_num, rfl, rfl, hide (by rw [HS.out, fsum_snoc, ← hz.out, cn_flR, fb_cnl, ← fb_cnr, cn_flR])⟩
      case measure => simp [intOf]; omega
    · obtain rfl : k = n := by omega
      go_wp2
      go_ret
      exact ⟨_, rfl, hide (by rw [cn_flR, ← fb_cnl, hz.out, List.take_of_length_le (by rw [Hl.out]; omega), fmean, sqs_len, Hl.out]), _, rfl⟩

theorem map_cn_cn (zs : List Nat) : (zs.map (cn .f32)).map (cn .f32) = zs.map (cn .f32) := by
  rw [List.map_map]; congr 1; funext x; exact cn_cn _ _
theorem fmean_map_cn (zs : List Nat) : fmean (zs.map (cn .f32)) = fmean zs := fmean_cn (map_cn_cn zs)
theorem root_eq {zs ys : List Nat} {z3 z4 : Nat} (h : zs.map (cn .f32) = ys) (h3 : cn .f32 z3 = fmean zs) (h4 : cn .f32 z4 = rootOf z3) : cn .f32 z4 = rootOf (fmean ys) := by
  rw [h4, ← rootOf_cn, h3, ← h, fmean_map_cn]

/-- What RootPower returns. -/
def rpOk (xs : List Nat) : Bool := isSig xs && fin .f32 (rootOf (fmean (sqs xs)))
def rpR (xs : List Nat) : Nat := if rpOk xs = true then rootOf (fmean (sqs xs)) else 0
theorem rpOk_cn {xs ys : List Nat} (h : xs.map (cn .f32) = ys.map (cn .f32)) (hl : isSig xs = isSig ys) : rpOk xs = rpOk ys := by unfold rpOk; rw [sqs_cn h, hl]

set_option maxHeartbeats 1000000 in
theorem i_RootPower {A : Option Addr} {n c : Nat} {xs : List Nat} {w : World} (h : Reads w w.heap.size 1 A n (fl .f32 xs)) (hn : n ≤ maxLen) :
    Calls Try.prog 27 #[.slice A n c] w fun e w' => ∃ z, e = .returned (.tuple #[.float .f32 z, .bool (rpOk xs)]) ∧ Hid (cn .f32 z = rpR xs) ∧ Below w.heap.size w w' := by
  have Hl := hide h.map_len
  cases hs : isSig xs with
  | false =>
    have e : rpOk xs = false := by unfold rpOk; rw [hs]; rfl
    go_enter Try.func27, Try.ntmps27
    go_wp2_with (go_at_call 45; refine (i_IsSignal _ _ _ xs _ _ h hn).mono ?_; rintro e w' ⟨rfl, m', rfl⟩)
    go_ret2
    exact ⟨_, by rw [e]; rfl, hide (by rw [rpR, e]; exact cn_zero), (by repeat (first | exact Below.refl _ _ | exact below_drewN (by assumption) _ | refine below_drewN ?_ _ | refine Below.alloc ?_ (by first | (simp; done) | (simp; omega)) _ | assumption))⟩
  | true =>
    have h96 : n ≤ 96 := by rw [← Hl.out]; exact (isSig_len hs).2
    go_enter Try.func27, Try.ntmps27
    have HR : Hid (rpOk xs = fin .f32 (rootOf (fmean (sqs xs)))) := hide (by rw [rpOk, hs]; rfl)
    go_wp2_with (first
      | (go_at_call 45; refine (i_IsSignal _ _ _ xs _ _ h hn).mono ?_; rintro e w' ⟨rfl, m', rfl⟩)
      | (go_at_call 79; refine (i_squares (h.drewN _) (Nat.le_refl _) (by omega)).mono ?_; rintro e w2 ⟨A', c', zs, rfl, ho, hzs, hb2⟩)
      | (go_at_call 78; refine (i_meanOfAll (Reads.of_own ho) hn).mono ?_; rintro e w' ⟨z3, rfl, hz3, _, m3, rfl⟩)
      | (go_at_call 73; refine (i_RootNumber _ _).mono ?_; rintro e w' ⟨z4, rfl, hz4, m4, rfl⟩)
      | (go_at_call 57; refine (i_ifFin (root_eq hzs.out hz3.out hz4.out)).mono ?_; rintro e w' ⟨z5, rfl, hz5, m5, rfl⟩))
    go_ret2
    have hb : Below w.heap.size w w2 := (below_drewN (Below.refl _ _) _).trans hb2
    exact ⟨_, by rw [HR.out]; rfl, hide (by rw [hz5.out, rpR, HR.out]), (by repeat (first | exact Below.refl _ _ | exact below_drewN (by assumption) _ | refine below_drewN ?_ _ | refine Below.alloc ?_ (by first | (simp; done) | (simp; omega)) _ | assumption))⟩

set_option maxHeartbeats 1000000 in
theorem s_RootPower {A : Option Addr} {n c : Nat} {xs : List Nat} {w : World} (h : Reads w w.heap.size 1 A n (fl .f32 xs)) (hn : n ≤ maxLen) :
    Calls Try.prog 80 #[.slice A n c] w fun e w' => ∃ z, e = .returned (.tuple #[.float .f32 z, .bool (rpOk xs)]) ∧ Hid (cn .f32 z = rpR xs) ∧ Below w.heap.size w w' := by
  have Hl := hide h.map_len
  cases hs : isSig xs with
  | false =>
    have e : rpOk xs = false := by unfold rpOk; rw [hs]; rfl
    go_enter Try.func80, Try.ntmps80
    go_wp2_with (go_at_call 82; refine (s_l07Signal _ _ _ xs _ _ h hn).mono ?_; rintro e w' ⟨rfl, m', rfl⟩)
    go_ret2
    exact ⟨_, by rw [e]; rfl, hide (by rw [rpR, e]; exact cn_zero), (by repeat (first | exact Below.refl _ _ | exact below_drewN (by assumption) _ | refine below_drewN ?_ _ | refine Below.alloc ?_ (by first | (simp; done) | (simp; omega)) _ | assumption))⟩
  | true =>
    have h96 : n ≤ 96 := by rw [← Hl.out]; exact (isSig_len hs).2
    go_enter Try.func80, Try.ntmps80
    have HR : Hid (rpOk xs = fin .f32 (rootOf (fmean (sqs xs)))) := hide (by rw [rpOk, hs]; rfl)
    go_wp2_with (first
      | (go_at_call 82; refine (s_l07Signal _ _ _ xs _ _ h hn).mono ?_; rintro e w' ⟨rfl, m', rfl⟩)
      | (go_at_call 119; refine (s_l07Power (h.drewN _) (by omega)).mono ?_; rintro e w' ⟨z3, rfl, hz3, m3, rfl⟩)
      | (go_at_call 118; refine (s_l01Sqrt _ _).mono ?_; rintro e w' ⟨z4, rfl, hz4, m4, rfl⟩)
      | (go_at_call 81; refine (s_l02Num (R := rootOf (fmean (sqs xs))) (by rw [hz4.out, ← rootOf_cn, hz3.out])).mono ?_; rintro e w' ⟨z5, rfl, hz5, m5, rfl⟩))
    go_ret2
    exact ⟨_, by rw [HR.out]; rfl, hide (by rw [hz5.out, rpR, HR.out]), (by repeat (first | exact Below.refl _ _ | exact below_drewN (by assumption) _ | refine below_drewN ?_ _ | refine Below.alloc ?_ (by first | (simp; done) | (simp; omega)) _ | assumption))⟩
end Go.Proofs.Yteabfkgbakoljaa
