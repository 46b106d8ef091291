/-
  The source of choices, from any place on: a number, small numbers.
-/
import Derived.Test.YtjfmjeffmnjilaaSrc
namespace Go.Proofs.Ytjfmjeffmnjilaa
open Go.RowKit Fl Mem
set_option linter.unusedVariables false
set_option maxRecDepth 100000

set_option maxHeartbeats 1000000 in
theorem s_pick1 {g : Nat} {m : Int} {w : World} (hm : m ≤ 1) : Calls Try.prog 59 #[.pointer (some ⟨g, 0, none⟩), .int .i64 m] w fun e w' => e = .returned (.int .i64 0) ∧ w' = w := by
  go_enter Try.func59, Try.ntmps59
  go_wp2
  go_ret
  exact ⟨rfl, rfl⟩
/-- A number below m, whatever m is. -/
theorem s_pickG {A : Option Addr} {n c g q B : Nat} {s m : Int} {xs : List Int} {w : World} (hb : SrcAt w g A n c q s) (h : Reads w B 1 A n (xs.map (Value.int .u8))) (hB : B ≤ g) (hx : ∀ a ∈ xs, (Lit.int .u8 a).wf = true)
    (hn : n ≤ 1048576) (hq : q ≤ 1048576) (hm : 0 < m) (hm2 : m ≤ 200) :
    Calls Try.prog 59 #[.pointer (some ⟨g, 0, none⟩), .int .i64 m] w fun e w' => ∃ (v q' : Nat) (s' : Int), e = .returned (.int .i64 (v : Int)) ∧ (v : Int) < m ∧ q' ≤ q + 1 ∧ SrcAt w' g A n c q' s' ∧ w.grownBy w' (some g) := by
  by_cases h1 : m ≤ 1
  · exact (s_pick1 h1).mono fun e w' ⟨h2, h3⟩ => ⟨0, q, s, h2, by simpa using hm, Nat.le_succ _, h3 ▸ hb, h3 ▸ World.grownBy.refl _ _⟩
  · refine (s_pick hb h hB hx hn hq (by omega) hm2).mono fun e w' ⟨v, s', h2, h3, h4, h5, h6⟩ => ?_
    obtain ⟨vk, rfl⟩ := Int.eq_ofNat_of_zero_le h3
    exact ⟨vk, q + 1, s', h2, h4, Nat.le_refl _, h5, h6⟩
set_option maxHeartbeats 2000000 in
theorem s_l07DrawOkQ {A : Option Addr} {n c g B N q : Nat} {s : Int} {xs : List Int} {w : World} (hb : SrcAt w g A n c q s) (h : Reads w B 1 A n (xs.map (Value.int .u8))) (hB : B ≤ g) (hx : ∀ a ∈ xs, (Lit.int .u8 a).wf = true)
    (hn : n ≤ 1048576) (hN : N ≤ 1000) (hq0 : q ≤ 100000) :
    Calls Try.prog 62 #[.pointer (some ⟨g, 0, none⟩), .int .i64 (N : Int)] w fun e w' => ∃ v zs, e = .returned v ∧ w'.ownsRow w.heap.size 63 1 v N (fl .f32 zs) ∧ Hid (Of qF 33 zs) ∧ (∃ s' : Int, SrcAt w' g A n c (q + N) s') ∧ w.grownBy w' (some g) := by
  have hgs := hb.lt
  go_enter Try.func62, Try.ntmps62
  go_wp2
  go_loopw [1, 5] (fun i v wr => ∃ (k : Nat) (zs : List Nat) (s' : Int), k ≤ N ∧ i = .int .i64 ((N : Int) - (k : Int)) ∧ Hid (Of qF 33 zs) ∧ SrcAt wr g A n c (q + k) s' ∧ wr.ownsRow w.heap.size 63 1 v k (fl .f32 zs) ∧ w.grownBy wr (some g)) (fun i _ _ => (intOf i).toNat)
  case atStart => exact ⟨0, [], s, Nat.zero_le _, by simp, hide (fun z hz => by cases hz), by exact hb.alloc _, own_emp rfl (Nat.le_refl _), only_alloc (World.grownBy.refl _ _) _⟩
  case round =>
    obtain ⟨k, zs, s', hk, rfl, hzs, hbk, hown, hgr⟩ := hrel
    have Hown := hide hown
    have Hbk := hide hbk
    have hsz := hgr.size
    clear hown hbk
    by_cases hlt : k < N
    · have hpos : (0 : Int) < (N : Int) - (k : Int) := by omega
      have hwb : w.heap.size ≤ wr.heap.size := hsz
      go_wp2_with (first
        | (go_at_call 59; refine (s_pick Hbk.out (h.grown hgr (by omega) (fun g' hg' => by injection hg' with hg'; omega)) hB hx hn (by omega) (by omega) (by omega)).mono ?_; rintro e w1 ⟨v, s1, rfl, v1, v2, hb1, hg1⟩; obtain ⟨vk, rfl⟩ := Int.eq_ofNat_of_zero_le v1; have hv := qF_num vk (by omega); have hq : ∀ W, flR .quo .f32 (floatOfInt .f32 ((vk : Int) - 16)) 1082130432 W = qF vk := flR_num hv.1; have hq0 : flN .quo .f32 (floatOfInt .f32 ((vk : Int) - 16)) 1082130432 = 0 := flN_num hv.1; have Hown1 := hide (Hown.out.kept hg1 (own_far Hown.out hgs)); have hsz1 : w.heap.size ≤ w1.heap.size := Nat.le_trans hsz hg1.size)
        | (at_builtin; refine wpList_append1 rfl (.tmp 11) (.tmp 17) 31 rfl w.heap.size 63 (.float .f32 0) _ 4 info_f32 Try.underlying31 rfl rfl _ _ _ rfl Hown1.out rfl rfl (by omega) (by omega) hsz1 ?_))
      intro v' w' hown' hb'
      clear hq hq0
      have HT := hide (snoc_fl hown')
      have Hb2 : Hid (SrcAt w' g A n c (q + (k + 1)) s1) := hide (Blk.below hb1 hb' hgs)
      have Hg2 : Hid (w.grownBy w' (some g)) := hide (only_below (only_trans hgr hg1) hb' (Nat.le_refl _))
      clear hown' hb' hb1
      go_wp2
      go_roundw
      case rel => exact ⟨k + 1, zs ++ [qF vk], s1, by omega, by go_num, hide (fun z hz => by
          rcases List.mem_append.1 hz with h1 | h1
          · exact hzs.out z h1
          · rw [List.mem_singleton.1 h1]; exact ⟨vk, by omega, rfl⟩), Hb2.out, HT.out, Hg2.out⟩
      case measure => simp [intOf]; omega
    · obtain rfl : k = N := by omega
      go_wp2
      go_ret
      exact ⟨_, zs, rfl, Hown.out, hzs, ⟨s', Hbk.out⟩, hgr⟩
end Go.Proofs.Ytjfmjeffmnjilaa
