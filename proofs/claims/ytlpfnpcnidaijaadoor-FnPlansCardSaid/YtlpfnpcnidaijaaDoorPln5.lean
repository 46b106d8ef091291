/-
  Sums of curves: the program's walks.
-/
import Derived.Test.YtlpfnpcnidaijaaDoorPln4
namespace Go.Proofs.YtlpfnpcnidaijaaDoor
open Go.RowKit Mem
set_option linter.unusedVariables false
set_option maxRecDepth 100000

theorem sum_succ {xs : List Int} {k : Nat} {x : Int} (h : xs[k]? = some x) : (xs.take (k + 1)).sum = (xs.take k).sum + x := by
  rw [take_eq h]; simp
set_option maxHeartbeats 1000000 in
theorem i_sumOf {A : Option Addr} {n c B : Nat} {xs : List Int} {w : World} (h : Reads w B 1 A n (il xs)) (hn : n ≤ 1000) (hx : ∀ x ∈ xs, 0 ≤ x ∧ x ≤ 45079976738816) :
    Calls Tryd.prog 22 #[.slice A n c] w fun e w' => e = .returned (.int .i64 xs.sum) ∧ w' = w := by
  have Hl := hide h.map_len
  go_enter Tryd.func22, Tryd.ntmps22
  go_wp2
  go_loopw [3, 8] (fun s i wr => ∃ k : Nat, ∃ m : Int, k ≤ n ∧ i = .int .i64 k ∧ s = .int .i64 m ∧ Hid (m = (xs.take k).sum) ∧ 0 ≤ m ∧ m ≤ k * 45079976738816 ∧ wr = w) (fun _ i _ => n - (intOf i).toNat)
  case atStart => exact ⟨0, 0, Nat.zero_le _, rfl, rfl, hide (by simp), Int.le_refl _, by omega, rfl⟩
  case round =>
    obtain ⟨k, m, hk, rfl, rfl, hm, m0, m1, rfl⟩ := hrel
    by_cases hlt : k < n
    · obtain ⟨ad, x, rfl, _, hxk, hc⟩ := h.map_at hlt
      obtain ⟨x0, x1⟩ := hx x (List.mem_of_getElem? hxk)
      have HS : Hid ((xs.take (k + 1)).sum = m + x) := hide (by rw [sum_succ hxk, ← hm.out])
      clear hxk
      go_wp2
      go_roundw
      case rel => exact ⟨k + 1, m + x, by omega, by go_num, by go_num, hide (by rw [HS.out]), by omega, by push_cast; omega, trivial⟩
      case measure => (simp [intOf]; try omega)
    · obtain rfl : k = n := by omega
      have HE : Hid (xs.sum = m) := hide (by rw [hm.out, List.take_of_length_le (by rw [Hl.out]; exact Nat.le_refl _)])
      go_wp2
      go_ret
      exact ⟨by rw [HE.out]; rfl, rfl⟩
theorem curveL_bd {L : Nat} {sz ac : Int} (h : L ≤ 40) (ha : ac ≤ 40) : ∀ x ∈ curveL L sz ac (L + 1), 0 ≤ x ∧ x ≤ 45079976738816 := by
  intro x hx
  unfold curveL at hx
  simp only [List.mem_map, List.mem_range] at hx
  obtain ⟨b, hb, rfl⟩ := hx
  exact ⟨accI_nn _ _ _ _, accI_le (by omega) (by omega) (by omega) _ ha⟩
set_option maxHeartbeats 1000000 in
theorem curves_1 {L : Nat} {sz ac : Int} {b : Nat} {w : World} (h : lotOk L sz ac = true) (h1 : w.cell? ⟨b, 0, none⟩ = some (.int .i64 sz)) (h2 : w.cell? ⟨b, 1, none⟩ = some (.int .i64 ac)) :
    Calls Tryd.prog 21 #[.int .i64 (L : Int), .pointer (some ⟨b, 0, none⟩)] w fun e w' => e = .returned (.bool false) ∧ Below w.heap.size w w' := by
  go_enter Tryd.func21, Tryd.ntmps21
  go_wp2_with fail
  refine (i_isLot h).mono ?_
  rintro e w1 ⟨rfl, hb⟩
  go_wp2
  go_ret
  exact ⟨rfl, hb⟩
set_option maxHeartbeats 1000000 in
theorem indexFunc_curves {L : Nat} {sz ac : Int} {A : Option Addr} {c B b : Nat} {w : World} (h : lotOk L sz ac = true) (hr : Reads w B 1 A 1 (il [(L : Int)])) (h1 : w.cell? ⟨b, 0, none⟩ = some (.int .i64 sz)) (h2 : w.cell? ⟨b, 1, none⟩ = some (.int .i64 ac)) :
    Calls Tryd.prog 29 #[.slice A 1 c, .func (.func 21) #[] #[.pointer (some ⟨b, 0, none⟩)]] w fun e w' => e = .returned (.int .i64 (-1)) ∧ Below w.heap.size w w' := by
  obtain ⟨ad, x, rfl, _, hx, hc⟩ := hr.map_at (k := 0) (by omega)
  obtain rfl : (L : Int) = x := by simpa using hx
  replace hc : w.cell? ad = some (.int .i64 (L : Int)) := by simpa [Addr.add] using hc
  clear hx
  go_enter Tryd.func29, Tryd.ntmps29
  go_wp2
  go_loopw [5, 8] (fun _ i wr => (i = .int .i64 0 ∧ wr = w) ∨ (i = .int .i64 1 ∧ Hid (Below w.heap.size w wr))) (fun _ i _ => 1 - (intOf i).toNat)
  case atStart => exact .inl ⟨rfl, rfl⟩
  case round =>
    rcases hrel with ⟨rfl, rfl⟩ | ⟨rfl, hb⟩
    · go_wp2_with (go_at_call 21; refine (curves_1 h h1 h2).mono ?_; rintro e w' ⟨rfl, hb⟩)
      go_roundw
      case rel => exact .inr ⟨rfl, hide hb⟩
      case measure => simp [intOf]
    · go_wp2
      go_ret
      exact ⟨rfl, hb.out⟩
theorem containsFunc_curves {L : Nat} {sz ac : Int} {A : Option Addr} {c B b : Nat} {w : World} (h : lotOk L sz ac = true) (hr : Reads w B 1 A 1 (il [(L : Int)])) (h1 : w.cell? ⟨b, 0, none⟩ = some (.int .i64 sz)) (h2 : w.cell? ⟨b, 1, none⟩ = some (.int .i64 ac)) :
    Calls Tryd.prog 20 #[.slice A 1 c, .func (.func 21) #[] #[.pointer (some ⟨b, 0, none⟩)]] w fun e w' => e = .returned (.bool false) ∧ Below w.heap.size w w' := by
  go_enter Tryd.func20, Tryd.ntmps20
  go_wp2_with (go_at_call 29; refine (indexFunc_curves h hr h1 h2).mono ?_; rintro e w' ⟨rfl, hb⟩)
  go_ret
  exact ⟨rfl, hb⟩
theorem i_areWorkers' {d : Int} {w : World} : Calls Tryd.prog 19 #[.int .i64 d] w fun e w' => e = .returned (.bool (inB d 1 8)) ∧ w = w' := by
  go_enter Tryd.func19, Tryd.ntmps19
  go_wp2_with (go_at_call 23; refine (i_within _ _ _ _).mono ?_; rintro e w' ⟨rfl, rfl⟩)
  go_ret
  exact ⟨rfl, rfl⟩
set_option maxHeartbeats 2000000 in
theorem i_CurvesShared {L : Nat} {sz ac d : Int} {A : Option Addr} {c B : Nat} {w : World} (h : lotOk L sz ac = true) (hr : Reads w B 1 A 1 (il [(L : Int)])) (hB : B ≤ w.heap.size) (d1 : 1 ≤ d) (d2 : d ≤ 8) :
    Calls Tryd.prog 7 #[.slice A 1 c, .agg #[.int .i64 sz, .int .i64 ac], .int .i64 d] w fun e w' => ∃ g cap, e = .returned (.tuple #[.slice (some ⟨g, 0, none⟩) 1 cap, .bool true]) ∧ w.heap.size ≤ g ∧ g < w'.heap.size ∧ w'.cell? ⟨g, 0, none⟩ = some (.int .i64 (curveL L sz ac (L + 1)).sum) ∧ Below w.heap.size w w' := by
  obtain ⟨r1, r2, r3, r4, r5, r6⟩ := lotOk_rng h
  have h1 : inB d 1 8 = true := by unfold inB; simp; omega
  obtain ⟨ad, x, rfl, hadb, hx, hc⟩ := hr.map_at (k := 0) (by omega)
  obtain rfl : (L : Int) = x := by simpa using hx
  replace hc : w.cell? ad = some (.int .i64 (L : Int)) := by simpa [Addr.add] using hc
  have hadl : ad.block < w.heap.size := by omega
  clear hx
  go_enter Tryd.func7, Tryd.ntmps7
  go_wp2_with fail
  refine i_areWorkers'.mono ?_
  rintro e w1 ⟨rfl, rfl⟩
  rw [h1]
  go_wp2_with fail
  refine (containsFunc_curves (B := B) h (hr.alloc hB _) (by simp) (by simp)).mono ?_
  rintro e w1 ⟨rfl, hb⟩
  have blk := (Blk.new w 26 #[.int .i64 sz, .int .i64 ac]).below hb (by simp)
  have bel := ((Below.refl w.heap.size w).alloc (Nat.le_refl _) (.cells #[.int .i64 sz, .int .i64 ac] 26)).trans (hb.mono (by simp))
  have k0 := blk.cell 0
  have k1 := blk.cell 1
  have klt := blk.lt
  have hc1 := (bel.cell hadl).trans hc
  clear hb blk hr hc
  go_wp2_with fail
  go_loopw [8, 35] (fun out i wr => (i = .int .i64 0 ∧ out = .slice (some ⟨w1.heap.size, 0, none⟩) 0 0 ∧ wr = w1.alloc (.cells #[] 2)) ∨ (i = .int .i64 1 ∧ Hid (wr.ownsRow w1.heap.size 2 1 out 1 (il [(curveL L sz ac (L + 1)).sum])) ∧ Hid (Below w1.heap.size w1 wr))) (fun _ i _ => 1 - (intOf i).toNat)
  case atStart => exact .inl ⟨rfl, rfl, rfl⟩
  case round =>
    rcases hrel with ⟨rfl, rfl, rfl⟩ | ⟨rfl, hown, hb⟩
    · have hc2 : (w1.alloc (.cells #[] 2)).cell? ad = some (.int .i64 (L : Int)) := (World.cell?_alloc_lt _ _ _ (by have := bel.size; omega)).trans hc1
      have j0 : (w1.alloc (.cells #[] 2)).cell? ⟨w.heap.size, 0, none⟩ = some (.int .i64 sz) := (World.cell?_alloc_lt _ _ _ klt).trans k0
      have j1 : (w1.alloc (.cells #[] 2)).cell? ⟨w.heap.size, 1, none⟩ = some (.int .i64 ac) := (World.cell?_alloc_lt _ _ _ klt).trans k1
      clear k0 k1 hc1
      go_wp2_with fail
      refine (i_AcceptCurve h).mono ?_
      rintro e w2 ⟨v, rfl, hown, hb⟩
      have hbl : Below w1.heap.size w1 w2 := ((Below.refl _ _).alloc (Nat.le_refl _) _).trans (hb.mono (by simp))
      have ho2 : w2.ownsRow w1.heap.size 2 1 (.slice (some ⟨w1.heap.size, 0, none⟩) 0 0) 0 [] := own_below (own_empty w1 2 1) hb
      obtain ⟨A2, c2, rfl⟩ := own_shape hown
      go_wp2_with fail
      refine (i_sumOf (Reads.of_own hown) (by omega) (curveL_bd (by omega) (by omega))).mono ?_
      rintro e w3 ⟨rfl, rfl⟩
      go_wp2_with (at_builtin; refine wpList_append1 rfl (.tmp 46) (.tmp 49) 27 rfl w1.heap.size 2 (.int .i64 0) _ 8 info_i64 Tryd.underlying27 rfl rfl _ _ _ rfl ho2 rfl rfl (by omega) (by omega) hbl.size ?_)
      intro v' w' hown' hb'
      have hbel' := hbl.trans hb'
      clear hown hb ho2 hb' hbl
      go_wp2
      go_roundw
      case rel => exact .inr ⟨rfl, hide hown', hide hbel'⟩
      case measure => simp [intOf]
    · obtain ⟨g, cp, rfl, hcell⟩ := own_head hown.out
      have hgl := hown.out.lt g rfl
      go_wp2
      go_ret2
      exact ⟨g, cp, rfl, by have := bel.size; omega, hgl.2, hcell, bel.trans (hb.out.mono bel.size)⟩
end Go.Proofs.YtlpfnpcnidaijaaDoor
