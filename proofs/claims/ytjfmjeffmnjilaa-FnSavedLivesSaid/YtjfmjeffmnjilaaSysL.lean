/-
  'least': the library's Clone, Sort and Compact at int64 by their contracts, and the program's walk.
-/
import Derived.Test.YtjfmjeffmnjilaaSysR
namespace Go.Proofs.Ytjfmjeffmnjilaa
open Go.RowKit Fl Mem Go.Sort Go.Lib Go.Shelf
set_option linter.unusedVariables false
set_option maxRecDepth 100000

theorem grownBy_put (w : World) (q g off : Nat) (d : Array Int) (os : Array Obj) : w.grownBy (grow (putRow eI (Go.Sort.ahead w q) g off d) os) (some g) := by
  refine ⟨rfl, rfl, rfl, ?_, fun k hk hne => ?_⟩
  · rw [size_grow]
    show _ ≤ (Array.modify _ _ _).size + _
    rw [Array.size_modify]
    exact Nat.le_add_right _ _
  · rw [heap_grow_old _ _ (by show k < (Array.modify _ _ _).size; rw [Array.size_modify]; exact hk)]
    show (Array.modify w.heap g _)[k]? = _
    rw [Array.getElem?_modify, if_neg (fun e => hne (by rw [e]))]
theorem below_of_grownBy {w w' : World} {g B : Nat} (h : w.grownBy w' (some g)) (hB : B ≤ g) (hs : B ≤ w.heap.size) : Below B w w' := ⟨h.os, h.tape, h.output, h.size, fun k hk => h.block k (by omega) (fun e => by injection e; omega)⟩

theorem clone_i64 {b off n c : Nat} {xs : List Int} {w : World} (hc : ∀ j u, (il xs)[j]? = some u → w.cell? ⟨b, off + j, none⟩ = some u) (hl : xs.length = n) (hn : n ≤ 1048576) :
    Calls Try.prog 102 #[.slice (some ⟨b, off, none⟩) n c] w fun e w' => ∃ g cap, e = .returned (.slice (some ⟨g, 0, none⟩) n cap) ∧ n ≤ cap ∧ w.heap.size ≤ g ∧ g < w'.heap.size ∧ Holds eI w' g 0 xs.toArray ∧ Below w.heap.size w w' := by
  obtain ⟨i0, hi, hz0, hz1, hz2⟩ := info_parts info_i64
  have h1 := AnyE.slices_Clone laysCloneI i0 (.int .i64 0) 1 8 hi hz0 hz1 hz2 rfl (by omega) Try.sizeOf2 b off n c (il xs) w (by simp [hl]) (by unfold maxLen; omega) (by omega) hc (fun u hu => by rw [List.mem_map] at hu; obtain ⟨a, _, rfl⟩ := hu; rfl)
  refine Calls.mono h1 ?_
  rintro e w' ⟨v, rfl, ho, hv, hb⟩
  obtain ⟨g, cap, rfl, hg, hlt, hcap, _, _, hH⟩ := holds_of_ownsRow (enc := eI) ho hv
  exact ⟨g, cap, rfl, hcap, hg, hlt, hH, hb⟩
theorem sort_i64 {g cap n : Nat} {xs : List Int} {w : World} (hH : Holds eI w g 0 xs.toArray) (hg : g < w.heap.size) (hl : xs.length = n) (hn : n ≤ 1048576) :
    Calls Try.prog 103 #[.slice (some ⟨g, 0, none⟩) n cap] w fun e w' => e = .returned (.tuple #[]) ∧ Holds eI w' g 0 (sortL xs).toArray ∧ w.grownBy w' (some g) := by
  subst hl
  have h1 := AnyM.slices_Sort_int laysSortI g 0 cap xs w hH hg (by omega)
  refine Calls.mono h1 ?_
  rintro e w' ⟨rfl, q, os, rfl⟩
  refine ⟨rfl, ?_, grownBy_put _ _ _ _ _ _⟩
  have h2 := holds_putRow eI (Go.Sort.ahead w q) g 0 xs.toArray (sortL xs).toArray (holds_ahead eI w q g 0 _ hH) (by simp [sortL, List.length_mergeSort])
  exact holds_grow eI _ os g 0 _ (by show g < (Array.modify _ _ _).size; rw [Array.size_modify]; exact hg) h2
theorem holds_take {w : World} {g off : Nat} {l r : List Int} (h : Holds eI w g off (l ++ r).toArray) : Holds eI w g off l.toArray := by
  intro j hj
  have hj' : j < l.length := by simpa using hj
  have h1 := h j (by simp; omega)
  rw [getElem!_pos (l ++ r).toArray j (by simp; omega)] at h1
  rw [getElem!_pos l.toArray j hj]
  simp only [List.getElem_toArray] at h1 ⊢
  rwa [List.getElem_append_left hj'] at h1
theorem compact_i64 {g cap n : Nat} {xs : List Int} {w : World} (hH : Holds eI w g 0 xs.toArray) (hg : g < w.heap.size) (hl : xs.length = n) (hn : n ≤ 1048576) (hcap : n ≤ cap) :
    Calls Try.prog 104 #[.slice (some ⟨g, 0, none⟩) n cap] w fun e w' => ∃ k, e = .returned (.slice (some ⟨g, 0, none⟩) k cap) ∧ (Go.Lib.compactUpTo xs.toArray xs.toArray.size).length = k ∧ k ≤ n ∧ Holds eI w' g 0 (Go.Lib.compactUpTo xs.toArray xs.toArray.size).toArray ∧ w.grownBy w' (some g) := by
  subst hl
  have hsz : xs.toArray.size = xs.length := by simp
  have h1 := AnyE.slices_Compact laysCompactI eI (fun _ => rfl) (EqlAt.intD _ _ _) (NeqAt.intD _ _ _) 0 Try.zeroValue2 g 0 cap xs.toArray w hH (by omega) (by omega)
  rw [hsz] at h1 ⊢
  refine Calls.mono h1 ?_
  rintro e w' ⟨rfl, q, rfl⟩
  have hle : (Go.Lib.compactUpTo xs.toArray xs.length).length ≤ xs.length := by
    unfold Go.Lib.compactUpTo
    rw [List.length_map]
    exact Nat.le_trans (List.length_filter_le _ _) (by simp)
  refine ⟨_, rfl, rfl, hle, ?_, by rw [← grow_empty (putRow _ _ _ _ _)]; exact grownBy_put _ _ _ _ _ _⟩
  have h2 := holds_putRow eI (Go.Sort.ahead w q) g 0 xs.toArray (Go.Lib.compactUpTo xs.toArray xs.length ++ List.replicate (xs.length - (Go.Lib.compactUpTo xs.toArray xs.length).length) 0).toArray (holds_ahead eI w q g 0 _ hH) (by simp; omega)
  exact holds_take h2
theorem holds_cells {w : World} {g off : Nat} {l : List Int} (h : Holds eI w g off l.toArray) : ∀ j u, (il l)[j]? = some u → w.cell? ⟨g, off + j, none⟩ = some u := by
  intro j u hu
  rw [List.getElem?_map, Option.map_eq_some_iff] at hu
  obtain ⟨a, ha, rfl⟩ := hu
  obtain ⟨hj, rfl⟩ := List.getElem?_eq_some_iff.1 ha
  have h1 := (h j (by simpa using hj)).1
  rw [getElem!_pos l.toArray j (by simpa using hj)] at h1
  simpa using h1
theorem reads_cells {w : World} {B n b off : Nat} {xs : List Int} (h : Reads w B 1 (some ⟨b, off, none⟩) n (il xs)) : ∀ j u, (il xs)[j]? = some u → w.cell? ⟨b, off + j, none⟩ = some u := by
  intro j u hu
  have hj : j < (il xs).length := (List.getElem?_eq_some_iff.1 hu).1
  have h0 := h.1
  obtain ⟨ad, e, hb, hc⟩ := h.2 (by omega)
  obtain rfl := Option.some.inj e
  rw [← Addr.add_lit]
  exact hc j u hu
theorem compL_len (l : List Int) : (compL l).length ≤ l.length := by
  unfold compL Go.Lib.compactUpTo
  rw [List.length_map]
  refine Nat.le_trans (List.length_filter_le _ _) ?_
  simp [sortL, List.length_mergeSort]
theorem leastL_len (l : List Int) : (leastL l).length ≤ l.length := Nat.le_trans (List.length_filter_le _ _) (compL_len l)
set_option maxHeartbeats 2000000 in
theorem i_least {A : Option Addr} {n c B : Nat} {xs : List Int} {w : World} (h : Reads w B 1 A n (il xs)) (hB : B ≤ w.heap.size) (h0 : 0 < n) (hn : n ≤ 1048576) :
    Calls Try.prog 82 #[.slice A n c] w fun e w' => ∃ g k cap, e = .returned (.slice (some ⟨g, 0, none⟩) k cap) ∧ Reads w' w'.heap.size 1 (some ⟨g, 0, none⟩) k (il (leastL xs)) ∧ Below w.heap.size w w' := by
  have hl : xs.length = n := h.map_len
  obtain ⟨b, off, rfl, hb⟩ := reads_addr h h0
  have Hc := hide (reads_cells h)
  clear h
  go_enter Try.func82, Try.ntmps82
  go_wp2_with fail
  refine (clone_i64 Hc.out hl hn).mono ?_
  rintro e w1 ⟨g, cap, rfl, hcap, hg, hg1, hH1, hb1⟩
  have HH1 := hide hH1
  clear hH1 Hc
  have hbel : Below w.heap.size w (w1.alloc (.cells #[.slice (some ⟨g, 0, none⟩) n cap] 28)) := hb1.alloc hb1.size _
  have B1 := hide (Blk.new w1 28 #[.slice (some ⟨g, 0, none⟩) n cap])
  have HH2 := hide (holds_bel HH1.out ((Below.refl w1.heap.size w1).alloc (Nat.le_refl _) (.cells #[.slice (some ⟨g, 0, none⟩) n cap] 28)) hg1)
  have hs1 := hb1.size
  have hgb : g ≠ w1.heap.size := by omega
  have hg2 : g < (w1.alloc (.cells #[.slice (some ⟨g, 0, none⟩) n cap] 28)).heap.size := by rw [World.size_alloc]; omega
  have hbx2 : w1.heap.size < (w1.alloc (.cells #[.slice (some ⟨g, 0, none⟩) n cap] 28)).heap.size := by rw [World.size_alloc]; omega
  clear HH1 hb1
  generalize hbx : w1.heap.size = bx at *
  go_wp2_with fail
  refine (sort_i64 HH2.out (by first | exact hg2 | omega) hl hn).mono ?_
  rintro e w2 ⟨rfl, hH3, hgr⟩
  have HH3 := hide hH3
  have B2 := hide (B1.out.grown hgr (fun e => hgb (by injection e with e; exact e.symm)))
  have hbel2 : Below w.heap.size w w2 := hbel.trans (below_of_grownBy hgr hg (by omega))
  have hg3 : g < w2.heap.size := Nat.lt_of_lt_of_le hg2 hgr.size
  have hbx3 : bx < w2.heap.size := Nat.lt_of_lt_of_le hbx2 hgr.size
  clear hH3 hgr HH2 B1 hbel hg2 hbx2
  have c2 : w2.cell? ⟨bx, 0, none⟩ = some (.slice (some ⟨g, 0, none⟩) n cap) := B2.out.cell 0
  have hls : (sortL xs).length = n := by simp [sortL, List.length_mergeSort, hl]
  go_wp2_with fail
  refine (compact_i64 HH3.out hg3 hls hn hcap).mono ?_
  rintro e w3 ⟨k, rfl, hk, hkn, hH4, hgr⟩
  have HH4 := hide hH4
  have Hk := hide hk
  have B3 := hide (B2.out.grown hgr (fun e => hgb (by injection e with e; exact e.symm)))
  have hbel3 : Below w.heap.size w w3 := hbel2.trans (below_of_grownBy hgr hg (by omega))
  have hg4 : g < w3.heap.size := Nat.lt_of_lt_of_le hg3 hgr.size
  have hbx4 : bx < w3.heap.size := Nat.lt_of_lt_of_le hbx3 hgr.size
  clear hH4 hk hgr HH3 B2 hbel2 hg3 hbx3 c2 hls
  have c3 : w3.cell? ⟨bx, 0, none⟩ = some (.slice (some ⟨g, 0, none⟩) n cap) := B3.out.cell 0
  have f3 : w3.frozen? ⟨bx, 0, none⟩ = false := B3.out.frozen 0
  have B4 := hide (B3.out.set_ 0 (.slice (some ⟨g, 0, none⟩) k cap))
  have HH5 : Hid (Holds eI (w3.setCell ⟨bx, 0, none⟩ (.slice (some ⟨g, 0, none⟩) k cap)) g 0 (compL xs).toArray) := hide (fun j hj => by
    have h1 := HH4.out j hj
    have h2 : (w3.setCell ⟨bx, 0, none⟩ (.slice (some ⟨g, 0, none⟩) k cap)).heap[g]? = w3.heap[g]? := Below.heap_setCell w3 ⟨bx, 0, none⟩ _ g hgb
    exact ⟨(World.cell?_of_block (a := ⟨g, 0 + j, none⟩) h2).trans h1.1, (World.frozen?_of_block (a := ⟨g, 0 + j, none⟩) h2).trans h1.2⟩)
  have hbel4 : Below w.heap.size w (w3.setCell ⟨bx, 0, none⟩ (.slice (some ⟨g, 0, none⟩) k cap)) := hbel3.setCell hs1 _
  have hs4 : (w3.setCell ⟨bx, 0, none⟩ (.slice (some ⟨g, 0, none⟩) k cap)).heap.size = w3.heap.size := by simp [World.setCell]
  go_wp2_with fail
  refine (clone_i64 (holds_cells HH5.out) Hk.out (by omega)).mono ?_
  rintro e w4 ⟨g2, cap2, rfl, hcap2, hgg, hg5, hH6, hb4⟩
  have HH6 := hide hH6
  have hbel5 : Below w.heap.size w w4 := hbel4.trans (hb4.mono hbel4.size)
  have hR : Reads w4 w3.heap.size 1 (some ⟨g, 0, none⟩) k (il (compL xs)) := by
    have := holds_reads HH5.out (show g < (w3.setCell ⟨bx, 0, none⟩ (.slice (some ⟨g, 0, none⟩) k cap)).heap.size by omega) Hk.out
    rw [hs4] at this
    exact this.below (by rw [← hs4]; exact hb4)
  have c4 : w4.cell? ⟨bx, 0, none⟩ = some (.slice (some ⟨g, 0, none⟩) k cap) := by
    rw [hb4.cell (show bx < _ by omega), B4.out.cell 0]
    rfl
  rw [hs4] at hgg
  have hs5 := hb4.size
  rw [hs4] at hs5
  have hd := deleteFunc_l1 (cap := cap2) hR (by unfold maxLen; omega) c4 hbx4 hgg hg5 HH6.out (by rw [show (compL xs).length = k from Hk.out]; exact hcap2) (by rw [show (compL xs).length = k from Hk.out]; omega)
  rw [show (compL xs).length = k from Hk.out] at hd
  clear hH6 hb4 hbel4 hbel3 HH5 B4 B3 HH4 f3 c3 hR c4 HH6
  go_wp2_with fail
  refine hd.mono ?_
  rintro e w5 ⟨k2, rfl, hr5, hb5⟩
  have hle : w.heap.size ≤ w3.heap.size := by omega
  have hbel6 : Below w.heap.size w w5 := hbel5.trans (hb5.mono hle)
  go_wp2
  go_ret
  exact ⟨_, _, _, rfl, hr5, hbel6⟩
end Go.Proofs.Ytjfmjeffmnjilaa
