/-
  What the laws do with systems with signals: copies, sizes, comparisons.
-/
import Derived.Test.YtjfmjeffmnjilaaSvP
import Derived.Test.YtjfmjeffmnjilaaKit
import Derived.BigQuiet
import Derived.Deep.RegionWith
namespace Go.Proofs.Ytjfmjeffmnjilaa
open Go.RowKit Fl Mem
set_option linter.unusedVariables false
set_option maxRecDepth 100000

set_option maxHeartbeats 400000 in
theorem l_toInt64S {A : Option Addr} {n c B : Nat} {xs : List Int} {w : World} (h : Reads w B 1 A n (il xs)) (hB : B ≤ w.heap.size) (hn : n * 8 ≤ 281474976710656) :
    Calls Try.prog 79 #[.slice A n c] w fun e w' => ∃ g, e = .returned (.slice (some ⟨g, 0, none⟩) n n) ∧ w'.ownsRow w.heap.size 2 1 (.slice (some ⟨g, 0, none⟩) n n) n (il xs) ∧ Below w.heap.size w w' := by
  have hlen := h.map_len
  have hmk : ∀ W : World, (Instr.makeSlice 28 (.int .i64 (n : Int)) (.int .i64 (n : Int))).run Try.prog W = .ok (.slice (some ⟨W.heap.size, 0, none⟩) n n) (W.alloc (.cells (part (Value.int .i64) (.int .i64 0) xs n 0) 2)) := by
    intro W
    rw [part_zero]
    exact run_make1 28 2 _ 8 info_i64 Try.underlying28 rfl n (by omega) (by omega) W
  have Hlen := hide hlen
  clear hlen
  go_enter Try.func79, Try.ntmps79
  go_wp2
  have hb0 : Below w.heap.size w (w.alloc (.cells (part (Value.int .i64) (.int .i64 0) xs n 0) 2)) := (Below.refl _ _).alloc (Nat.le_refl _) _
  go_loopw [4] (fun i wr => ∃ k : Nat, k ≤ n ∧ i = .int .i64 k ∧ Blk wr w.heap.size 2 (part (Value.int .i64) (.int .i64 0) xs n k) ∧ Below w.heap.size w wr) (fun i _ => n - (intOf i).toNat)
  case atStart => exact ⟨0, Nat.zero_le _, rfl, Blk.new _ _ _, hb0⟩
  case round =>
    obtain ⟨k, hk, rfl, hblk, hbel⟩ := hrel
    clear hb0
    by_cases hlt : k < n
    · obtain ⟨ad, x, rfl, hadb, hx, hc⟩ := (h.below (hbel.mono hB)).map_at hlt
      have Hx := hide hx
      have c1 : wr.cell? ⟨w.heap.size, k, none⟩ = some (.int .i64 0) := by rw [hblk.cell]; exact part_at Hlen.out hlt
      have c2 : wr.frozen? ⟨w.heap.size, k, none⟩ = false := hblk.frozen k
      have Hblk := hide hblk
      clear hx hblk
      go_wp2
      go_roundw
      case rel => exact ⟨k + 1, by omega, by go_num, by rw [← part_set Hlen.out hlt Hx.out]; exact Hblk.out.set_ k _, hbel.setCell (Nat.le_refl _) _⟩
      case measure => simp [intOf]; omega
    · go_wp2
      go_ret
      obtain rfl : k = n := by omega
      exact ⟨_, rfl, own_of_blk (by rw [← part_all (z := .int .i64 0) Hlen.out]; exact hblk) (Nat.le_refl _) (by simp [Hlen.out]) (by simp [maxLen]; omega), hbel⟩
set_option maxHeartbeats 1000000 in
theorem l_toSystem {st : Int} {A : Option Addr} {n c B : Nat} {xs : List Int} {w : World} (h : Reads w B 1 A n (il xs)) (hB : B ≤ w.heap.size) (hn : n ≤ 1048576) :
    Calls Try.prog 46 #[sysV st A n c] w fun e w' => ∃ g, e = .returned (sysV st (some ⟨g, 0, none⟩) n n) ∧ w'.ownsRow w.heap.size 2 1 (.slice (some ⟨g, 0, none⟩) n n) n (il xs) ∧ Below w.heap.size w w' := by
  have R1 := fun o1 o2 o3 => ((h.alloc hB o1).alloc (by simp; omega) o2).alloc (by simp; omega) o3
  go_enter Try.func46, Try.ntmps46
  go_wp2_with fail
  refine (l_toInt64S (R1 _ _ _) (by simp; omega) (by omega)).mono ?_
  rintro e w1 ⟨g, rfl, ho, hb⟩
  have B1 := (((blk_new' (w.alloc _) (w.heap.size + 1) _ _ (by simp)).alloc _).below hb (by simp) : Blk w1 (w.heap.size + 1) 36 _)
  have B2 := ((blk_new' ((w.alloc _).alloc _) (w.heap.size + 1 + 1) _ _ (by simp)).below hb (by simp) : Blk w1 (w.heap.size + 1 + 1) 36 _)
  have c0 : w1.cell? ⟨w.heap.size + 1 + 1, 0, none⟩ = some (.int .i64 st) := B2.cell 0
  have c1 : w1.cell? ⟨w.heap.size + 1 + 1, 1, none⟩ = some (.slice none 0 0) := B2.cell 1
  have f1 : w1.frozen? ⟨w.heap.size + 1 + 1, 1, none⟩ = false := B2.frozen 1
  have d0 : w1.cell? ⟨w.heap.size + 1, 0, none⟩ = some (.int .i64 0) := B1.cell 0
  have d1 : w1.cell? ⟨w.heap.size + 1, 1, none⟩ = some (.slice none 0 0) := B1.cell 1
  have e0 : w1.frozen? ⟨w.heap.size + 1, 0, none⟩ = false := B1.frozen 0
  have e1 : w1.frozen? ⟨w.heap.size + 1, 1, none⟩ = false := B1.frozen 1
  have BB1 := hide B1
  have BB2 := hide B2
  clear B1 B2
  go_wp2
  refine bodyPost_ret (results_cell_row (P := Try.prog) rfl _ _ (w.heap.size + 1) 36 _ (0, 0) _ rfl (((BB1.out.far (by simp) _).set_ 0 _).set_ 1 _) Try.underlying36 rfl (by kernel_rfl)) rfl ?_
  have hw := fun o1 o2 o3 => (((Below.refl w.heap.size w).alloc (Nat.le_refl _) o1).alloc (by simp) o2).alloc (by simp; omega) o3
  exact ⟨g, rfl, own_up (own_put (own_put (own_put ho (by first | (simp; done) | (simp; omega)) _) (by first | (simp; done) | (simp; omega)) _) (by first | (simp; done) | (simp; omega)) _) (by first | (simp; done) | (simp; omega)), ((((hw _ _ _).trans (hb.mono (by first | (simp; done) | (simp; omega)))).setCell (by first | (simp; done) | (simp; omega)) _).setCell (by first | (simp; done) | (simp; omega)) _).setCell (by first | (simp; done) | (simp; omega)) _⟩
theorem l_szSystem {A : Option Addr} {n c : Nat} {st left : Int} {w : World} (h0 : 0 ≤ left) (h1 : left ≤ 1048576) (hn : n ≤ 9223372036854775807) : Calls Try.prog 43 #[sysV st A n c, .int .i64 left] w fun e w' => e = .returned (.int .i64 (szR left n)) ∧ Below w.heap.size w w' := by
  by_cases h : (n : Int) ≤ left
  · have i1 : ¬ left - (n : Int) < 0 := by omega
    have Hs := szR_yes h
    go_enter Try.func43, Try.ntmps43
    go_wp2_with (go_at_call 75; refine (l_szInt64S h0 h1 hn).mono ?_; rintro e w' ⟨rfl, rfl⟩; rw [Hs])
    go_ret
    exact ⟨ret_int Hs.symm, (by repeat (first | exact Below.refl _ _ | exact below_drewN (by assumption) _ | refine below_drewN ?_ _ | refine Below.alloc ?_ (by first | (simp; done) | (simp; omega)) _ | assumption))⟩
  · have Hs := szR_no h
    go_enter Try.func43, Try.ntmps43
    go_wp2_with (go_at_call 75; refine (l_szInt64S h0 h1 hn).mono ?_; rintro e w' ⟨rfl, rfl⟩; rw [Hs])
    go_ret
    exact ⟨ret_int Hs.symm, (by repeat (first | exact Below.refl _ _ | exact below_drewN (by assumption) _ | refine below_drewN ?_ _ | refine Below.alloc ?_ (by first | (simp; done) | (simp; omega)) _ | assumption))⟩
theorem l_eqSystem (s : Int) {A A' : Option Addr} {n n' c c' B B' : Nat} {xs : List Int} {w : World} (h : Reads w B 1 A n (il xs)) (h' : Reads w B' 1 A' n' (il xs)) (hB : B ≤ w.heap.size) (hB' : B' ≤ w.heap.size) (hn : n ≤ 1099511627776) :
    Calls Try.prog 51 #[sysV s A n c, sysV s A' n' c'] w fun e w' => e = .returned (.bool true) ∧ Below w.heap.size w w' := by
  have hs : (s != s) = false := by simp
  have R1 := fun o1 o2 => (h.alloc hB o1).alloc (by simp; omega) o2
  have R2 := fun o1 o2 => (h'.alloc hB' o1).alloc (by simp; omega) o2
  go_enter Try.func51, Try.ntmps51
  go_wp2_with (go_at_call 84; refine (eqInt64S_eq _ _ _ _ _ _ xs B B' _ (R1 _ _) (R2 _ _) (by unfold maxLen; omega)).mono ?_; rintro e w' ⟨rfl, m, rfl⟩)
  go_ret
  exact ⟨rfl, (by repeat (first | exact Below.refl _ _ | exact below_drewN (by assumption) _ | refine below_drewN ?_ _ | refine Below.alloc ?_ (by first | (simp; done) | (simp; omega)) _ | assumption))⟩

/-- The lists of one that was made here. -/
structure SvOwn (w : World) (b : Nat) (s : Sv) : Prop where
  paths : w.ownsRow b 2 1 (.slice s.PA s.pn s.pc) s.pn (il s.ps)
  sig : w.ownsRow b 63 1 (.slice s.SA s.sn s.sc) s.sn (fl .f32 s.xs)
  wf : ∀ a ∈ s.xs, Wf .f32 a
  wfi : ∀ a ∈ s.ps, (Lit.int .i64 a).wf = true
  wfp : (Lit.int .i64 s.parts).wf = true
theorem SvOwn.put {w : World} {b : Nat} {s : Sv} (h : SvOwn w b s) {p : Addr} (hp : p.block < b) (u : Value) : SvOwn (w.setCell p u) b s := ⟨own_put h.paths hp u, own_put h.sig hp u, h.wf, h.wfi, h.wfp⟩
theorem SvOwn.below {w w' : World} {b : Nat} {s : Sv} (h : SvOwn w b s) (hb : Below w.heap.size w w') : SvOwn w' b s := ⟨own_below h.paths hb, own_below h.sig hb, h.wf, h.wfi, h.wfp⟩
theorem SvOwn.up {w : World} {b b' : Nat} {s : Sv} (h : SvOwn w b s) (hb : b' ≤ b) : SvOwn w b' s := ⟨own_up h.paths hb, own_up h.sig hb, h.wf, h.wfi, h.wfp⟩
theorem SvOwn.ok {w : World} {b : Nat} {s : Sv} (h : SvOwn w b s) : SvOk w w.heap.size s := ⟨Reads.of_own h.paths, Reads.of_own h.sig, h.wf, h.wfi, h.wfp⟩
set_option maxHeartbeats 4000000 in
theorem l_toSaved {nm : ByteArray} {parts : Int} {PA SA : Option Addr} {pn pc sn sc B : Nat} {ps : List Int} {xs : List Nat} {w : World} (h : SvOk w B ⟨nm, parts, PA, pn, pc, ps, SA, sn, sc, xs⟩) (hB : B ≤ w.heap.size) (hp : pn ≤ 1048576) (hs : sn ≤ 1048576) :
    Calls Try.prog 18 #[.agg #[.string nm, .int .i64 parts, .slice PA pn pc, .slice SA sn sc]] w fun e w' => ∃ g1 g2, e = .returned (.agg #[.string nm, .int .i64 parts, .slice (some ⟨g1, 0, none⟩) pn pn, .slice (some ⟨g2, 0, none⟩) sn sn]) ∧
      SvOwn w' w.heap.size ⟨nm, parts, some ⟨g1, 0, none⟩, pn, pn, ps, some ⟨g2, 0, none⟩, sn, sn, xs⟩ ∧ Below w.heap.size w w' := by
  have R1 := fun o1 o2 o3 => ((h.paths.alloc hB o1).alloc (by simp; omega) o2).alloc (by simp; omega) o3
  have R2 := fun o1 o2 o3 => ((h.sig.alloc hB o1).alloc (by simp; omega) o2).alloc (by simp; omega) o3
  have W1 := hide h.wf
  have W2 := hide h.wfi
  have W3 := hide h.wfp
  clear h
  go_enter Try.func18, Try.ntmps18
  go_wp2_with fail
  refine (l_toSystem (B := B) (R1 _ _ _) ?sc hp).mono ?_
  case sc => first | (simp; done) | (simp; omega)
  rintro e w1 ⟨g1, rfl, ho1, hb1⟩
  have HA : Hid (Blk w1 (w.heap.size) 33 #[.string nm, .int .i64 parts, .slice PA pn pc, .slice SA sn sc]) := hide (Blk.below (((blk_new' w (w.heap.size) _ _ rfl).alloc _).alloc _) hb1 (by first | (simp; done) | (simp; omega)))
  have HR : Hid (Blk w1 (w.heap.size + 1) 38 #[.string .empty, .int .i64 0, .slice none 0 0, .slice none 0 0]) := hide (Blk.below ((blk_new' (w.alloc _) (w.heap.size + 1) _ _ (by first | (simp; done) | (simp; omega))).alloc _) hb1 (by first | (simp; done) | (simp; omega)))
  have HO : Hid (Blk w1 (w.heap.size + 1 + 1) 38 #[.string nm, .int .i64 0, .slice none 0 0, .slice none 0 0]) := hide (Blk.below (blk_new' ((w.alloc _).alloc _) (w.heap.size + 1 + 1) _ _ (by first | (simp; done) | (simp; omega))) hb1 (by first | (simp; done) | (simp; omega)))
  have hw1 : Below w.heap.size w w1 := Below.trans ((((Below.refl w.heap.size w).alloc (Nat.le_refl _) _).alloc (by first | (simp; done) | (simp; omega)) _).alloc (by first | (simp; done) | (simp; omega)) _) (hb1.mono (by first | (simp; done) | (simp; omega)))
  have hs1 : w.heap.size + 3 ≤ w1.heap.size := by have := hb1.size; simp at this; omega
  have hl1 := hide (own_up ho1 (show w.heap.size + 3 ≤ _ by simp))
  have HR2 := hide ((R2 _ _ _).below (hb1.mono (by first | (simp; done) | (simp; omega))))
  clear hb1 ho1 R1 R2
  have p3 : w1.cell? ⟨w.heap.size, 3, none⟩ = some (.slice SA sn sc) := HA.out.cell 3
  have o1 : w1.cell? ⟨w.heap.size + 1 + 1, 1, none⟩ = some (.int .i64 0) := HO.out.cell 1
  have of1 : w1.frozen? ⟨w.heap.size + 1 + 1, 1, none⟩ = false := HO.out.frozen 1
  have o2 : w1.cell? ⟨w.heap.size + 1 + 1, 2, none⟩ = some (.slice none 0 0) := HO.out.cell 2
  have of2 : w1.frozen? ⟨w.heap.size + 1 + 1, 2, none⟩ = false := HO.out.frozen 2
  go_wp2_with fail
  refine (toFloat32S SA sn sc xs B _ (Reads.setCell (Reads.setCell HR2.out ?s1 _) ?s2 _) ?s3 ?s4).mono ?_
  case s1 => first | (simp; done) | (simp; omega)
  case s2 => first | (simp; done) | (simp; omega)
  case s3 => first | (simp; done) | (simp; omega)
  case s4 => omega
  rintro e w2 ⟨g2, rfl, ho2, hb2⟩
  clear p3 o1 of1 o2 of2
  replace HR : Hid (Blk w2 (w.heap.size + 1) 38 #[.string .empty, .int .i64 0, .slice none 0 0, .slice none 0 0]) := hide (Blk.below ((HR.out.far (by first | (simp; done) | (simp; omega)) _).far (by first | (simp; done) | (simp; omega)) _) hb2 (by first | (simp; done) | (simp; omega)))
  replace HO : Hid (Blk w2 (w.heap.size + 1 + 1) 38 #[.string nm, .int .i64 parts, .slice (some ⟨g1, 0, none⟩) pn pn, .slice none 0 0]) := hide (Blk.below ((HO.out.set_ 1 _).set_ 2 _) hb2 (by first | (simp; done) | (simp; omega)))
  have hw2 : Below w.heap.size w w2 := ((hw1.setCell (by first | (simp; done) | (simp; omega)) _).setCell (by first | (simp; done) | (simp; omega)) _).trans (hb2.mono (by first | (simp; done) | (simp; omega)))
  have hs2 : w.heap.size + 3 ≤ w2.heap.size := by have := hb2.size; simp at this; omega
  have hl2 := hide (own_below (own_put (own_put hl1.out (by first | (simp; done) | (simp; omega)) _) (by first | (simp; done) | (simp; omega)) _) hb2)
  have hr2 := hide (own_up ho2 (show w.heap.size + 3 ≤ _ by simp; omega))
  clear hb2 hw1 hl1 ho2 HR2 HA
  have o0 : w2.cell? ⟨w.heap.size + 1 + 1, 0, none⟩ = some (.string nm) := HO.out.cell 0
  have o1 : w2.cell? ⟨w.heap.size + 1 + 1, 1, none⟩ = some (.int .i64 parts) := HO.out.cell 1
  have o2 : w2.cell? ⟨w.heap.size + 1 + 1, 2, none⟩ = some (.slice (some ⟨g1, 0, none⟩) pn pn) := HO.out.cell 2
  have o3 : w2.cell? ⟨w.heap.size + 1 + 1, 3, none⟩ = some (.slice none 0 0) := HO.out.cell 3
  have of3 : w2.frozen? ⟨w.heap.size + 1 + 1, 3, none⟩ = false := HO.out.frozen 3
  have q0 : w2.cell? ⟨w.heap.size + 1, 0, none⟩ = some (.string .empty) := HR.out.cell 0
  have qf0 : w2.frozen? ⟨w.heap.size + 1, 0, none⟩ = false := HR.out.frozen 0
  have q1 : w2.cell? ⟨w.heap.size + 1, 1, none⟩ = some (.int .i64 0) := HR.out.cell 1
  have qf1 : w2.frozen? ⟨w.heap.size + 1, 1, none⟩ = false := HR.out.frozen 1
  have q2 : w2.cell? ⟨w.heap.size + 1, 2, none⟩ = some (.slice none 0 0) := HR.out.cell 2
  have qf2 : w2.frozen? ⟨w.heap.size + 1, 2, none⟩ = false := HR.out.frozen 2
  have q3 : w2.cell? ⟨w.heap.size + 1, 3, none⟩ = some (.slice none 0 0) := HR.out.cell 3
  have qf3 : w2.frozen? ⟨w.heap.size + 1, 3, none⟩ = false := HR.out.frozen 3
  go_wp2
  refine bodyPost_ret (results_cell_row (P := Try.prog) rfl _ _ (w.heap.size + 1) 38 #[.string nm, .int .i64 parts, .slice (some ⟨g1, 0, none⟩) pn pn, .slice (some ⟨g2, 0, none⟩) sn sn] (0, 0) _ rfl ?_ Try.underlying38 rfl (by kernel_rfl)) rfl ?_
  · exact (((((HR.out.far (by first | (simp; done) | (simp; omega)) _).set_ 0 _).set_ 1 _).set_ 2 _).set_ 3 _)
  · exact ⟨g1, g2, rfl, ⟨own_up (own_put (own_put (own_put (own_put (own_put hl2.out (by first | (simp; done) | (simp; omega)) _) (by first | (simp; done) | (simp; omega)) _) (by first | (simp; done) | (simp; omega)) _) (by first | (simp; done) | (simp; omega)) _) (by first | (simp; done) | (simp; omega)) _) (by omega), own_up (own_put (own_put (own_put (own_put (own_put hr2.out (by first | (simp; done) | (simp; omega)) _) (by first | (simp; done) | (simp; omega)) _) (by first | (simp; done) | (simp; omega)) _) (by first | (simp; done) | (simp; omega)) _) (by first | (simp; done) | (simp; omega)) _) (by omega), W1.out, W2.out, W3.out⟩, (((((hw2.setCell (by first | (simp; done) | (simp; omega)) _).setCell (by first | (simp; done) | (simp; omega)) _).setCell (by first | (simp; done) | (simp; omega)) _).setCell (by first | (simp; done) | (simp; omega)) _).setCell (by first | (simp; done) | (simp; omega)) _)⟩

theorem info_saved : (Try.prog.info? 38).map (fun i => (i.zero, i.size, i.bytes)) = some (some (.agg #[.string .empty, .int .i64 0, .slice none 0 0, .slice none 0 0]), 4, 72) := by kernel_rfl
/-- One that is empty. -/
def sv0 : Sv := ⟨.empty, 0, none, 0, 0, [], none, 0, 0, []⟩
theorem noSaved_made (n : Nat) : madeCells (Value.agg #[.string .empty, .int .i64 0, .slice none 0 0, .slice none 0 0]).cells (n * 4) = (svC (List.replicate n sv0)).toArray := by
  unfold madeCells
  apply Array.ext_getElem?
  intro i
  rcases Nat.lt_or_ge i (n * 4) with h | h
  · have hx : (List.replicate n sv0)[i / 4]? = some sv0 := by rw [List.getElem?_replicate]; rw [if_pos (by omega)]
    obtain ⟨h1, h2, h3, h4⟩ := svC_at hx
    have hr : ((svC (List.replicate n sv0)).toArray)[i]? = (svC (List.replicate n sv0))[i]? := by simp
    rw [hr, Array.getElem?_map, Array.getElem?_range, if_pos h]
    have h5 : i % 4 = 0 ∨ i % 4 = 1 ∨ i % 4 = 2 ∨ i % 4 = 3 := by omega
    rcases h5 with hm | hm | hm | hm
    · rw [show i / 4 * 4 = i by omega] at h1
      rw [h1]
      simp [hm, Value.cells, sv0]
    · rw [show i / 4 * 4 + 1 = i by omega] at h2
      rw [h2]
      simp [hm, Value.cells, sv0]
    · rw [show i / 4 * 4 + 2 = i by omega] at h3
      rw [h3]
      simp [hm, Value.cells, sv0]
    · rw [show i / 4 * 4 + 3 = i by omega] at h4
      rw [h4]
      simp [hm, Value.cells, sv0]
  · rw [Array.getElem?_eq_none (by simp; omega), Array.getElem?_eq_none (by simp [svC_len]; omega)]
theorem svC_set (ts r : List Sv) (z s : Sv) {k : Nat} (hk : ts.length = k) : (((((svC (ts ++ z :: r)).toArray.setIfInBounds (k * 4) (.string s.nm)).setIfInBounds (k * 4 + 1) (.int .i64 s.parts)).setIfInBounds (k * 4 + 2) (.slice s.PA s.pn s.pc)).setIfInBounds (k * 4 + 3) (.slice s.SA s.sn s.sc)) = (svC (ts ++ s :: r)).toArray := by
  subst hk
  rw [svC_append, svC_append]
  simp only [List.setIfInBounds_toArray]
  have e : ∀ (j : Nat) (l : List Value) (u : Value), (svC ts ++ l).set (ts.length * 4 + j) u = svC ts ++ l.set j u := fun j l u => by
    rw [List.set_append_right _ _ (by rw [svC_len]; omega), svC_len]
    congr 2
    omega
  have e0 := fun l u => e 0 l u
  simp only [Nat.add_zero] at e0
  rw [e0, e, e, e]
  rfl
theorem svC_cell {ts r : List Sv} {z : Sv} {k : Nat} (hk : ts.length = k) : (svC (ts ++ z :: r)).toArray[k * 4]? = some (.string z.nm) ∧ (svC (ts ++ z :: r)).toArray[k * 4 + 1]? = some (.int .i64 z.parts) ∧ (svC (ts ++ z :: r)).toArray[k * 4 + 2]? = some (.slice z.PA z.pn z.pc) ∧ (svC (ts ++ z :: r)).toArray[k * 4 + 3]? = some (.slice z.SA z.sn z.sc) := by
  have hx : (ts ++ z :: r)[k]? = some z := by subst hk; simp
  have := svC_at hx
  simpa using this
set_option maxHeartbeats 4000000 in
theorem l_toSavedS {A : Option Addr} {n c B : Nat} {ss : List Sv} {w : World} (h : SvR w B A n ss) (hB : B ≤ w.heap.size) (hn : n ≤ 1048576) (hl : ∀ s ∈ ss, SvLe 1048576 s) :
    Calls Try.prog 13 #[.slice A n c] w fun e w' => ∃ g ts, e = .returned (.slice (some ⟨g, 0, none⟩) n n) ∧ SvR w' w'.heap.size (some ⟨g, 0, none⟩) n ts ∧ ts.map svT = ss.map svT ∧ (∀ s ∈ ts, SvLe 1048576 s) ∧ w.heap.size ≤ g ∧ Below w.heap.size w w' := by
  have Hl := hide h.len
  have hmk : ∀ W : World, (Instr.makeSlice 25 (.int .i64 (n : Int)) (.int .i64 (n : Int))).run Try.prog W = .ok (.slice (some ⟨W.heap.size, 0, none⟩) n n) (W.alloc (.cells (svC (List.replicate n sv0)).toArray 38)) := by
    intro W
    obtain ⟨i0, hi, hz0, hz1, hz2⟩ := info_parts info_saved
    have h1 := run_make_rowN (P := Try.prog) 25 38 i0 _ Try.underlying25 hi hz0 .i64 .i64 n n (Nat.le_refl _) (by rw [hz2]; omega) (by omega) W
    rw [hz1, noSaved_made] at h1
    exact h1
  go_enter Try.func13, Try.ntmps13
  go_wp2
  go_loopw [4] (fun i wr => ∃ (k : Nat) (ts : List Sv), k ≤ n ∧ i = .int .i64 k ∧ ts.map svT = (ss.take k).map svT ∧ Blk wr w.heap.size 38 (svC (ts ++ List.replicate (n - k) sv0)).toArray ∧ (∀ s ∈ ts, SvOwn wr (w.heap.size + 1) s ∧ SvLe 1048576 s) ∧ Below w.heap.size w wr) (fun i _ => n - (intOf i).toNat)
  case atStart => exact ⟨0, [], Nat.zero_le _, rfl, rfl, Blk.new _ _ _, (fun s hs => by cases hs), (by repeat (first | exact Below.refl _ _ | exact below_drewN (by assumption) _ | refine below_drewN ?_ _ | refine Below.alloc ?_ (by first | (simp; done) | (simp; omega)) _ | assumption))⟩
  case round =>
    obtain ⟨k, ts, hk, rfl, hts, hblk, hown, hbel⟩ := hrel
    have hlen : ts.length = k := by
      have h1 := congrArg List.length hts
      simp [Hl.out] at h1
      omega
    have Hblk := hide hblk
    have Hown := hide hown
    have Hts := hide hts
    have Hlen := hide hlen
    have hsz1 := hblk.lt
    clear hown hts hlen hblk
    have hsz := hbel.size
    by_cases hlt : k < n
    · obtain ⟨ad, s, rfl, hab, hx, o1, c0, c1, c2, c3⟩ := (h.below (hbel.mono hB)).at hlt
      have hle := hl s (List.mem_of_getElem? hx)
      rcases s with ⟨nm, parts, PA, pn, pc, ps, SA, sn, sc, xs⟩
      have l1 : pn ≤ 1048576 := hle.pn
      have l2 : sn ≤ 1048576 := hle.sn
      have l3 : nm.size ≤ 1048576 := hle.nm
      have Hx := hide hx
      have i1 : (0 : Int) ≤ k := by omega
      have i2 : (k : Int) < n := by omega
      clear hx hle
      dsimp only at c0 c1 c2 c3
      go_wp2_with fail
      refine (l_toSaved (B := B) o1 (by omega) l1 l2).mono ?_
      rintro e w1 ⟨g1, g2, rfl, ho, hb⟩
      have hr : List.replicate (n - k) sv0 = sv0 :: List.replicate (n - (k + 1)) sv0 := by rw [show n - k = n - (k + 1) + 1 by omega]; rfl
      have hblk1 := Hblk.out.below hb hsz1
      rw [hr] at hblk1
      obtain ⟨d0, d1, d2, d3⟩ := svC_cell (ts := ts) (r := List.replicate (n - (k + 1)) sv0) (z := sv0) Hlen.out
      have e0 : w1.cell? ⟨w.heap.size, k * 4, none⟩ = some (.string .empty) := (hblk1.cell _).trans d0
      have e1 : w1.cell? ⟨w.heap.size, k * 4 + 1, none⟩ = some (.int .i64 0) := (hblk1.cell _).trans d1
      have e2 : w1.cell? ⟨w.heap.size, k * 4 + 2, none⟩ = some (.slice none 0 0) := (hblk1.cell _).trans d2
      have e3 : w1.cell? ⟨w.heap.size, k * 4 + 3, none⟩ = some (.slice none 0 0) := (hblk1.cell _).trans d3
      have f0 : w1.frozen? ⟨w.heap.size, k * 4, none⟩ = false := hblk1.frozen _
      have f1 : w1.frozen? ⟨w.heap.size, k * 4 + 1, none⟩ = false := hblk1.frozen _
      have f2 : w1.frozen? ⟨w.heap.size, k * 4 + 2, none⟩ = false := hblk1.frozen _
      have f3 : w1.frozen? ⟨w.heap.size, k * 4 + 3, none⟩ = false := hblk1.frozen _
      have hbel1 : Below w.heap.size w w1 := hbel.trans (hb.mono hsz)
      have Hown1 : Hid (∀ s ∈ ts ++ [⟨nm, parts, some ⟨g1, 0, none⟩, pn, pn, ps, some ⟨g2, 0, none⟩, sn, sn, xs⟩], SvOwn w1 (w.heap.size + 1) s ∧ SvLe 1048576 s) := hide (fun s hs => by
        rcases List.mem_append.1 hs with hs | hs
        · exact ⟨(Hown.out s hs).1.below hb, (Hown.out s hs).2⟩
        · obtain rfl := List.mem_singleton.1 hs
          exact ⟨ho.up (by omega), ⟨l3, l1, l2⟩⟩)
      have Hblk1 := hide hblk1
      clear hb ho d0 d1 d2 d3 hr hblk1 Hblk Hown
      go_wp2
      go_roundw
      case rel => exact ⟨k + 1, ts ++ [⟨nm, parts, some ⟨g1, 0, none⟩, pn, pn, ps, some ⟨g2, 0, none⟩, sn, sn, xs⟩], by omega, by go_num, by
          rw [take_eq Hx.out, List.map_append, List.map_append, Hts.out]; rfl, by
          have h9 := (((Hblk1.out.set_ (k * 4) (.string nm)).set_ (k * 4 + 1) (.int .i64 parts)).set_ (k * 4 + 2) (.slice (some ⟨g1, 0, none⟩) pn pn)).set_ (k * 4 + 3) (.slice (some ⟨g2, 0, none⟩) sn sn)
          have h8 := svC_set ts (List.replicate (n - (k + 1)) sv0) sv0 ⟨nm, parts, some ⟨g1, 0, none⟩, pn, pn, ps, some ⟨g2, 0, none⟩, sn, sn, xs⟩ Hlen.out
          rw [List.append_assoc]
          exact h8 ▸ h9, fun s hs => ⟨((((Hown1.out s hs).1.put (by simp) _).put (by simp) _).put (by simp) _).put (by simp) _, (Hown1.out s hs).2⟩,
          (((hbel1.setCell (Nat.le_refl _) _).setCell (Nat.le_refl _) _).setCell (Nat.le_refl _) _).setCell (Nat.le_refl _) _⟩
      case measure => simp [intOf]; omega
    · go_wp2
      go_ret
      obtain rfl : k = n := by omega
      have hb9 := Hblk.out
      rw [Nat.sub_self, List.replicate_zero, List.append_nil] at hb9
      refine ⟨_, ts, rfl, ⟨⟨by rw [svC_len, Hlen.out], fun _ => ⟨_, rfl, hsz1, fun j u hu => ?_⟩⟩, fun s hs => (Hown.out s hs).1.ok⟩, ?_, fun s hs => (Hown.out s hs).2, Nat.le_refl _, hbel⟩
      · rw [Addr.add_lit, Nat.zero_add, hb9.cell j]
        simpa using hu
      · rw [Hts.out, List.take_of_length_le (by rw [Hl.out]; exact Nat.le_refl _)]

theorem box_cell1 {w w3 : World} {c1 : Array Value} {t1 : TypeId} (hb : Below (w.alloc (.cells c1 t1)).heap.size (w.alloc (.cells c1 t1)) w3) (i : Nat) : w3.cell? ⟨w.heap.size, i, none⟩ = c1[i]? := by
  rw [hb.cell (by simp)]
  exact Blk.cell (Blk.new w t1 c1) i
set_option maxHeartbeats 1000000 in
theorem l_szSaved {nm : ByteArray} {parts : Int} {PA SA : Option Addr} {pn pc sn sc : Nat} {left : Int} {w : World} (h0 : 0 ≤ left) (h1 : left ≤ 1048576) (hp : pn ≤ 9223372036854775807) (hs : sn ≤ 9223372036854775807) (hz : nm.size ≤ 9223372036854775807) :
    Calls Try.prog 16 #[.agg #[.string nm, .int .i64 parts, .slice PA pn pc, .slice SA sn sc], .int .i64 left] w fun e w' => ∃ r : Int, e = .returned (.int .i64 r) ∧ (r < 0 ∨ (0 ≤ r ∧ r = left - nm.size - pn - sn)) ∧ Below w.heap.size w w' := by
  by_cases hn : (nm.size : Int) ≤ left
  · have i1 : ¬ left - (nm.size : Int) < 0 := by omega
    by_cases h : (pn : Int) ≤ left - nm.size
    · have Hs := szR_yes h
      have i0 : 0 ≤ left - (nm.size : Int) := by omega
      have i2 : ¬ left - (nm.size : Int) - pn < 0 := by omega
      have i3 : 0 ≤ left - (nm.size : Int) - pn := by omega
      by_cases h' : (sn : Int) ≤ left - nm.size - pn
      · have Hs' := szR_yes h'
        have i4 : ¬ left - (nm.size : Int) - pn - sn < 0 := by omega
        go_enter Try.func16, Try.ntmps16
        go_wp2_with (first | (go_at_call 43; refine (l_szSystem i0 (by omega) hp).mono ?_; rintro e w1 ⟨rfl, hb⟩; rw [Hs]; have hb1 : w1.cell? ⟨w.heap.size, 3, none⟩ = some (.slice SA sn sc) := box_cell1 hb 3) | (go_at_call 44; refine (l_szFloat32S i3 (by omega) hs).mono ?_; rintro e w' ⟨rfl, rfl⟩; rw [Hs']))
        go_ret
        exact ⟨_, rfl, .inr ⟨by omega, rfl⟩, (below_al' (Nat.le_refl _) _).trans (hb.mono (by simp))⟩
      · have Hs' := szR_no h'
        go_enter Try.func16, Try.ntmps16
        go_wp2_with (first | (go_at_call 43; refine (l_szSystem i0 (by omega) hp).mono ?_; rintro e w1 ⟨rfl, hb⟩; rw [Hs]; have hb1 : w1.cell? ⟨w.heap.size, 3, none⟩ = some (.slice SA sn sc) := box_cell1 hb 3) | (go_at_call 44; refine (l_szFloat32S i3 (by omega) hs).mono ?_; rintro e w' ⟨rfl, rfl⟩; rw [Hs']))
        go_ret
        exact ⟨_, rfl, .inl (by omega), (below_al' (Nat.le_refl _) _).trans (hb.mono (by simp))⟩
    · have Hs := szR_no h
      have i0 : 0 ≤ left - (nm.size : Int) := by omega
      go_enter Try.func16, Try.ntmps16
      go_wp2_with (go_at_call 43; refine (l_szSystem i0 (by omega) hp).mono ?_; rintro e w1 ⟨rfl, hb⟩; rw [Hs])
      go_ret
      exact ⟨_, rfl, .inl (by omega), (below_al' (Nat.le_refl _) _).trans (hb.mono (by simp))⟩
  · have i1 : left - (nm.size : Int) < 0 := by omega
    go_enter Try.func16, Try.ntmps16
    go_wp2
    go_ret
    exact ⟨_, rfl, .inl (by omega), below_al' (Nat.le_refl _) _⟩
end Go.Proofs.Ytjfmjeffmnjilaa
