/-
  ChainText: both sides.
-/
import Derived.Test.YtempapfphliniaaDoorLawT
namespace Go.Proofs.YtempapfphliniaaDoor
open Go.RowKit Mem Fl Go.Shelf
set_option linter.unusedVariables false
set_option maxRecDepth 100000

theorem chainOk_rng {st : Int} {xs : List Nat} (h : chainOk st xs = true) : 0 ≤ st ∧ st < 100 ∧ 1 ≤ xs.length ∧ xs.length ≤ 64 := by
  unfold chainOk at h
  simp only [Bool.and_eq_true, decide_eq_true_eq] at h
  obtain ⟨h1, h2, _⟩ := h
  have h1' := inB_iff.1 h1
  obtain ⟨q, rfl⟩ := Int.eq_ofNat_of_zero_le (show 0 ≤ st by omega)
  have h3 : xs.length = q * q := by exact_mod_cast h2
  have h4 : q * q ≤ 8 * 8 := Nat.mul_le_mul (by omega) (by omega)
  have h5 : 1 * 1 ≤ q * q := Nat.mul_le_mul (by omega) (by omega)
  omega
set_option maxHeartbeats 1000000 in
theorem i_ChainText {st : Int} {A : Option Addr} {n c : Nat} {xs : List Nat} {w : World} (h : chainOk st xs = true) (hr : Reads w w.heap.size 1 A n (fl .f32 xs)) (hn : n ≤ 1048576) (wx : ∀ a ∈ xs, Wf .f32 a) (ht : w.cell? ⟨6, 15, none⟩ = some (.int .u8 4)) :
    Calls Tryd.prog 29 #[.agg #[.int .i64 st, .slice A n c]] w fun e w' => e = .returned (.tuple #[.string (headB st (joinedB (tx xs))), .bool true]) ∧ Below w.heap.size w w' := by
  obtain ⟨r1, r2, r3, r4⟩ := chainOk_rng h
  have hl := hr.map_len
  have hlt := Go.Clock.block_lt ht
  go_enter Tryd.func29, Tryd.ntmps29
  go_wp2_with fail
  refine (i_ValidChain (xs := xs) (B := w.heap.size) (hr.alloc (Nat.le_refl _) _) (by simp) hn).mono ?_
  rintro e v1 ⟨rfl, hb⟩
  rw [h]
  have c0 : v1.cell? ⟨w.heap.size, 0, none⟩ = some (.int .i64 st) := ((Blk.new w _ _).below hb (by simp)).cell 0
  have c1 : v1.cell? ⟨w.heap.size, 1, none⟩ = some (.slice A n c) := ((Blk.new w _ _).below hb (by simp)).cell 1
  replace hb := ((Below.refl w.heap.size w).alloc (Nat.le_refl _) _).trans (hb.mono (by simp))
  have ht1 := (hb.cell (p := ⟨6, 15, none⟩) hlt).trans ht
  have hr1 := (hr.below hb).more hb.size
  go_wp2_with fail
  refine (i_headed r1 r2 hr1 wx (by omega) ht1).mono ?_
  rintro e v2 ⟨rfl, hb2⟩
  go_wp2
  go_ret2
  exact ⟨rfl, hb.trans (hb2.mono hb.size)⟩
set_option maxHeartbeats 400000 in
theorem i_ChainText_no {st : Int} {A : Option Addr} {n c : Nat} {xs : List Nat} {w : World} (h : chainOk st xs = false) (hr : Reads w w.heap.size 1 A n (fl .f32 xs)) (hn : n ≤ 1048576) :
    Calls Tryd.prog 29 #[.agg #[.int .i64 st, .slice A n c]] w fun e w' => e = .returned (.tuple #[.string ⟨#[]⟩, .bool false]) ∧ Below w.heap.size w w' := by
  go_enter Tryd.func29, Tryd.ntmps29
  go_wp2_with fail
  refine (i_ValidChain (xs := xs) (B := w.heap.size) (hr.alloc (Nat.le_refl _) _) (by simp) hn).mono ?_
  rintro e v1 ⟨rfl, hb⟩
  rw [h]
  go_wp2
  go_ret2
  exact ⟨rfl, ((Below.refl w.heap.size w).alloc (Nat.le_refl _) _).trans (hb.mono (by simp))⟩
theorem keep2 {W W' : World} {g o : Nat} {a b : Value} (hb : Below W.heap.size W W') (hg : g < W.heap.size) (K : W.cell? ⟨g, o, none⟩ = some a ∧ W.cell? ⟨g, o + 1, none⟩ = some b) :
    W'.cell? ⟨g, o, none⟩ = some a ∧ W'.cell? ⟨g, o + 1, none⟩ = some b :=
  ⟨(hb.cell hg).trans K.1, (hb.cell hg).trans K.2⟩
set_option maxHeartbeats 2000000 in
theorem s_l08Chain {g : Nat} {st : Int} {A : Option Addr} {n c : Nat} {xs : List Nat} {w : World} (h : chainOk st xs = true) (hr : Reads w w.heap.size 1 A n (fl .f32 xs)) (wx : ∀ a ∈ xs, Wf .f32 a) (hg : g < w.heap.size) (k0 : w.cell? ⟨g, 0, none⟩ = some (.int .i64 st)) (k1 : w.cell? ⟨g, 1, none⟩ = some (.slice A n c)) :
    Calls Tryd.prog 56 #[.pointer (some ⟨g, 0, none⟩)] w fun e w' => e = .returned (.string (headB st (joinedB (tx xs)))) ∧ Below w.heap.size w w' := by
  obtain ⟨r1, r2, r3, r4⟩ := chainOk_rng h
  have hl := hr.map_len
  have hz := joinedB_size xs
  obtain ⟨hs1, hs2⟩ := head_ops st (joinedB (tx xs)) (by omega) (by omega)
  have hn1 : 1 ≤ n := by omega
  have hn2 : n ≤ 100000 := by omega
  clear hz h hl r3 r4
  have ne0 := World.new_ne w _ k0
  have ne1 := World.new_ne w _ k1
  go_enter Tryd.func56, Tryd.ntmps56
  go_wp2
  go_region_held3 (fun w' => w'.cell? ⟨g, 0, none⟩ = some (.int .i64 st) ∧ w'.cell? ⟨g, 1, none⟩ = some (.slice A n c)) (first | assumption | go_keep)
    (first
      | (go_at_call 65; refine (s_l01DecS (n := st) (by omega) (by omega)).mono ?_; rintro e wd ⟨rfl, hbd⟩; have KD : wd.cell? ⟨g, 0, none⟩ = some (.int .i64 st) ∧ wd.cell? ⟨g, 1, none⟩ = some (.slice A n c) := keep2 hbd (by first | exact hg | omega | (simp; omega)) (by first | assumption | (refine ⟨?_, ?_⟩ <;> (first | assumption | go_keep))); have BD : Below w.heap.size w wd := (by first | exact below_undrew hbd | exact BN.trans (hbd.mono BN.size) | exact BN.trans ((below_undrew hbd).mono BN.size)); have hgd : g < wd.heap.size := Nat.lt_of_lt_of_le hg BD.size)
      | (go_at_call 73; refine (s_l01NText (xs := xs) ?_ wx hn1 hn2).mono ?_; (first | exact hr.drew | exact (hr.below BD).more BD.size); rintro e wn ⟨rfl, hbn⟩; have KN : wn.cell? ⟨g, 0, none⟩ = some (.int .i64 st) ∧ wn.cell? ⟨g, 1, none⟩ = some (.slice A n c) := keep2 hbn (by first | exact hgd | omega | (simp; omega)) (by first | assumption | (refine ⟨?_, ?_⟩ <;> (first | assumption | go_keep))); have BN : Below w.heap.size w wn := (by first | exact below_undrew hbn | exact BD.trans (hbn.mono BD.size)); have hgn : g < wn.heap.size := Nat.lt_of_lt_of_le hg BN.size))
  all_goals
    go_wp2
    go_ret
    exact ⟨rfl, by assumption⟩
set_option maxHeartbeats 1000000 in
theorem s_ChainText {st : Int} {A : Option Addr} {n c : Nat} {xs : List Nat} {w : World} (h : chainOk st xs = true) (hr : Reads w w.heap.size 1 A n (fl .f32 xs)) (hn : n ≤ 1048576) (wx : ∀ a ∈ xs, Wf .f32 a) :
    Calls Tryd.prog 27 #[.agg #[.int .i64 st, .slice A n c]] w fun e w' => e = .returned (.tuple #[.string (headB st (joinedB (tx xs))), .bool true]) ∧ Below w.heap.size w w' := by
  go_enter Tryd.func27, Tryd.ntmps27
  go_wp2_with fail
  refine (s_l04Is (xs := xs) (B := w.heap.size) ((Blk.new w _ _).cell 0) ((Blk.new w _ _).cell 1) (hr.alloc (Nat.le_refl _) _) (by omega)).mono ?_
  rintro e v1 ⟨rfl, m, rfl⟩
  rw [h]
  have hb0 : Below w.heap.size w ((w.alloc (.cells #[.int .i64 st, .slice A n c] 51)).drewN m) := below_drewN ((Below.refl w.heap.size w).alloc (Nat.le_refl _) _) m
  have c0 : ((w.alloc (.cells #[.int .i64 st, .slice A n c] 51)).drewN m).cell? ⟨w.heap.size, 0, none⟩ = some (.int .i64 st) := (Blk.new w _ _).cell 0
  have c1 : ((w.alloc (.cells #[.int .i64 st, .slice A n c] 51)).drewN m).cell? ⟨w.heap.size, 1, none⟩ = some (.slice A n c) := (Blk.new w _ _).cell 1
  have hr1 := (hr.below hb0).more hb0.size
  have hg1 : w.heap.size < ((w.alloc (.cells #[.int .i64 st, .slice A n c] 51)).drewN m).heap.size := by simp
  generalize (w.alloc (.cells #[.int .i64 st, .slice A n c] 51)).drewN m = W at *
  go_wp2_with fail
  refine (s_l08Chain h hr1 wx hg1 c0 c1).mono ?_
  rintro e v2 ⟨rfl, hb2⟩
  go_wp2
  go_ret2
  exact ⟨rfl, hb0.trans (hb2.mono hb0.size)⟩
set_option maxHeartbeats 400000 in
theorem s_ChainText_no {st : Int} {A : Option Addr} {n c : Nat} {xs : List Nat} {w : World} (h : chainOk st xs = false) (hr : Reads w w.heap.size 1 A n (fl .f32 xs)) (hn : n ≤ 1048576) :
    Calls Tryd.prog 27 #[.agg #[.int .i64 st, .slice A n c]] w fun e w' => e = .returned (.tuple #[.string ⟨#[]⟩, .bool false]) ∧ Below w.heap.size w w' := by
  go_enter Tryd.func27, Tryd.ntmps27
  go_wp2_with fail
  refine (s_l04Is (xs := xs) (B := w.heap.size) ((Blk.new w _ _).cell 0) ((Blk.new w _ _).cell 1) (hr.alloc (Nat.le_refl _) _) (by omega)).mono ?_
  rintro e v1 ⟨rfl, m, rfl⟩
  rw [h]
  go_wp2
  go_ret2
  exact ⟨rfl, below_drewN ((Below.refl w.heap.size w).alloc (Nat.le_refl _) _) m⟩
end Go.Proofs.YtempapfphliniaaDoor
