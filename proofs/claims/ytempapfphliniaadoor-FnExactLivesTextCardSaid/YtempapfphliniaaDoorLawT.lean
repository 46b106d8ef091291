/-
  LawText: both sides.
-/
import Derived.Test.YtempapfphliniaaDoorText2
import Derived.Test.YtempapfphliniaaDoorPlanT
import Derived.Test.YtempapfphliniaaDoorValidS
namespace Go.Proofs.YtempapfphliniaaDoor
open Go.RowKit Mem Fl Go.Shelf
set_option linter.unusedVariables false
set_option maxRecDepth 100000

/-- A number, and a text behind it. -/
def headB (n : Int) (t : ByteArray) : ByteArray := (numS n ++ ⟨#[59]⟩) ++ t
theorem joinedB_size (xs : List Nat) : (joinedB (tx xs)).size ≤ 9 * xs.length + 4 := by
  cases xs with
  | nil => decide
  | cons x xs =>
    have := nt_size (x :: xs) (x :: xs).length
    rw [nt_all (by simp)] at this
    omega
theorem head_ops (n : Int) (t : ByteArray) (hn : n.natAbs ≤ 9223372036854775808) (ht : t.size ≤ 1000000000) :
    (∀ w, (Op.stringOp .add (numS n) ⟨#[59]⟩).run Tryd.prog w = .ok (.string (numS n ++ ⟨#[59]⟩)) w) ∧ ∀ w, (Op.stringOp .add (numS n ++ ⟨#[59]⟩) t).run Tryd.prog w = .ok (.string ((numS n ++ ⟨#[59]⟩) ++ t)) w := by
  have h1 : ByteArray.size ⟨#[59]⟩ = 1 := rfl
  have h2 := numS_size hn
  exact ⟨fun w => run_string_add_sum (P := Tryd.prog) w _ _ (by omega), fun w => run_string_add_sum (P := Tryd.prog) w _ _ (by rw [ByteArray.size_append]; omega)⟩
theorem below_ad {w w' : World} {o : Obj} (h : Below (w.alloc o).heap.size (w.alloc o) w') : Below w.heap.size w w' := ((Below.refl _ _).alloc (Nat.le_refl _) o).trans (h.mono (by simp))
set_option maxHeartbeats 1000000 in
theorem i_headed {nn : Int} {A : Option Addr} {n c : Nat} {xs : List Nat} {w : World} (h0 : 0 ≤ nn) (h1 : nn < 100) (h : Reads w w.heap.size 1 A n (fl .f32 xs)) (wx : ∀ x ∈ xs, Wf .f32 x) (hn : n ≤ 256) (ht : w.cell? ⟨6, 15, none⟩ = some (.int .u8 4)) :
    Calls Tryd.prog 47 #[.int .i64 nn, .slice A n c] w fun e w' => e = .returned (.tuple #[.string (headB nn (joinedB (tx xs))), .bool true]) ∧ Below w.heap.size w w' := by
  have hl := h.map_len
  have hz := joinedB_size xs
  obtain ⟨hs1, hs2⟩ := head_ops nn (joinedB (tx xs)) (by omega) (by omega)
  clear hz hl
  go_enter Tryd.func47, Tryd.ntmps47
  go_wp2_with fail
  refine (i_NumbersText h wx hn ht).mono ?_
  rintro e w1 ⟨rfl, hb⟩
  go_wp2_with (go_at_call 38; refine (i_DecimalS _ h0 h1 _).mono ?_; rintro e w' ⟨rfl, rfl⟩)
  go_ret2
  exact ⟨rfl, hb⟩
theorem lawOk_rng {kd : Int} {sh sc : Nat} (h : lawOk kd sh sc = true) : 0 ≤ kd ∧ kd < 100 := by
  unfold lawOk at h
  simp only [Bool.and_eq_true] at h
  have := inB_iff.1 h.1
  omega
set_option maxHeartbeats 1000000 in
theorem i_LawText {kd : Int} {sh sc : Nat} {w : World} (h : lawOk kd sh sc = true) (w1 : Wf .f32 sh) (w2 : Wf .f32 sc) (ht : w.cell? ⟨6, 15, none⟩ = some (.int .u8 4)) :
    Calls Tryd.prog 20 #[.agg #[.int .i64 kd, .float .f32 sh, .float .f32 sc]] w fun e w' => e = .returned (.tuple #[.string (headB kd (joinedB (tx [sh, sc]))), .bool true]) ∧ Below w.heap.size w w' := by
  obtain ⟨r1, r2⟩ := lawOk_rng h
  have hlt := Go.Clock.block_lt ht
  go_enter Tryd.func20, Tryd.ntmps20
  go_wp2_with fail
  refine i_ValidLaw.mono ?_
  rintro e v1 ⟨rfl, hb⟩
  rw [h]
  have c0 : v1.cell? ⟨w.heap.size, 0, none⟩ = some (.int .i64 kd) := ((Blk.new w _ _).below hb (by simp)).cell 0
  have c1 : v1.cell? ⟨w.heap.size, 1, none⟩ = some (.float .f32 sh) := ((Blk.new w _ _).below hb (by simp)).cell 1
  have c2 : v1.cell? ⟨w.heap.size, 2, none⟩ = some (.float .f32 sc) := ((Blk.new w _ _).below hb (by simp)).cell 2
  replace hb := ((Below.refl w.heap.size w).alloc (Nat.le_refl _) _).trans (hb.mono (by simp))
  have ht1 := (hb.cell (p := ⟨6, 15, none⟩) hlt).trans ht
  go_wp2_with fail
  refine (i_headed (xs := [sh, sc]) r1 r2 (reads_new (Value.float .f32) v1 32 [sh, sc]) (by simp; exact ⟨w1, w2⟩) (by simp) ((World.cell?_alloc_lt _ _ _ (Nat.lt_of_lt_of_le hlt hb.size)).trans ht1)).mono ?_
  rintro e v2 ⟨rfl, hb2⟩
  go_wp2
  go_ret2
  exact ⟨rfl, (hb.alloc hb.size _).trans (hb2.mono (by simp; have := hb.size; omega))⟩
set_option maxHeartbeats 400000 in
theorem i_LawText_no {kd : Int} {sh sc : Nat} {w : World} (h : lawOk kd sh sc = false) : Calls Tryd.prog 20 #[.agg #[.int .i64 kd, .float .f32 sh, .float .f32 sc]] w fun e w' => e = .returned (.tuple #[.string ⟨#[]⟩, .bool false]) ∧ Below w.heap.size w w' := by
  go_enter Tryd.func20, Tryd.ntmps20
  go_wp2_with fail
  refine i_ValidLaw.mono ?_
  rintro e v1 ⟨rfl, hb⟩
  rw [h]
  go_wp2
  go_ret2
  exact ⟨rfl, ((Below.refl w.heap.size w).alloc (Nat.le_refl _) _).trans (hb.mono (by simp))⟩
theorem keep3 {W W' : World} {g o : Nat} {a b c : Value} (hb : Below W.heap.size W W') (hg : g < W.heap.size) (K : W.cell? ⟨g, o, none⟩ = some a ∧ W.cell? ⟨g, o + 1, none⟩ = some b ∧ W.cell? ⟨g, o + 2, none⟩ = some c) :
    W'.cell? ⟨g, o, none⟩ = some a ∧ W'.cell? ⟨g, o + 1, none⟩ = some b ∧ W'.cell? ⟨g, o + 2, none⟩ = some c :=
  ⟨(hb.cell hg).trans K.1, (hb.cell hg).trans K.2.1, (hb.cell hg).trans K.2.2⟩
set_option maxHeartbeats 2000000 in
theorem s_l08Law {g : Nat} {kd : Int} {sh sc : Nat} {w : World} (h : lawOk kd sh sc = true) (w1 : Wf .f32 sh) (w2 : Wf .f32 sc) (hg : g < w.heap.size) (k0 : w.cell? ⟨g, 0, none⟩ = some (.int .i64 kd)) (k1 : w.cell? ⟨g, 1, none⟩ = some (.float .f32 sh)) (k2 : w.cell? ⟨g, 2, none⟩ = some (.float .f32 sc)) :
    Calls Tryd.prog 45 #[.pointer (some ⟨g, 0, none⟩)] w fun e w' => e = .returned (.string (headB kd (joinedB (tx [sh, sc])))) ∧ Below w.heap.size w w' := by
  obtain ⟨r1, r2⟩ := lawOk_rng h
  have hz := joinedB_size [sh, sc]
  obtain ⟨hs1, hs2⟩ := head_ops kd (joinedB (tx [sh, sc])) (by omega) (by simp at hz; omega)
  clear hz h
  have wx : ∀ x ∈ [sh, sc], Wf .f32 x := by simp; exact ⟨w1, w2⟩
  have ne0 := World.new_ne w _ k0
  have ne1 := World.new_ne w _ k1
  have ne2 := World.new_ne w _ k2
  go_enter Tryd.func45, Tryd.ntmps45
  go_wp2
  go_region_held3 (fun w' => w'.cell? ⟨g, 0, none⟩ = some (.int .i64 kd) ∧ w'.cell? ⟨g, 1, none⟩ = some (.float .f32 sh) ∧ w'.cell? ⟨g, 2, none⟩ = some (.float .f32 sc)) (first | assumption | go_keep)
    (first
      | (go_at_call 65; refine (s_l01DecS (n := kd) (by omega) (by omega)).mono ?_; rintro e wd ⟨rfl, hbd⟩; have KD : wd.cell? ⟨g, 0, none⟩ = some (.int .i64 kd) ∧ wd.cell? ⟨g, 1, none⟩ = some (.float .f32 sh) ∧ wd.cell? ⟨g, 2, none⟩ = some (.float .f32 sc) := keep3 hbd (by first | exact hg | omega | (simp; omega)) (by first | assumption | (refine ⟨?_, ?_, ?_⟩ <;> (first | assumption | go_keep))); have BD : Below w.heap.size w wd := (by first | exact below_undrew hbd | exact below_ad (below_undrew hbd) | exact BN.trans (hbd.mono BN.size) | exact BN.trans ((below_undrew hbd).mono BN.size)); have hgd : g < wd.heap.size := Nat.lt_of_lt_of_le hg BD.size)
      | (go_at_call 73; refine (s_l01NText (xs := [sh, sc]) ?_ wx (by decide) (by decide)).mono ?_; (first | exact reads_new (Value.float .f32) _ 32 [sh, sc] | exact (reads_new (Value.float .f32) _ 32 [sh, sc]).drew | exact ((reads_new (Value.float .f32) _ 32 [sh, sc]).below (below_undrew hbd)).more (below_undrew hbd).size); rintro e wn ⟨rfl, hbn⟩; have KN : wn.cell? ⟨g, 0, none⟩ = some (.int .i64 kd) ∧ wn.cell? ⟨g, 1, none⟩ = some (.float .f32 sh) ∧ wn.cell? ⟨g, 2, none⟩ = some (.float .f32 sc) := keep3 hbn (by first | exact hgd | omega | (simp; omega)) (by first | assumption | (refine ⟨?_, ?_, ?_⟩ <;> (first | assumption | go_keep))); have BN : Below w.heap.size w wn := (by first | exact below_undrew hbn | exact below_ad (below_undrew hbn) | exact BD.trans (hbn.mono BD.size) | exact (BD.alloc BD.size _).trans (hbn.mono (by simp; have := BD.size; omega))); have hgn : g < wn.heap.size := Nat.lt_of_lt_of_le hg BN.size))
  all_goals
    go_wp2
    go_ret
    exact ⟨rfl, by first | assumption | (exact BD.alloc BD.size _)⟩
set_option maxHeartbeats 1000000 in
theorem s_LawText {kd : Int} {sh sc : Nat} {w : World} (h : lawOk kd sh sc = true) (w1 : Wf .f32 sh) (w2 : Wf .f32 sc) :
    Calls Tryd.prog 18 #[.agg #[.int .i64 kd, .float .f32 sh, .float .f32 sc]] w fun e w' => e = .returned (.tuple #[.string (headB kd (joinedB (tx [sh, sc]))), .bool true]) ∧ Below w.heap.size w w' := by
  go_enter Tryd.func18, Tryd.ntmps18
  go_wp2_with fail
  refine (s_l02Law (kd := kd) (sh := sh) (sc := sc) ((Blk.new w _ _).cell 0) ((Blk.new w _ _).cell 1) ((Blk.new w _ _).cell 2)).mono ?_
  rintro e v1 ⟨rfl, hb⟩
  rw [h]
  have c0 : v1.cell? ⟨w.heap.size, 0, none⟩ = some (.int .i64 kd) := ((Blk.new w _ _).below hb (by simp)).cell 0
  have c1 : v1.cell? ⟨w.heap.size, 1, none⟩ = some (.float .f32 sh) := ((Blk.new w _ _).below hb (by simp)).cell 1
  have c2 : v1.cell? ⟨w.heap.size, 2, none⟩ = some (.float .f32 sc) := ((Blk.new w _ _).below hb (by simp)).cell 2
  have hz := hb.size
  simp at hz
  replace hb := ((Below.refl w.heap.size w).alloc (Nat.le_refl _) _).trans (hb.mono (by simp))
  go_wp2_with fail
  refine (s_l08Law h w1 w2 (by omega) c0 c1 c2).mono ?_
  rintro e v2 ⟨rfl, hb2⟩
  go_wp2
  go_ret2
  exact ⟨rfl, hb.trans (hb2.mono hb.size)⟩
set_option maxHeartbeats 400000 in
theorem s_LawText_no {kd : Int} {sh sc : Nat} {w : World} (h : lawOk kd sh sc = false) : Calls Tryd.prog 18 #[.agg #[.int .i64 kd, .float .f32 sh, .float .f32 sc]] w fun e w' => e = .returned (.tuple #[.string ⟨#[]⟩, .bool false]) ∧ Below w.heap.size w w' := by
  go_enter Tryd.func18, Tryd.ntmps18
  go_wp2_with fail
  refine (s_l02Law (kd := kd) (sh := sh) (sc := sc) ((Blk.new w _ _).cell 0) ((Blk.new w _ _).cell 1) ((Blk.new w _ _).cell 2)).mono ?_
  rintro e v1 ⟨rfl, hb⟩
  rw [h]
  go_wp2
  go_ret2
  exact ⟨rfl, ((Below.refl w.heap.size w).alloc (Nat.le_refl _) _).trans (hb.mono (by simp))⟩
end Go.Proofs.YtempapfphliniaaDoor
