/-
  The contracts that the law calls, in the state that its walk keeps.
-/
import Derived.Test.YtjmpldcnhjgpkaaGreatDoorTpE
import Derived.Test.YtjmpldcnhjgpkaaGreatDoorBrg
import Derived.Test.YtjmpldcnhjgpkaaGreatDoorValid
import Derived.Test.YtjmpldcnhjgpkaaGreatDoorDkD
import Derived.Test.YtjmpldcnhjgpkaaGreatDoorDkF
namespace Go.Proofs.YtjmpldcnhjgpkaaGreatDoor
open Go.RowKit Mem Fl Go.Shelf
set_option linter.unusedVariables false
set_option maxRecDepth 100000

theorem tpLong_no {A A' : Option Addr} {n n' c c' : Nat} {w : World} (h : n ≤ 48) (h' : n' ≤ 48) : Calls Tryz.prog 4 #[.slice A n c, .slice A' n' c'] w fun e w' => e = .returned (.bool false) ∧ w = w' := by
  have h1 : ¬ (48 : Int) < (n : Int) := by omega
  have h2 : decide ((48 : Int) < (n : Int)) = false := by simpa using h1
  have h3 : decide ((48 : Int) < (n' : Int)) = false := by simp; omega
  clear h h' h1
  go_enter Tryz.func4, Tryz.ntmps4
  go_wp2
  go_ret
  exact ⟨rfl, rfl⟩
theorem tpLong_yes {A A' : Option Addr} {n n' c c' : Nat} {w : World} (h : 48 < n ∨ 48 < n') : Calls Tryz.prog 4 #[.slice A n c, .slice A' n' c'] w fun e w' => e = .returned (.bool true) ∧ w = w' := by
  by_cases h1 : 48 < n
  · have h2 : decide ((48 : Int) < (n : Int)) = true := by simp; omega
    clear h h1
    go_enter Tryz.func4, Tryz.ntmps4
    go_wp2
    go_ret
    exact ⟨rfl, rfl⟩
  · have h2 : decide ((48 : Int) < (n : Int)) = false := by simp; omega
    have h3 : decide ((48 : Int) < (n' : Int)) = true := by simp; omega
    clear h h1
    go_enter Tryz.func4, Tryz.ntmps4
    go_wp2
    go_ret
    exact ⟨rfl, rfl⟩
def TpR (m : Int) (w : World) (e : Ending) (w' : World) : Prop := w = w' ∧ ∃ v : Int, e = .returned (.int .i64 v) ∧ 0 ≤ v ∧ v < m
theorem tpAt_cell {ad : Addr} {n c k : Nat} {m b : Int} {w : World} (hc : w.cell? (ad.add k) = some (.int .u8 b)) (b0 : 0 ≤ b) (b1 : b ≤ 255) (hk : k < n) (hn : n ≤ 48) (h1 : 1 ≤ m) (hm : m ≤ 1000) :
    Calls Tryz.prog 6 #[.slice (some ad) n c, .int .i64 (k : Int), .int .i64 m] w (TpR m w) := by
  by_cases h1 : m ≤ 1
  · go_enter Tryz.func6, Tryz.ntmps6
    go_wp2
    go_ret
    exact ⟨rfl, 0, rfl, Int.le_refl _, by omega⟩
  · have h3 : ¬ (n : Int) ≤ (k : Int) := by omega
    have h4 : (1 : Int) < m := by omega
    have h5 := Int.emod_nonneg b (b := m) (by omega)
    have h6 := Int.emod_lt_of_pos b (b := m) (by omega)
    go_enter Tryz.func6, Tryz.ntmps6
    go_wp2
    go_ret
    exact ⟨rfl, b % m, rfl, h5, h6⟩
theorem tpAt_out {A : Option Addr} {n c k : Nat} {m : Int} {w : World} (hk : n ≤ k) (hn : n ≤ 48) (hk2 : k ≤ 1000) (h0 : 1 ≤ m) (hm : m ≤ 1000) :
    Calls Tryz.prog 6 #[.slice A n c, .int .i64 (k : Int), .int .i64 m] w (TpR m w) := by
  have h3 : (n : Int) ≤ (k : Int) := by omega
  by_cases h1 : m ≤ 1
  · go_enter Tryz.func6, Tryz.ntmps6
    go_wp2
    go_ret
    exact ⟨rfl, 0, rfl, Int.le_refl _, by omega⟩
  · go_enter Tryz.func6, Tryz.ntmps6
    go_wp2
    go_ret
    exact ⟨rfl, 0, rfl, Int.le_refl _, by omega⟩
theorem tpAt {A : Option Addr} {n c B k : Nat} {m : Int} {xs : List Int} {w : World} (h : Reads w B 1 A n (xs.map (Value.int .u8))) (hx : ∀ a ∈ xs, (Lit.int .u8 a).wf = true) (hn : n ≤ 48) (hk : k ≤ 1000) (h0 : 1 ≤ m) (hm : m ≤ 1000) :
    Calls Tryz.prog 6 #[.slice A n c, .int .i64 (k : Int), .int .i64 m] w (TpR m w) := by
  by_cases h2 : k < n
  · obtain ⟨ad, x, e, _, hxk, hc⟩ := h.map_at h2
    subst e
    have := hx x (List.mem_of_getElem? hxk)
    have h1 : IntKind.min .u8 = 0 := by decide
    have h3 : IntKind.max .u8 = 255 := by decide
    simp only [Lit.wf, Bool.and_eq_true, decide_eq_true_eq, h1, h3] at this
    exact tpAt_cell hc this.1 this.2 h2 hn h0 hm
  · exact tpAt_out (by omega) hn hk h0 hm
/-- What the walk keeps: the law's own desk, the variables, and what was there. -/
structure Tp (w : World) (g : Nat) (LA : Option Addr) (ln lc : Nat) (RA : Option Addr) (rn rc : Nat) (D : Dk) (W : World) : Prop where
  b : Blk W g 34 (dkC LA ln lc RA rn rc D)
  r : DkR W 0 W.heap.size LA ln RA rn rc D
  G : Gl W
  h : Below w.heap.size w W
section
variable {w W W' : World} {g : Nat} {LA : Option Addr} {ln lc : Nat} {RA : Option Addr} {rn rc : Nat} {D : Dk}
theorem Tp.step (h : Tp w g LA ln lc RA rn rc D W) (hb : Below W.heap.size W W') : Tp w g LA ln lc RA rn rc D W' :=
  ⟨h.b.below hb h.b.lt, (h.r.below hb (Nat.le_refl _)).more hb.size, h.G.below hb, h.h.trans (hb.mono h.h.size)⟩
theorem Tp.al (h : Tp w g LA ln lc RA rn rc D W) (o : Obj) : Tp w g LA ln lc RA rn rc D (W.alloc o) := h.step ((Below.refl _ _).alloc (Nat.le_refl _) o)
theorem Tp.drewN (h : Tp w g LA ln lc RA rn rc D W) (k : Nat) : Tp w g LA ln lc RA rn rc D (W.drewN k) := h.step (below_drewN (Below.refl _ _) k)
/-- One number's text. -/
theorem tp_num {x : Nat} (H : Tp w g LA ln lc RA rn rc D W) (wx : Wf .f32 x) (o : TypeId) : Calls Tryz.prog 11 #[.slice (some ⟨W.heap.size, 0, none⟩) 1 1] (W.alloc (.cells #[.float .f32 x] o)) fun e w' => e = .returned (.tuple #[.string (numT [x]), .bool true]) ∧ Below W.heap.size W w' := by
  refine (i_NumbersText (c := 1) (xs := [x]) (w := W.alloc (.cells #[.float .f32 x] o)) (reads_new (Value.float .f32) W o [x]) (by intro y hy; rw [List.mem_singleton] at hy; subst hy; exact wx) (by simp) (H.al _).G.db).mono ?_
  rintro e w' ⟨rfl, hb⟩
  exact ⟨rfl, ((Below.refl W.heap.size W).alloc (Nat.le_refl _) _).trans (hb.mono (by simp))⟩
/-- Two values' text. -/
theorem tp_two {a b : Int} (H : Tp w g LA ln lc RA rn rc D W) (o : TypeId) : Calls Tryz.prog 22 #[.slice (some ⟨W.heap.size, 0, none⟩) 2 2] (W.alloc (.cells #[.int .i64 a, .int .i64 b] o)) fun e w' => e = .returned (.tuple #[.string (listS [a, b]), .bool (twoOk a b)]) ∧ Below W.heap.size W w' := by
  have e2 : ([a, b].all valIn) = twoOk a b := by unfold twoOk; simp
  rw [← e2]
  refine (i_ListText (c := 2) (xs := [a, b]) (w := W.alloc (.cells #[.int .i64 a, .int .i64 b] o)) (reads_new (Value.int .i64) W o [a, b]) (by simp) (H.al _).G.pw).mono ?_
  rintro e w' ⟨rfl, hb⟩
  exact ⟨rfl, ((Below.refl W.heap.size W).alloc (Nat.le_refl _) _).trans (hb.mono (by simp))⟩
theorem tp_table (H : Tp w g LA ln lc RA rn rc D W) (hG : Good D) : Calls Tryz.prog 18 #[.slice LA ln lc] W fun e w' => ∃ A m c ys, e = .returned (.tuple #[.slice A m c, .bool true]) ∧ Reads w' w'.heap.size 1 A m (fl .f32 ys) ∧ (∀ y ∈ ys, Wf .f32 y) ∧ m ≤ 8 ∧ numT ys = tabT D.lv ∧ Below W.heap.size W w' := by
  have hln : D.lv.length = ln := lives_len H.r.l
  have l8 := hG.l8
  have hm : (fails (srt D.lv (ln - 1))).length ≤ 8 := by
    have h3 := fails_len (srt D.lv (ln - 1)) []
    rw [srt_len] at h3
    unfold fails
    simp only [List.length_nil] at h3
    omega
  refine (i_SurvivorTable (c := lc) H.r.l (Nat.le_refl _) H.r.l1 (by omega) hG.lv).mono ?_
  rintro e w1 ⟨v, ys, rfl, hO, hy, hw, hb⟩
  have ht : numT ys = tabT D.lv := by rw [← hln] at hy; exact tabT_of hy
  rcases hO with ho | ⟨b, rfl, h0, rfl⟩
  · obtain ⟨A, c, rfl⟩ := own_shape ho
    exact ⟨A, _, c, ys, rfl, Reads.of_own ho, hw, hm, ht, hb⟩
  · exact ⟨some b, 0, 0, [], rfl, ⟨by simp [fl], fun h => absurd h (by omega)⟩, hw, by omega, ht, hb⟩
theorem tp_bal {n : Nat} (H : Tp w g LA ln lc RA rn rc D W) (hn : n * n = D.rs.length) (hw : Cw n D.rs) : Calls Tryz.prog 20 #[.agg #[.int .i64 (n : Int), .slice RA rn rc]] W fun e w' => ∃ A c, e = .returned (.tuple #[.slice A n c, .bool true]) ∧ Reads w' w'.heap.size 1 A n (fl .f32 (balL D.rs n)) ∧ Below W.heap.size W w' := by
  have hrn : D.rs.length = rn := H.r.r.map_len
  refine (i_BalanceOf (c := rc) H.r.r (by omega) H.r.rc hw).mono ?_
  rintro e w1 ⟨v, rfl, hO, hb⟩
  obtain ⟨A, c, rfl⟩ := own_shape hO
  exact ⟨A, c, rfl, Reads.of_own hO, hb⟩
theorem tp_many {A : Option Addr} {m c : Nat} {ys : List Nat} (H : Tp w g LA ln lc RA rn rc D W) (hR : Reads W W.heap.size 1 A m (fl .f32 ys)) (hw : ∀ y ∈ ys, Wf .f32 y) (hm : m ≤ 256) : Calls Tryz.prog 11 #[.slice A m c] W fun e w' => e = .returned (.tuple #[.string (numT ys), .bool true]) ∧ Below W.heap.size W w' :=
  i_NumbersText hR hw hm H.G.db
end
theorem sameDk_refl (xs : List (Nat × Bool)) (kd : Int) (sh sc : Nat) (st : Int) (rs : List Nat) (sz ac : Int) : sameDk xs xs kd kd sh sc sh sc st st rs rs sz ac sz ac = true := by
  have h : sameL rs rs = true := by unfold sameL; simp
  unfold sameDk sameLv sameLawB sameCh samePl sameN
  simp [h]
theorem tp_new (w : World) : Calls Tryz.prog 14 #[] w fun e w' => ∃ v, e = .returned v ∧ DkV w' v D0 ∧ Below w.heap.size w w' := by
  refine (i_NewDesk w).mono ?_
  rintro e w' ⟨g1, g2, _, rfl, h1, h2, hb⟩
  exact ⟨_, rfl, ⟨some ⟨g1, 0, none⟩, 3, 3, some ⟨g2, 0, none⟩, 4, 4, rfl, dkr_own (D := D0) h1 h2 (by omega) (by omega) (by omega) (by omega)⟩, hb⟩
end Go.Proofs.YtjmpldcnhjgpkaaGreatDoor

/-
  The law's string sums; the byte that a choice reads (printed by gen/top_strings.py).
-/
namespace Go.Proofs.YtjmpldcnhjgpkaaGreatDoor
open Go.RowKit Mem Fl Go.Shelf
set_option linter.unusedVariables false
set_option maxRecDepth 100000

theorem tpAt_fix {A : Option Addr} {n c k : Nat} {m : Int} {xs : List Int} (hl : xs.length = n) (hx : ∀ a ∈ xs, (Lit.int .u8 a).wf = true) (hn : n ≤ 48) (hk : k ≤ 1000) (h0 : 1 ≤ m) (hm : m ≤ 1000) :
    ∃ v : Int, 0 ≤ v ∧ v < m ∧ ∀ (W : World), Reads W W.heap.size 1 A n (xs.map (Value.int .u8)) → Calls Tryz.prog 6 #[.slice A n c, .int .i64 (k : Int), .int .i64 m] W fun e w' => e = .returned (.int .i64 v) ∧ Below W.heap.size W w' := by
  by_cases h1 : m ≤ 1
  · refine ⟨0, Int.le_refl _, by omega, fun W hR => (tpAt (c := c) hR hx hn hk h0 hm).mono ?_⟩
    rintro e w' ⟨rfl, v, rfl, a, b⟩
    have : v = 0 := by omega
    subst this
    exact ⟨rfl, Below.refl _ _⟩
  by_cases h2 : k < n
  · have hxk : xs[k]? = some xs[k] := List.getElem?_eq_getElem (by omega)
    generalize xs[k] = x at hxk
    have hw := hx x (List.mem_of_getElem? hxk)
    have e1 : IntKind.min .u8 = 0 := by decide
    have e3 : IntKind.max .u8 = 255 := by decide
    simp only [Lit.wf, Bool.and_eq_true, decide_eq_true_eq, e1, e3] at hw
    refine ⟨x % m, Int.emod_nonneg x (by omega), Int.emod_lt_of_pos x (by omega), fun W hR => ?_⟩
    obtain ⟨ad, x', e, _, hxk', hc⟩ := hR.map_at h2
    rw [hxk] at hxk'
    injection hxk' with hxk'
    subst e hxk'
    have b0 := hw.1
    have b1 := hw.2
    have h3 : ¬ (n : Int) ≤ (k : Int) := by omega
    have h4 : (1 : Int) < m := by omega
    have h5 := Int.emod_nonneg x (b := m) (by omega)
    have h6 := Int.emod_lt_of_pos x (b := m) (by omega)
    clear hw hR hxk hx
    go_enter Tryz.func6, Tryz.ntmps6
    go_wp2
    go_ret
    exact ⟨rfl, Below.refl _ _⟩
  · refine ⟨0, Int.le_refl _, by omega, fun W hR => ?_⟩
    have h3 : (n : Int) ≤ (k : Int) := by omega
    clear hR hx
    go_enter Tryz.func6, Tryz.ntmps6
    go_wp2
    go_ret
    exact ⟨rfl, Below.refl _ _⟩
theorem add_run {a b : ByteArray} {m n : Nat} (ha : a.size ≤ m) (hb : b.size ≤ n) (h : m + n ≤ 1000000) : ∃ s, (∀ W, (Op.stringOp .add a b).run Tryz.prog W = .ok (.string s) W) ∧ s.size ≤ m + n ∧ s = a ++ b :=
  ⟨_, fun W => run_string_add_sum (P := Tryz.prog) W _ _ (by omega), by rw [ByteArray.size_append]; omega, rfl⟩
theorem script_runs {a b c e f t : ByteArray} (ha : a.size ≤ 1000) (hb : b.size ≤ 1000) (hc : c.size ≤ 1000) (he : e.size ≤ 1000) (hf : f.size ≤ 1000) (ht : t.size ≤ 1000) :
    ∃ s1 s2 s3 s4 s5 s6 s7 s8 s9 s10 s11 s12 s13 s14 : ByteArray, (∀ W, (Op.stringOp .add (⟨#[108, 105, 118, 101, 115, 32]⟩ : ByteArray) a).run Tryz.prog W = .ok (.string s1) W) ∧ (∀ W, (Op.stringOp .add s1 (⟨#[10, 108, 97, 119, 32]⟩ : ByteArray)).run Tryz.prog W = .ok (.string s2) W) ∧ (∀ W, (Op.stringOp .add s2 b).run Tryz.prog W = .ok (.string s3) W) ∧ (∀ W, (Op.stringOp .add s3 (⟨#[10, 99, 104, 97, 105, 110, 32]⟩ : ByteArray)).run Tryz.prog W = .ok (.string s4) W) ∧ (∀ W, (Op.stringOp .add s4 c).run Tryz.prog W = .ok (.string s5) W) ∧ (∀ W, (Op.stringOp .add s5 (⟨#[10, 112, 108, 97, 110, 32]⟩ : ByteArray)).run Tryz.prog W = .ok (.string s6) W) ∧ (∀ W, (Op.stringOp .add s6 e).run Tryz.prog W = .ok (.string s7) W) ∧ (∀ W, (Op.stringOp .add s7 (⟨#[10, 108, 105, 118, 101, 115, 10, 108, 97, 119, 10, 99, 104, 97, 105, 110, 10, 112, 108, 97, 110, 10, 102, 97, 105, 108, 101, 100, 10, 116, 111, 116, 97, 108, 10, 116, 111, 116, 97, 108, 115, 10, 116, 97, 98, 108, 101, 10, 115, 117, 114, 118, 105, 118, 101, 115, 32]⟩ : ByteArray)).run Tryz.prog W = .ok (.string s8) W) ∧ (∀ W, (Op.stringOp .add s8 f).run Tryz.prog W = .ok (.string s9) W) ∧ (∀ W, (Op.stringOp .add s9 (⟨#[10, 98, 97, 108, 97, 110, 99, 101, 10, 97, 99, 99, 101, 112, 116, 32]⟩ : ByteArray)).run Tryz.prog W = .ok (.string s10) W) ∧ (∀ W, (Op.stringOp .add s10 t).run Tryz.prog W = .ok (.string s11) W) ∧ (∀ W, (Op.stringOp .add s11 (⟨#[10, 108, 111, 111, 107, 115, 32]⟩ : ByteArray)).run Tryz.prog W = .ok (.string s12) W) ∧ (∀ W, (Op.stringOp .add s12 t).run Tryz.prog W = .ok (.string s13) W) ∧ (∀ W, (Op.stringOp .add s13 (⟨#[10, 111, 114, 100, 101, 114, 10]⟩ : ByteArray)).run Tryz.prog W = .ok (.string s14) W) ∧
      s14.size ≤ 15000 ∧ s14 = scriptB a b c e f t := by
  obtain ⟨s1, r1, z1, e1⟩ := add_run (a := (⟨#[108, 105, 118, 101, 115, 32]⟩ : ByteArray)) (b := a) (show (⟨#[108, 105, 118, 101, 115, 32]⟩ : ByteArray).size ≤ 100 by decide) ha (by omega)
  obtain ⟨s2, r2, z2, e2⟩ := add_run (a := s1) (b := (⟨#[10, 108, 97, 119, 32]⟩ : ByteArray)) z1 (show (⟨#[10, 108, 97, 119, 32]⟩ : ByteArray).size ≤ 100 by decide) (by omega)
  obtain ⟨s3, r3, z3, e3⟩ := add_run (a := s2) (b := b) z2 hb (by omega)
  obtain ⟨s4, r4, z4, e4⟩ := add_run (a := s3) (b := (⟨#[10, 99, 104, 97, 105, 110, 32]⟩ : ByteArray)) z3 (show (⟨#[10, 99, 104, 97, 105, 110, 32]⟩ : ByteArray).size ≤ 100 by decide) (by omega)
  obtain ⟨s5, r5, z5, e5⟩ := add_run (a := s4) (b := c) z4 hc (by omega)
  obtain ⟨s6, r6, z6, e6⟩ := add_run (a := s5) (b := (⟨#[10, 112, 108, 97, 110, 32]⟩ : ByteArray)) z5 (show (⟨#[10, 112, 108, 97, 110, 32]⟩ : ByteArray).size ≤ 100 by decide) (by omega)
  obtain ⟨s7, r7, z7, e7⟩ := add_run (a := s6) (b := e) z6 he (by omega)
  obtain ⟨s8, r8, z8, e8⟩ := add_run (a := s7) (b := (⟨#[10, 108, 105, 118, 101, 115, 10, 108, 97, 119, 10, 99, 104, 97, 105, 110, 10, 112, 108, 97, 110, 10, 102, 97, 105, 108, 101, 100, 10, 116, 111, 116, 97, 108, 10, 116, 111, 116, 97, 108, 115, 10, 116, 97, 98, 108, 101, 10, 115, 117, 114, 118, 105, 118, 101, 115, 32]⟩ : ByteArray)) z7 (show (⟨#[10, 108, 105, 118, 101, 115, 10, 108, 97, 119, 10, 99, 104, 97, 105, 110, 10, 112, 108, 97, 110, 10, 102, 97, 105, 108, 101, 100, 10, 116, 111, 116, 97, 108, 10, 116, 111, 116, 97, 108, 115, 10, 116, 97, 98, 108, 101, 10, 115, 117, 114, 118, 105, 118, 101, 115, 32]⟩ : ByteArray).size ≤ 100 by decide) (by omega)
  obtain ⟨s9, r9, z9, e9⟩ := add_run (a := s8) (b := f) z8 hf (by omega)
  obtain ⟨s10, r10, z10, e10⟩ := add_run (a := s9) (b := (⟨#[10, 98, 97, 108, 97, 110, 99, 101, 10, 97, 99, 99, 101, 112, 116, 32]⟩ : ByteArray)) z9 (show (⟨#[10, 98, 97, 108, 97, 110, 99, 101, 10, 97, 99, 99, 101, 112, 116, 32]⟩ : ByteArray).size ≤ 100 by decide) (by omega)
  obtain ⟨s11, r11, z11, e11⟩ := add_run (a := s10) (b := t) z10 ht (by omega)
  obtain ⟨s12, r12, z12, e12⟩ := add_run (a := s11) (b := (⟨#[10, 108, 111, 111, 107, 115, 32]⟩ : ByteArray)) z11 (show (⟨#[10, 108, 111, 111, 107, 115, 32]⟩ : ByteArray).size ≤ 100 by decide) (by omega)
  obtain ⟨s13, r13, z13, e13⟩ := add_run (a := s12) (b := t) z12 ht (by omega)
  obtain ⟨s14, r14, z14, e14⟩ := add_run (a := s13) (b := (⟨#[10, 111, 114, 100, 101, 114, 10]⟩ : ByteArray)) z13 (show (⟨#[10, 111, 114, 100, 101, 114, 10]⟩ : ByteArray).size ≤ 100 by decide) (by omega)
  refine ⟨s1, s2, s3, s4, s5, s6, s7, s8, s9, s10, s11, s12, s13, s14, r1, r2, r3, r4, r5, r6, r7, r8, r9, r10, r11, r12, r13, r14, by omega, ?_⟩
  rw [e14, e13, e12, e11, e10, e9, e8, e7, e6, e5, e4, e3, e2, e1]
  rfl
theorem want_runs {a b c e f g h i j k l : ByteArray} (ha : a.size ≤ 1000) (hb : b.size ≤ 1000) (hc : c.size ≤ 1000) (he : e.size ≤ 1000) (hf : f.size ≤ 1000) (hg : g.size ≤ 1000) (hh : h.size ≤ 1000) (hi : i.size ≤ 1000) (hj : j.size ≤ 1000) (hk : k.size ≤ 1000) (hl : l.size ≤ 1000) :
    ∃ s1 s2 s3 s4 s5 s6 s7 s8 s9 s10 s11 s12 s13 s14 s15 s16 s17 s18 s19 s20 s21 s22 : ByteArray, (∀ W, (Op.stringOp .add (⟨#[111, 107, 10, 111, 107, 10, 111, 107, 10, 111, 107, 10]⟩ : ByteArray) a).run Tryz.prog W = .ok (.string s1) W) ∧ (∀ W, (Op.stringOp .add s1 (⟨#[10]⟩ : ByteArray)).run Tryz.prog W = .ok (.string s2) W) ∧ (∀ W, (Op.stringOp .add s2 b).run Tryz.prog W = .ok (.string s3) W) ∧ (∀ W, (Op.stringOp .add s3 (⟨#[10]⟩ : ByteArray)).run Tryz.prog W = .ok (.string s4) W) ∧ (∀ W, (Op.stringOp .add s4 c).run Tryz.prog W = .ok (.string s5) W) ∧ (∀ W, (Op.stringOp .add s5 (⟨#[10]⟩ : ByteArray)).run Tryz.prog W = .ok (.string s6) W) ∧ (∀ W, (Op.stringOp .add s6 e).run Tryz.prog W = .ok (.string s7) W) ∧ (∀ W, (Op.stringOp .add s7 (⟨#[10]⟩ : ByteArray)).run Tryz.prog W = .ok (.string s8) W) ∧ (∀ W, (Op.stringOp .add s8 f).run Tryz.prog W = .ok (.string s9) W) ∧ (∀ W, (Op.stringOp .add s9 (⟨#[10]⟩ : ByteArray)).run Tryz.prog W = .ok (.string s10) W) ∧ (∀ W, (Op.stringOp .add s10 g).run Tryz.prog W = .ok (.string s11) W) ∧ (∀ W, (Op.stringOp .add s11 (⟨#[10, 119, 104, 97, 116, 10]⟩ : ByteArray)).run Tryz.prog W = .ok (.string s12) W) ∧ (∀ W, (Op.stringOp .add s12 h).run Tryz.prog W = .ok (.string s13) W) ∧ (∀ W, (Op.stringOp .add s13 (⟨#[10]⟩ : ByteArray)).run Tryz.prog W = .ok (.string s14) W) ∧ (∀ W, (Op.stringOp .add s14 i).run Tryz.prog W = .ok (.string s15) W) ∧ (∀ W, (Op.stringOp .add s15 (⟨#[10]⟩ : ByteArray)).run Tryz.prog W = .ok (.string s16) W) ∧ (∀ W, (Op.stringOp .add s16 j).run Tryz.prog W = .ok (.string s17) W) ∧ (∀ W, (Op.stringOp .add s17 (⟨#[10]⟩ : ByteArray)).run Tryz.prog W = .ok (.string s18) W) ∧ (∀ W, (Op.stringOp .add s18 k).run Tryz.prog W = .ok (.string s19) W) ∧ (∀ W, (Op.stringOp .add s19 (⟨#[10]⟩ : ByteArray)).run Tryz.prog W = .ok (.string s20) W) ∧ (∀ W, (Op.stringOp .add s20 l).run Tryz.prog W = .ok (.string s21) W) ∧ (∀ W, (Op.stringOp .add s21 (⟨#[10, 111, 107, 10]⟩ : ByteArray)).run Tryz.prog W = .ok (.string s22) W) ∧
      s22.size ≤ 16000 ∧ s22 = wantB a b c e f g h i j k l := by
  obtain ⟨s1, r1, z1, e1⟩ := add_run (a := (⟨#[111, 107, 10, 111, 107, 10, 111, 107, 10, 111, 107, 10]⟩ : ByteArray)) (b := a) (show (⟨#[111, 107, 10, 111, 107, 10, 111, 107, 10, 111, 107, 10]⟩ : ByteArray).size ≤ 100 by decide) ha (by omega)
  obtain ⟨s2, r2, z2, e2⟩ := add_run (a := s1) (b := (⟨#[10]⟩ : ByteArray)) z1 (show (⟨#[10]⟩ : ByteArray).size ≤ 100 by decide) (by omega)
  obtain ⟨s3, r3, z3, e3⟩ := add_run (a := s2) (b := b) z2 hb (by omega)
  obtain ⟨s4, r4, z4, e4⟩ := add_run (a := s3) (b := (⟨#[10]⟩ : ByteArray)) z3 (show (⟨#[10]⟩ : ByteArray).size ≤ 100 by decide) (by omega)
  obtain ⟨s5, r5, z5, e5⟩ := add_run (a := s4) (b := c) z4 hc (by omega)
  obtain ⟨s6, r6, z6, e6⟩ := add_run (a := s5) (b := (⟨#[10]⟩ : ByteArray)) z5 (show (⟨#[10]⟩ : ByteArray).size ≤ 100 by decide) (by omega)
  obtain ⟨s7, r7, z7, e7⟩ := add_run (a := s6) (b := e) z6 he (by omega)
  obtain ⟨s8, r8, z8, e8⟩ := add_run (a := s7) (b := (⟨#[10]⟩ : ByteArray)) z7 (show (⟨#[10]⟩ : ByteArray).size ≤ 100 by decide) (by omega)
  obtain ⟨s9, r9, z9, e9⟩ := add_run (a := s8) (b := f) z8 hf (by omega)
  obtain ⟨s10, r10, z10, e10⟩ := add_run (a := s9) (b := (⟨#[10]⟩ : ByteArray)) z9 (show (⟨#[10]⟩ : ByteArray).size ≤ 100 by decide) (by omega)
  obtain ⟨s11, r11, z11, e11⟩ := add_run (a := s10) (b := g) z10 hg (by omega)
  obtain ⟨s12, r12, z12, e12⟩ := add_run (a := s11) (b := (⟨#[10, 119, 104, 97, 116, 10]⟩ : ByteArray)) z11 (show (⟨#[10, 119, 104, 97, 116, 10]⟩ : ByteArray).size ≤ 100 by decide) (by omega)
  obtain ⟨s13, r13, z13, e13⟩ := add_run (a := s12) (b := h) z12 hh (by omega)
  obtain ⟨s14, r14, z14, e14⟩ := add_run (a := s13) (b := (⟨#[10]⟩ : ByteArray)) z13 (show (⟨#[10]⟩ : ByteArray).size ≤ 100 by decide) (by omega)
  obtain ⟨s15, r15, z15, e15⟩ := add_run (a := s14) (b := i) z14 hi (by omega)
  obtain ⟨s16, r16, z16, e16⟩ := add_run (a := s15) (b := (⟨#[10]⟩ : ByteArray)) z15 (show (⟨#[10]⟩ : ByteArray).size ≤ 100 by decide) (by omega)
  obtain ⟨s17, r17, z17, e17⟩ := add_run (a := s16) (b := j) z16 hj (by omega)
  obtain ⟨s18, r18, z18, e18⟩ := add_run (a := s17) (b := (⟨#[10]⟩ : ByteArray)) z17 (show (⟨#[10]⟩ : ByteArray).size ≤ 100 by decide) (by omega)
  obtain ⟨s19, r19, z19, e19⟩ := add_run (a := s18) (b := k) z18 hk (by omega)
  obtain ⟨s20, r20, z20, e20⟩ := add_run (a := s19) (b := (⟨#[10]⟩ : ByteArray)) z19 (show (⟨#[10]⟩ : ByteArray).size ≤ 100 by decide) (by omega)
  obtain ⟨s21, r21, z21, e21⟩ := add_run (a := s20) (b := l) z20 hl (by omega)
  obtain ⟨s22, r22, z22, e22⟩ := add_run (a := s21) (b := (⟨#[10, 111, 107, 10]⟩ : ByteArray)) z21 (show (⟨#[10, 111, 107, 10]⟩ : ByteArray).size ≤ 100 by decide) (by omega)
  refine ⟨s1, s2, s3, s4, s5, s6, s7, s8, s9, s10, s11, s12, s13, s14, s15, s16, s17, s18, s19, s20, s21, s22, r1, r2, r3, r4, r5, r6, r7, r8, r9, r10, r11, r12, r13, r14, r15, r16, r17, r18, r19, r20, r21, r22, by omega, ?_⟩
  rw [e22, e21, e20, e19, e18, e17, e16, e15, e14, e13, e12, e11, e10, e9, e8, e7, e6, e5, e4, e3, e2, e1]
  rfl
def pairB (a b : ByteArray) : ByteArray := (a ++ ⟨#[32]⟩) ++ b
theorem pair_runs {a b : ByteArray} (ha : a.size ≤ 1000) (hb : b.size ≤ 1000) :
    ∃ s1 s2 : ByteArray, (∀ W, (Op.stringOp .add a (⟨#[32]⟩ : ByteArray)).run Tryz.prog W = .ok (.string s1) W) ∧ (∀ W, (Op.stringOp .add s1 b).run Tryz.prog W = .ok (.string s2) W) ∧
      s2.size ≤ 3000 ∧ s2 = pairB a b := by
  obtain ⟨s1, r1, z1, e1⟩ := add_run (a := a) (b := (⟨#[32]⟩ : ByteArray)) ha (show (⟨#[32]⟩ : ByteArray).size ≤ 100 by decide) (by omega)
  obtain ⟨s2, r2, z2, e2⟩ := add_run (a := s1) (b := b) z1 hb (by omega)
  refine ⟨s1, s2, r1, r2, by omega, ?_⟩
  rw [e2, e1]
  rfl
end Go.Proofs.YtjmpldcnhjgpkaaGreatDoor

/-
  The run of the script, and the count of its errors.
-/
namespace Go.Proofs.YtjmpldcnhjgpkaaGreatDoor
open Go.RowKit Mem Fl Go.Shelf
set_option linter.unusedVariables false
set_option maxRecDepth 100000

/-- The two shares that the law tells. -/
def acA (D : Dk) (lot bad : Int) : Int := redA (accI lot bad D.sz D.ac) (chI lot D.sz)
def acB (D : Dk) (lot bad : Int) : Int := redB (accI lot bad D.sz D.ac) (chI lot D.sz)
def mlA (D : Dk) (lot bad : Int) : Int := redA (mlT lot bad D.ac D.sz.toNat) (chI lot bad)
def mlB (D : Dk) (lot bad : Int) : Int := redB (mlT lot bad D.ac D.sz.toNat) (chI lot bad)
def ok1 (D : Dk) (lot bad : Int) : Bool := twoOk (acA D lot bad) (acB D lot bad)
def ok2 (D : Dk) (lot bad : Int) : Bool := twoOk (mlA D lot bad) (mlB D lot bad)
def kT (D : Dk) (lot bad : Int) : ByteArray := listS [acA D lot bad, acB D lot bad]
def lT (D : Dk) (lot bad : Int) : ByteArray := listS [mlA D lot bad, mlB D lot bad]
def lawS (D : Dk) : ByteArray := headB D.kd (joinedB (tx [D.sh, D.sc]))
def chnS (D : Dk) : ByteArray := headB D.st (joinedB (tx D.rs))
def failS (D : Dk) : ByteArray := numS (cntF D.lv : Int)
def sumS (D : Dk) : ByteArray := numT [lfSum D.lv D.lv.length]
def surS (D : Dk) (x : Nat) : ByteArray := numT [survN D.kd D.sh D.sc x]
def wantD (D : Dk) (x : Nat) (lot bad : Int) (n : Nat) : ByteArray :=
  wantB (livesB D.lv) (lawS D) (chnS D) (planS D.sz D.ac) (failS D) (sumS D) (tabT D.lv) (surS D x) (numT (balL D.rs n)) (yesT (ok1 D lot bad) (kT D lot bad)) (yesT (ok2 D lot bad) (lT D lot bad))
def scriptD (D : Dk) (x : Nat) (lot bad : Int) : ByteArray := scriptB (livesB D.lv) (lawS D) (chnS D) (planS D.sz D.ac) (numT [x]) (pairB (numS lot) (numS bad))
theorem textN_all (D : Dk) (x : Nat) (lot bad : Int) (n : Nat) : textL D x lot bad n = eleven (livesB D.lv) (lawS D) (chnS D) (planS D.sz D.ac) (failS D) (sumS D) (tabT D.lv) (surS D x) (numT (balL D.rs n)) (yesT (ok1 D lot bad) (kT D lot bad)) (yesT (ok2 D lot bad) (lT D lot bad)) := rfl
theorem outD (D : Dk) (x : Nat) (lot bad : Int) (n : Nat) : outB (textN D x lot bad n) 17 = wantD D x lot bad n := outB_join (fun q _ => by unfold textN; rw [textN_all])
theorem list_size (a b : Int) : (yesT (twoOk a b) (listS [a, b])).size ≤ 40 := by
  unfold yesT
  split
  · exact listS_sz
  · decide
theorem numT_sz (xs : List Nat) : (numT xs).size ≤ 9 * xs.length + 4 := tx_sz xs
theorem tabT_eq (l : List (Nat × Bool)) : ∃ ys : List Nat, ys.length ≤ l.length ∧ tabT l = numT ys := by
  have h3 := fails_len (srt l (l.length - 1)) []
  rw [srt_len] at h3
  simp only [List.length_nil] at h3
  refine ⟨svL l (fails (srt l (l.length - 1))) (fails (srt l (l.length - 1))).length, by unfold svL; rw [List.length_map, List.length_range]; unfold fails; omega, (tabT_of ?_).symm⟩
  unfold svL
  rw [List.map_map]
  exact List.map_congr_left (fun i _ => svZ_cn _ _ _)
theorem yes_hi (ok : Bool) {s : ByteArray} (h : (10 : UInt8) ∉ s.data.toList) : (10 : UInt8) ∉ (yesT ok s).data.toList := by
  unfold yesT
  split
  · exact h
  · decide
theorem listS_hi (xs : List Int) : (10 : UInt8) ∉ (listS xs).data.toList := by
  unfold listS
  split
  · exact (dx_hi xs).no (by decide)
  · decide
section
variable {D : Dk} {p : Nat} {lot bad : Int} {n : Nat}
theorem tp_sizes (h8 : R8D D) (hst : D.st = (n : Int)) (hn : n ≤ 4) (x : Nat) (hl : 0 ≤ lot ∧ lot ≤ 40) (hb : 0 ≤ bad ∧ bad ≤ 40) :
    (livesB D.lv).size ≤ 1000 ∧ (lawS D).size ≤ 1000 ∧ (chnS D).size ≤ 1000 ∧ (planS D.sz D.ac).size ≤ 1000 ∧ (failS D).size ≤ 1000 ∧ (sumS D).size ≤ 1000 ∧ (tabT D.lv).size ≤ 1000 ∧ (surS D x).size ≤ 1000 ∧ (numT (balL D.rs n)).size ≤ 1000 ∧ (numT [x]).size ≤ 1000 ∧ (numS lot).size ≤ 1000 ∧ (numS bad).size ≤ 1000 := by
  have l8 := h8.l8
  obtain ⟨a, ha, ea⟩ := h8.kd
  obtain ⟨m, m1, m4, em, emm, hP8⟩ := h8.ch
  obtain ⟨pa, pb, b1, b2, b3, eb1, eb2⟩ := h8.pl
  have hn16 : D.rs.length ≤ 16 := by rw [emm]; exact Nat.mul_le_mul m4 m4
  have hc8 : cntF D.lv ≤ 8 := Nat.le_trans List.countP_le_length l8
  have s1 := livesB_sz D.lv
  have s2 : (lawS D).size ≤ 9 * 2 + 22 := headB_sz (n := D.kd) (xs := [D.sh, D.sc]) (by omega)
  have s3 : (chnS D).size ≤ 9 * D.rs.length + 22 := headB_sz (n := D.st) (xs := D.rs) (by omega)
  have s4 := planS_sz (a := D.sz) (b := D.ac) (by omega) (by omega)
  have s5 : (failS D).size ≤ 17 := numS_sz (by omega)
  have s6 : (sumS D).size ≤ 9 * 1 + 4 := numT_sz [lfSum D.lv D.lv.length]
  obtain ⟨ys, hy, e7⟩ := tabT_eq D.lv
  have s7 := numT_sz ys
  have s8 : (surS D x).size ≤ 9 * 1 + 4 := numT_sz [survN D.kd D.sh D.sc x]
  have s9 := numT_sz (balL D.rs n)
  have hbl : (balL D.rs n).length = n := bkO_len _ _ _
  have s10 : (numT [x]).size ≤ 9 * 1 + 4 := numT_sz [x]
  have s11 : (numS lot).size ≤ 17 := numS_sz (by omega)
  have s12 : (numS bad).size ≤ 17 := numS_sz (by omega)
  rw [e7]
  exact ⟨by omega, by omega, by omega, by omega, by omega, by omega, by omega, by omega, by omega, by omega, by omega, by omega⟩
/-- The run of the script. -/
theorem tp_run (h8 : R8D D) (hp : p < 16) (hst : D.st = (n : Int)) (hrs : D.rs.length = n * n) (hcw : Cw n D.rs) (hl : lotOk lot D.sz D.ac = true) (h0 : 0 ≤ bad) (hbl : bad ≤ lot) {v : Value} {W : World} (hv : DkV W v D0) (G : Gl W) (hs : (scriptD D (r8x p) lot bad).size ≤ 16000) :
    Calls Tryz.prog 13 #[v, .string (scriptD D (r8x p) lot bad)] W fun e w' => ∃ v', e = .returned (.tuple #[v', .string (wantD D (r8x p) lot bad n), .bool true]) ∧ DkV w' v' (Dz D) ∧ Below W.heap.size W w' := by
  have hr := lotOk_rng hl
  have hZ := tp_sizes h8 hst hcw.n4 (r8x p) (lot := lot) (bad := bad) (by omega) (by omega)
  have hL : splitS (scriptD D (r8x p) lot bad) 10 = linesB (livesB D.lv) (lawS D) (chnS D) (planS D.sz D.ac) (numT [r8x p]) (pairB (numS lot) (numS bad)) ++ [⟨#[]⟩] :=
    script_split (livesB_hi _) (headB_hi _ _) (headB_hi _ _) (planS_hi _ _) (tx_hi _) (app_no (app_no ((numS_hi _).no (by decide)) (by decide)) ((numS_hi _).no (by decide)))
  have h := i_RunDesk (v := v) (Ds := stN D) (T := textN D (r8x p) lot bad n) (w := W) hv G hs hL d0_ok.2.2.2 (script_cmds h8 hp hst hrs hcw hl h0 hbl) ?_ (by show 17 ≤ 1000; decide) (by show 1 ≤ 17; decide)
  · have e1 : (linesB (livesB D.lv) (lawS D) (chnS D) (planS D.sz D.ac) (numT [r8x p]) (pairB (numS lot) (numS bad))).length = 17 := rfl
    rw [e1, outD] at h
    exact h
  · intro k
    unfold textN
    rw [textN_all]
    obtain ⟨z1, z2, z3, z4, z5, z6, z7, z8, z9, z10, z11, z12⟩ := hZ
    have z13 : (yesT (ok1 D lot bad) (kT D lot bad)).size ≤ 40 := list_size _ _
    have z14 : (yesT (ok2 D lot bad) (lT D lot bad)).size ≤ 40 := list_size _ _
    have o1 : (⟨#[111, 107]⟩ : ByteArray).size = 2 := rfl
    have o2 : (⟨#[119, 104, 97, 116]⟩ : ByteArray).size = 4 := rfl
    have o3 : (⟨#[]⟩ : ByteArray).size = 0 := rfl
    unfold eleven
    match k with
    | 0 => show ByteArray.size ⟨#[111, 107]⟩ ≤ _; omega
    | 1 => show ByteArray.size ⟨#[111, 107]⟩ ≤ _; omega
    | 2 => show ByteArray.size ⟨#[111, 107]⟩ ≤ _; omega
    | 3 => show ByteArray.size ⟨#[111, 107]⟩ ≤ _; omega
    | 4 => show (livesB D.lv).size ≤ _; omega
    | 5 => show (lawS D).size ≤ _; omega
    | 6 => show (chnS D).size ≤ _; omega
    | 7 => show (planS D.sz D.ac).size ≤ _; omega
    | 8 => show (failS D).size ≤ _; omega
    | 9 => show (sumS D).size ≤ _; omega
    | 10 => show ByteArray.size ⟨#[119, 104, 97, 116]⟩ ≤ _; omega
    | 11 => show (tabT D.lv).size ≤ _; omega
    | 12 => show (surS D (r8x p)).size ≤ _; omega
    | 13 => show (numT (balL D.rs n)).size ≤ _; omega
    | 14 => show (yesT (ok1 D lot bad) (kT D lot bad)).size ≤ _; omega
    | 15 => show (yesT (ok2 D lot bad) (lT D lot bad)).size ≤ _; omega
    | 16 => show ByteArray.size ⟨#[111, 107]⟩ ≤ _; omega
    | k + 17 => show ByteArray.size ⟨#[]⟩ ≤ _; omega
/-- How many lines are errors. -/
def wrongN (a b : Bool) : Int := 1 + (if a = true then 0 else 1) + (if b = true then 0 else 1)
theorem tp_count {W : World} (h8 : R8D D) (x : Nat) (hb : ∃ b, W.cell? ⟨renSplit.g 1, 0, none⟩ = some (.int .i64 b)) (hs : (wantD D x lot bad n).size ≤ 16000) :
    Calls Tryz.prog 25 #[.string (wantD D x lot bad n)] W fun e w' => e = .returned (.tuple #[.int .i64 (wrongN (ok1 D lot bad) (ok2 D lot bad)), .int .i64 (17 - wrongN (ok1 D lot bad) (ok2 D lot bad)), .bool true]) ∧ Below W.heap.size W w' := by
  obtain ⟨b, hm⟩ := hb
  have l8 := h8.l8
  have hc8 : cntF D.lv ≤ 8 := Nat.le_trans List.countP_le_length l8
  obtain ⟨ys, hy, e7⟩ := tabT_eq D.lv
  have hsp : splitS (wantD D x lot bad n) 10 = eleven (livesB D.lv) (lawS D) (chnS D) (planS D.sz D.ac) (failS D) (sumS D) (tabT D.lv) (surS D x) (numT (balL D.rs n)) (yesT (ok1 D lot bad) (kT D lot bad)) (yesT (ok2 D lot bad) (lT D lot bad)) ++ [(⟨#[]⟩ : ByteArray)] := by
    refine want_split (fun q hq => ?_)
    simp only [List.mem_cons, List.not_mem_nil, or_false] at hq
    rcases hq with rfl | rfl | rfl | rfl | rfl | rfl | rfl | rfl | rfl | rfl | rfl
    · exact (livesB_hi _).no (by decide)
    · exact (headB_hi _ _).no (by decide)
    · exact (headB_hi _ _).no (by decide)
    · exact (planS_hi _ _).no (by decide)
    · exact (numS_hi _).no (by decide)
    · exact (tx_hi _).no (by decide)
    · rw [e7]; exact (tx_hi _).no (by decide)
    · exact (tx_hi _).no (by decide)
    · exact (tx_hi _).no (by decide)
    · exact yes_hi _ (listS_hi _)
    · exact yes_hi _ (listS_hi _)
  have hbn := bad_count (a := livesB D.lv) (b := lawS D) (c := chnS D) (e := planS D.sz D.ac) (f := failS D) (g := sumS D) (h := tabT D.lv) (i := surS D x) (j := numT (balL D.rs n)) (k := yesT (ok1 D lot bad) (kT D lot bad)) (l := yesT (ok2 D lot bad) (lT D lot bad))
    (bad_app (m := 59) (by decide)) (bad_app (m := 59) (by decide)) (bad_app (m := 59) (by decide)) (bad_app (m := 47) (by decide)) (bad_num _ (by omega)) (bad_tx [lfSum D.lv D.lv.length]) (by rw [e7]; exact bad_tx _) (bad_tx [survN D.kd D.sh D.sc x]) (bad_tx _)
  have k1 : badB (yesT (ok1 D lot bad) (kT D lot bad)) = !(ok1 D lot bad) := bad_yes
  have k2 : badB (yesT (ok2 D lot bad) (lT D lot bad)) = !(ok2 D lot bad) := bad_yes
  rw [k1, k2] at hbn
  have hlen : (splitS (wantD D x lot bad n) 10).length = 18 := by rw [hsp]; rfl
  have hlast : (splitS (wantD D x lot bad n) 10)[(splitS (wantD D x lot bad n) 10).length - 1]? = some (⟨#[]⟩ : ByteArray) := by rw [hlen, hsp]; rfl
  have h := i_CountOutputs (s := wantD D x lot bad n) (w := W) (by omega) hm hlast (by rw [decide_eq_true hs, show (true && (⟨#[]⟩ : ByteArray).toList.isEmpty) = true by decide +kernel])
  rw [hlen, hsp, hbn] at h
  refine h.mono ?_
  rintro e w' ⟨rfl, hb⟩
  refine ⟨?_, hb⟩
  unfold wrongN
  cases ok1 D lot bad <;> cases ok2 D lot bad <;> rfl
end
end Go.Proofs.YtjmpldcnhjgpkaaGreatDoor
