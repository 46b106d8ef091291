/-
  Contracts of 'valid' for desks: the program's last part, and the reference's.
-/
import Derived.Test.YtjmpldcnhjgpkaaGreatDoorValid
import Derived.Test.YtjmpldcnhjgpkaaGreatDoorLtT
import Derived.Test.YtjmpldcnhjgpkaaGreatDoorPlanT
import Derived.Deep.RegionHeld3
import Derived.BigQuiet
namespace Go.Proofs.YtjmpldcnhjgpkaaGreatDoor
open Go.RowKit Fl Mem
set_option linter.unusedVariables false
set_option maxRecDepth 100000

def deskOk (xs : List (Nat × Bool)) (kd : Int) (sh sc : Nat) (st : Int) (rs : List Nat) (sz ac : Int) : Bool := livesOk xs && (lawOk kd sh sc && (chainOk st rs && planOk sz ac))

theorem livesOk_no {xs : List (Nat × Bool)} {k : Nat} {p : Nat × Bool} (h : xs[k]? = some p) (hp : pos p.1 = false) : livesOk xs = false := by
  unfold livesOk
  have : (xs.all fun p => pos p.1) = false := by
    rw [List.all_eq_false]
    exact ⟨p, List.mem_of_getElem? h, by simp [hp]⟩
  rw [this]; simp

theorem quiet_add {P : Program} {f : FuncId} {args : Array Value} {w : World} {a n : Nat} {v : Value}
    (h : Calls P f args (w.drewN (a + n)) fun e w' => e = .returned v ∧ ∃ m, w' = (w.drewN (a + n)).drewN m) :
    Calls P f args (w.drewN (a + n)) fun e w'' => e = .returned v ∧ ∃ m, w'' = w.drewN (a + m) :=
  h.mono fun _ _ ⟨he, m, hm⟩ => ⟨he, n + m, by rw [hm, World.drewN_drewN, Nat.add_assoc]⟩
theorem chain_end {xs : List Nat} {s : Nat} (hl : xs.length = s * s) :
    (∀ j, j < s * s → ∀ x, xs[j]? = some x → leastF x = true ∧ (j % (s + 1) = 0 → zeroF x = true)) ↔ (xs.all leastF && diagOk xs s) = true := by
  rw [Bool.and_eq_true, diagOk_iff, List.all_eq_true]
  constructor
  · intro h
    refine ⟨fun x hx => ?_, fun j hj => ?_⟩
    · obtain ⟨j, hj⟩ := List.getElem?_of_mem hx
      have hlt : j < s * s := by rw [← hl]; exact (List.getElem?_eq_some_iff.1 hj).1
      exact (h j hlt x hj).1
    · have hd := diag_lt hj
      have hlt : j * s + j < xs.length := by rw [hl]; exact hd
      have := (h _ hd _ (List.getElem?_eq_getElem hlt)).2 (by rw [show j * s + j = j * (s + 1) from by rw [Nat.mul_add, Nat.mul_one]]; exact Nat.mul_mod_left _ _)
      rwa [List.getD_eq_getElem?_getD, List.getElem?_eq_getElem hlt]
  · rintro ⟨h1, h2⟩ j hj x hx
    refine ⟨h1 x (List.mem_of_getElem? hx), fun hm => ?_⟩
    obtain ⟨q, rfl⟩ := Nat.dvd_of_mod_eq_zero hm
    have hq : q < s := by
      rcases Nat.lt_or_ge q s with h | h
      · exact h
      · have := Nat.mul_le_mul_left (s + 1) h
        rw [Nat.add_mul, Nat.one_mul] at this
        omega
    have := h2 q hq
    rw [show q * s + q = (s + 1) * q from by rw [Nat.add_mul, Nat.one_mul, Nat.mul_comm], List.getD_eq_getElem?_getD, hx] at this
    exact this

set_option maxHeartbeats 4000000 in
theorem i_ValidDesk {LA RA : Option Addr} {ln lc rn rc sh sc B : Nat} {kd st sz ac : Int} {xs : List (Nat × Bool)} {rs : List Nat} {w : World} (hB : B ≤ w.heap.size)
    (h1 : Reads w B 2 LA ln (ll xs)) (h2 : Reads w B 1 RA rn (fl .f32 rs)) (hn : ln ≤ 1099511627776) (hm : rn ≤ 1048576) :
    Calls Tryz.prog 15 #[deskV LA ln lc kd sh sc st RA rn rc sz ac] w fun e w' => e = .returned (.bool (deskOk xs kd sh sc st rs sz ac)) ∧ Below w.heap.size w w' := by
  have R1 := fun o => h1.alloc hB o
  have R2 := fun o => h2.alloc hB o
  have hw := fun o => (Below.refl w.heap.size w).alloc (Nat.le_refl _) o
  cases s1 : livesOk xs with
  | false =>
    go_enter Tryz.func15, Tryz.ntmps15
    go_wp2_with (go_at_call 29; refine (i_AreLives (R1 _) (by simp; omega) hn).mono ?_; rintro e w1 ⟨rfl, hb⟩)
    go_ret
    exact ⟨ret_bool (by unfold deskOk; rw [s1]; rfl), (hw _).trans (hb.mono (by simp))⟩
  | true =>
    have T1 := hide s1
    go_enter Tryz.func15, Tryz.ntmps15
    go_wp2_with fail
    refine (i_AreLives (R1 _) (by simp; omega) hn).mono ?_
    rintro e w1 ⟨rfl, hb⟩
    have hg1 : Hid (Blk w1 w.heap.size _ _) := hide (blk_below (Blk.new w _ _) hb)
    have h2' := (R2 _).below (hb.mono (by simp; omega))
    have hz := hb.size
    replace hb := (hw _).trans (hb.mono (by simp))
    simp at hz
    have a1 : w1.cell? ⟨w.heap.size, 1, none⟩ = some (.int .i64 kd) := hg1.out.cell 1
    have a2 : w1.cell? ⟨w.heap.size, 2, none⟩ = some (.float .f32 sh) := hg1.out.cell 2
    have a3 : w1.cell? ⟨w.heap.size, 3, none⟩ = some (.float .f32 sc) := hg1.out.cell 3
    have a4 : w1.cell? ⟨w.heap.size, 4, none⟩ = some (.int .i64 st) := hg1.out.cell 4
    have a5 : w1.cell? ⟨w.heap.size, 5, none⟩ = some (.slice RA rn rc) := hg1.out.cell 5
    have a6 : w1.cell? ⟨w.heap.size, 6, none⟩ = some (.int .i64 sz) := hg1.out.cell 6
    have a7 : w1.cell? ⟨w.heap.size, 7, none⟩ = some (.int .i64 ac) := hg1.out.cell 7
    cases s2 : lawOk kd sh sc with
    | false =>
      go_wp2_with (go_at_call 30; refine i_ValidLaw.mono ?_; rintro e w2 ⟨rfl, hb2⟩)
      go_ret
      exact ⟨ret_bool (by unfold deskOk; rw [T1.out, s2]; rfl), hb.trans (hb2.mono hb.size)⟩
    | true =>
      have T2 := hide s2
      go_wp2_with fail
      refine i_ValidLaw.mono ?_
      rintro e w2 ⟨rfl, hb2⟩
      have hg2 := hide (blk_below hg1.out hb2)
      replace hb := hb.trans (hb2.mono hb.size)
      replace h2' := h2.below (hb.mono hB)
      have hz2 := hb.size
      clear hb2 a1 a2 a3 a4 a5 a6 a7
      have a1 : w2.cell? ⟨w.heap.size, 1, none⟩ = some (.int .i64 kd) := hg2.out.cell 1
      have a2 : w2.cell? ⟨w.heap.size, 2, none⟩ = some (.float .f32 sh) := hg2.out.cell 2
      have a3 : w2.cell? ⟨w.heap.size, 3, none⟩ = some (.float .f32 sc) := hg2.out.cell 3
      have a4 : w2.cell? ⟨w.heap.size, 4, none⟩ = some (.int .i64 st) := hg2.out.cell 4
      have a5 : w2.cell? ⟨w.heap.size, 5, none⟩ = some (.slice RA rn rc) := hg2.out.cell 5
      have a6 : w2.cell? ⟨w.heap.size, 6, none⟩ = some (.int .i64 sz) := hg2.out.cell 6
      have a7 : w2.cell? ⟨w.heap.size, 7, none⟩ = some (.int .i64 ac) := hg2.out.cell 7
      cases s3 : chainOk st rs with
      | false =>
        go_wp2_with (go_at_call 32; refine (i_ValidChain h2' (by omega) hm).mono ?_; rintro e w3 ⟨rfl, hb3⟩)
        go_ret
        exact ⟨ret_bool (by unfold deskOk; rw [T1.out, T2.out, s3]; rfl), hb.trans (hb3.mono hb.size)⟩
      | true =>
        have T3 := hide s3
        go_wp2_with fail
        refine (i_ValidChain h2' (by omega) hm).mono ?_
        rintro e w3 ⟨rfl, hb3⟩
        have hg3 := hide (blk_below hg2.out hb3)
        replace hb := hb.trans (hb3.mono hb.size)
        clear hb3 a1 a2 a3 a4 a5 a6 a7
        have a1 : w3.cell? ⟨w.heap.size, 1, none⟩ = some (.int .i64 kd) := hg3.out.cell 1
        have a2 : w3.cell? ⟨w.heap.size, 2, none⟩ = some (.float .f32 sh) := hg3.out.cell 2
        have a3 : w3.cell? ⟨w.heap.size, 3, none⟩ = some (.float .f32 sc) := hg3.out.cell 3
        have a4 : w3.cell? ⟨w.heap.size, 4, none⟩ = some (.int .i64 st) := hg3.out.cell 4
        have a5 : w3.cell? ⟨w.heap.size, 5, none⟩ = some (.slice RA rn rc) := hg3.out.cell 5
        have a6 : w3.cell? ⟨w.heap.size, 6, none⟩ = some (.int .i64 sz) := hg3.out.cell 6
        have a7 : w3.cell? ⟨w.heap.size, 7, none⟩ = some (.int .i64 ac) := hg3.out.cell 7
        go_wp2_with fail
        refine i_ValidPlan.mono ?_
        rintro e w4 ⟨rfl, hb4⟩
        go_wp2
        go_ret
        exact ⟨ret_bool (by unfold deskOk; rw [T1.out, T2.out, T3.out]; rfl), hb.trans (hb4.mono hb.size)⟩
end Go.Proofs.YtjmpldcnhjgpkaaGreatDoor

/-
  LawText: both sides.
-/
namespace Go.Proofs.YtjmpldcnhjgpkaaGreatDoor
open Go.RowKit Mem Fl Go.Shelf
set_option linter.unusedVariables false
set_option maxRecDepth 100000

/-- A number, and a text behind it. -/
def headB (n : Int) (t : ByteArray) : ByteArray := (numS n ++ ⟨#[59]⟩) ++ t
theorem joinedB_size (xs : List Nat) : (joinedB (tx xs)).size ≤ 9 * xs.length + 4 := by
  cases xs with
  | nil => decide
  | cons x xs =>
    have := nt_size (x :: xs) (x :: xs).length
    rw [nt_all (by simp)] at this
    omega
theorem head_ops (n : Int) (t : ByteArray) (hn : n.natAbs ≤ 9223372036854775808) (ht : t.size ≤ 1000000000) :
    (∀ w, (Op.stringOp .add (numS n) ⟨#[59]⟩).run Tryz.prog w = .ok (.string (numS n ++ ⟨#[59]⟩)) w) ∧ ∀ w, (Op.stringOp .add (numS n ++ ⟨#[59]⟩) t).run Tryz.prog w = .ok (.string ((numS n ++ ⟨#[59]⟩) ++ t)) w := by
  have h1 : ByteArray.size ⟨#[59]⟩ = 1 := rfl
  have h2 := numS_size hn
  exact ⟨fun w => run_string_add_sum (P := Tryz.prog) w _ _ (by omega), fun w => run_string_add_sum (P := Tryz.prog) w _ _ (by rw [ByteArray.size_append]; omega)⟩
theorem below_ad {w w' : World} {o : Obj} (h : Below (w.alloc o).heap.size (w.alloc o) w') : Below w.heap.size w w' := ((Below.refl _ _).alloc (Nat.le_refl _) o).trans (h.mono (by simp))
set_option maxHeartbeats 1000000 in
theorem i_headed {nn : Int} {A : Option Addr} {n c : Nat} {xs : List Nat} {w : World} (h0 : 0 ≤ nn) (h1 : nn < 100) (h : Reads w w.heap.size 1 A n (fl .f32 xs)) (wx : ∀ x ∈ xs, Wf .f32 x) (hn : n ≤ 256) (ht : w.cell? ⟨4, 15, none⟩ = some (.int .u8 4)) :
    Calls Tryz.prog 31 #[.int .i64 nn, .slice A n c] w fun e w' => e = .returned (.tuple #[.string (headB nn (joinedB (tx xs))), .bool true]) ∧ Below w.heap.size w w' := by
  have hl := h.map_len
  have hz := joinedB_size xs
  obtain ⟨hs1, hs2⟩ := head_ops nn (joinedB (tx xs)) (by omega) (by omega)
  clear hz hl
  go_enter Tryz.func31, Tryz.ntmps31
  go_wp2_with fail
  refine (i_NumbersText h wx hn ht).mono ?_
  rintro e w1 ⟨rfl, hb⟩
  go_wp2_with (go_at_call 12; refine (i_DecimalS _ h0 h1 _).mono ?_; rintro e w' ⟨rfl, rfl⟩)
  go_ret2
  exact ⟨rfl, hb⟩
theorem lawOk_rng {kd : Int} {sh sc : Nat} (h : lawOk kd sh sc = true) : 0 ≤ kd ∧ kd < 100 := by
  unfold lawOk at h
  simp only [Bool.and_eq_true] at h
  have := inB_iff.1 h.1
  omega
set_option maxHeartbeats 1000000 in
theorem i_LawText {kd : Int} {sh sc : Nat} {w : World} (h : lawOk kd sh sc = true) (w1 : Wf .f32 sh) (w2 : Wf .f32 sc) (ht : w.cell? ⟨4, 15, none⟩ = some (.int .u8 4)) :
    Calls Tryz.prog 8 #[.agg #[.int .i64 kd, .float .f32 sh, .float .f32 sc]] w fun e w' => e = .returned (.tuple #[.string (headB kd (joinedB (tx [sh, sc]))), .bool true]) ∧ Below w.heap.size w w' := by
  obtain ⟨r1, r2⟩ := lawOk_rng h
  have hlt := Go.Clock.block_lt ht
  go_enter Tryz.func8, Tryz.ntmps8
  go_wp2_with fail
  refine i_ValidLaw.mono ?_
  rintro e v1 ⟨rfl, hb⟩
  rw [h]
  have c0 : v1.cell? ⟨w.heap.size, 0, none⟩ = some (.int .i64 kd) := ((Blk.new w _ _).below hb (by simp)).cell 0
  have c1 : v1.cell? ⟨w.heap.size, 1, none⟩ = some (.float .f32 sh) := ((Blk.new w _ _).below hb (by simp)).cell 1
  have c2 : v1.cell? ⟨w.heap.size, 2, none⟩ = some (.float .f32 sc) := ((Blk.new w _ _).below hb (by simp)).cell 2
  replace hb := ((Below.refl w.heap.size w).alloc (Nat.le_refl _) _).trans (hb.mono (by simp))
  have ht1 := (hb.cell (p := ⟨4, 15, none⟩) hlt).trans ht
  go_wp2_with fail
  refine (i_headed (xs := [sh, sc]) r1 r2 (reads_new (Value.float .f32) v1 25 [sh, sc]) (by simp; exact ⟨w1, w2⟩) (by simp) ((World.cell?_alloc_lt _ _ _ (Nat.lt_of_lt_of_le hlt hb.size)).trans ht1)).mono ?_
  rintro e v2 ⟨rfl, hb2⟩
  go_wp2
  go_ret2
  exact ⟨rfl, (hb.alloc hb.size _).trans (hb2.mono (by simp; have := hb.size; omega))⟩
set_option maxHeartbeats 400000 in
theorem i_LawText_no {kd : Int} {sh sc : Nat} {w : World} (h : lawOk kd sh sc = false) : Calls Tryz.prog 8 #[.agg #[.int .i64 kd, .float .f32 sh, .float .f32 sc]] w fun e w' => e = .returned (.tuple #[.string ⟨#[]⟩, .bool false]) ∧ Below w.heap.size w w' := by
  go_enter Tryz.func8, Tryz.ntmps8
  go_wp2_with fail
  refine i_ValidLaw.mono ?_
  rintro e v1 ⟨rfl, hb⟩
  rw [h]
  go_wp2
  go_ret2
  exact ⟨rfl, ((Below.refl w.heap.size w).alloc (Nat.le_refl _) _).trans (hb.mono (by simp))⟩
theorem keep3 {W W' : World} {g o : Nat} {a b c : Value} (hb : Below W.heap.size W W') (hg : g < W.heap.size) (K : W.cell? ⟨g, o, none⟩ = some a ∧ W.cell? ⟨g, o + 1, none⟩ = some b ∧ W.cell? ⟨g, o + 2, none⟩ = some c) :
    W'.cell? ⟨g, o, none⟩ = some a ∧ W'.cell? ⟨g, o + 1, none⟩ = some b ∧ W'.cell? ⟨g, o + 2, none⟩ = some c :=
  ⟨(hb.cell hg).trans K.1, (hb.cell hg).trans K.2.1, (hb.cell hg).trans K.2.2⟩
end Go.Proofs.YtjmpldcnhjgpkaaGreatDoor

/-
  LivesText: both sides.
-/
namespace Go.Proofs.YtjmpldcnhjgpkaaGreatDoor
open Go.RowKit Mem Fl Go.Shelf
set_option linter.unusedVariables false
set_option maxRecDepth 100000

def endB (b : Bool) : UInt8 := if b then 102 else 108
def endsB (xs : List (Nat × Bool)) : ByteArray := ⟨(xs.map fun p => endB p.2).toArray⟩
def timesL (xs : List (Nat × Bool)) : List Nat := xs.map (·.1)
def livesB (xs : List (Nat × Bool)) : ByteArray := (joinedB (tx (timesL xs)) ++ ⟨#[59]⟩) ++ endsB xs
theorem endsB_size (xs : List (Nat × Bool)) : (endsB xs).size = xs.length := by show (xs.map _).toArray.size = _; simp
theorem endsB_succ {xs : List (Nat × Bool)} {k : Nat} {p : Nat × Bool} (h : xs[k]? = some p) : endsB (xs.take (k + 1)) = endsB (xs.take k) ++ ⟨#[endB p.2]⟩ := by
  apply ba_ext
  unfold endsB
  rw [take_eq h]
  simp
theorem times_succ {xs : List (Nat × Bool)} {k : Nat} {p : Nat × Bool} (h : xs[k]? = some p) : fl .f32 (timesL (xs.take (k + 1))) = fl .f32 (timesL (xs.take k)) ++ [.float .f32 p.1] := by
  unfold timesL fl
  rw [take_eq h]
  simp
theorem livesOk_rng {xs : List (Nat × Bool)} (h : livesOk xs = true) : 1 ≤ xs.length ∧ xs.length ≤ 48 := by
  unfold livesOk at h
  simp only [Bool.and_eq_true, decide_eq_true_eq] at h
  exact ⟨h.1, h.2.1⟩
theorem lives_ops (s t : ByteArray) (hs : s.size ≤ 1000000000) (ht : t.size ≤ 1000000000) :
    (∀ w, (Op.stringOp .add s ⟨#[59]⟩).run Tryz.prog w = .ok (.string (s ++ ⟨#[59]⟩)) w) ∧ ∀ w, (Op.stringOp .add (s ++ ⟨#[59]⟩) t).run Tryz.prog w = .ok (.string ((s ++ ⟨#[59]⟩) ++ t)) w := by
  have h1 : ByteArray.size ⟨#[59]⟩ = 1 := rfl
  exact ⟨fun w => run_string_add_sum (P := Tryz.prog) w _ _ (by omega), fun w => run_string_add_sum (P := Tryz.prog) w _ _ (by rw [ByteArray.size_append]; omega)⟩
/-- 'append(out, u)' of one one-celled element onto a row of the call's own; what else is kept. -/
theorem wpList_append1g {P : Program} {w0 w : World} {ops : Array Oper} {rest : List Oper} {o : Oper} {a : Act} {Q : Exit → Act → World → Prop} (hgd : o.guard = none) (s x : Operand) (t : TypeId)
    (ho : o.op = .call { callee := .builtin .append, args := #[s, x], argTypes := #[t, t] })
    (base : Nat) (e : TypeId) (z u : Value) (by_ : Nat) (hI : (P.info? e).map (fun i => (i.zero, i.size, i.bytes)) = some (some z, 1, by_)) (ht : P.underlying t = some (.slice e)) (hz : z.cells.size = 1)
    (hw : w = w0.alloc (.cells #[u] e)) (v : Value) (n : Nat) (xs : List Value) (hs : a.eval s = v) (hown : w0.ownsRow base e 1 v n xs)
    (hx : a.eval x = .slice (some ⟨w0.heap.size, 0, none⟩) 1 1) (hu : u.oneCell' = true)
    (hn : n < 1099511627776) (hby : by_ ≤ 64) (hbase : base ≤ w0.heap.size)
    (h : ∀ v' w', w'.ownsRow base e 1 v' (n + 1) (xs ++ [u]) → Below base w0 w' → (∀ g i c, g < w0.heap.size → v.ownBlock ≠ some g → w0.cell? ⟨g, i, none⟩ = some c → w'.cell? ⟨g, i, none⟩ = some c) → wpList P ops Q rest (a.put o.dst v') w') : wpList P ops Q (o :: rest) a w := by
  subst hw
  obtain ⟨i0, hi, hz0, hz1, hz2⟩ := info_parts hI
  refine wpList_append_own _ hgd s x t ho base e i0 z 1 by_ ht hi hz0 hz1 hz2 hz (by decide) v n xs hs (hown.alloc _) ⟨w0.heap.size, 0, none⟩ 1 1 [u] hx rfl (cell_one_new _ _ _) (by simpa using hu) (by simp [maxLen]; omega) ?_ (by simp; omega) ?_
  · have : (n + 1) * by_ ≤ 1099511627776 * 64 := Nat.mul_le_mul (by omega) hby
    omega
  · intro v' w' h1 h2 _
    exact h v' w' h1 (((Below.refl _ _).alloc hbase _).grown h2 (by simp; omega) (fun g hg => (hown.lt g hg).1)) fun g i c hg hne hc =>
      h2.cell ((World.cell?_alloc_lt _ _ _ hg).trans hc) (fun e => hne e.symm)
set_option maxHeartbeats 1000000 in
theorem i_LivesText {A : Option Addr} {n c : Nat} {xs : List (Nat × Bool)} {w : World} (h : livesOk xs = true) (hr : Reads w w.heap.size 2 A n (ll xs)) (wx : ∀ p ∈ xs, Wf .f32 p.1) (ht : w.cell? ⟨4, 15, none⟩ = some (.int .u8 4)) :
    Calls Tryz.prog 7 #[.slice A n c] w fun e w' => e = .returned (.tuple #[.string (livesB xs), .bool true]) ∧ Below w.heap.size w w' := by
  obtain ⟨r1, r2⟩ := livesOk_rng h
  have hl := lives_len hr
  have hlt := Go.Clock.block_lt ht
  go_enter Tryz.func7, Tryz.ntmps7
  go_wp2_with fail
  refine (i_AreLives (xs := xs) (B := w.heap.size) hr (Nat.le_refl _) (by omega)).mono ?_
  rintro e v1 ⟨rfl, hb⟩
  rw [h]
  have ht1 := (hb.cell (p := ⟨4, 15, none⟩) hlt).trans ht
  have hr1 := (hr.below hb).more hb.size
  go_wp2
  go_loopw [4, 5, 16] (fun v s i wr => ∃ k : Nat, k ≤ n ∧ i = .int .i64 k ∧ s = .string (endsB (xs.take k)) ∧ Hid (wr.ownsRow v1.heap.size 25 1 v k (fl .f32 (timesL (xs.take k)))) ∧ Below v1.heap.size v1 wr) (fun _ _ i _ => n - (intOf i).toNat)
  case atStart => exact ⟨0, Nat.zero_le _, rfl, rfl, hide (World.ownsRow_made _ _ _ (Nat.le_refl _) (by simp [maxLen]) (by simp)), (Below.refl _ _).alloc (Nat.le_refl _) _⟩
  case round =>
    obtain ⟨k, hk, rfl, rfl, hown, hbel⟩ := hrel
    by_cases hk2 : k < n
    · obtain ⟨ad, p, rfl, _, hx, hc, hc2⟩ := reads_ll (hr1.below hbel) hk2
      have HT := hide (times_succ hx)
      have HE := hide (endsB_succ hx)
      have hkI : (k : Int) < (n : Int) := by omega
      have hs1 := fun (b : UInt8) w => run_string_add_sum (P := Tryz.prog) w (endsB (xs.take k)) ⟨#[b]⟩ (by rw [endsB_size]; simp; show _ + 1 ≤ _; omega)
      have hc2b : wr.cell? ⟨(ad.add (k * 2)).block, (ad.add (k * 2)).off + 1, none⟩ = some (.bool p.2) := hc2
      have HO0 := fun o => own_below hown.out ((Below.refl wr.heap.size wr).alloc (Nat.le_refl _) o)
      have hsz := hbel.size
      have hbx := fun o => hbel.alloc hbel.size o
      have hne : u4.ownBlock ≠ some wr.heap.size := fun e => absurd (hown.out.lt _ e).2 (Nat.lt_irrefl _)
      clear hx
      cases hp : p.2
      all_goals
        rw [hp] at hc2b HE
        go_wp2_with (at_builtin; refine wpList_append1g rfl (.tmp 20) (.tmp 23) 28 rfl v1.heap.size 25 (.float .f32 0) _ 4 info_f32 Tryz.underlying28 rfl rfl _ _ _ rfl (HO0 _) (by show Value.slice (some ⟨wr.heap.size + 1, 0, none⟩) 1 1 = _; simp) rfl (by omega) (by omega) (by simp; omega) ?_)
        intro v' w' hown' hb' hkeep
        have hx1 : w'.cell? ⟨wr.heap.size, 1, none⟩ = some (.bool p.2) := hkeep _ _ _ (by simp) hne (by rw [hp]; exact (Blk.new wr _ _).cell 1)
        rw [hp] at hx1
        have hbel' := (hbx _).trans hb'
        have HO : Hid (w'.ownsRow v1.heap.size 25 1 v' (k + 1) (fl .f32 (timesL (xs.take (k + 1))))) := hide (by rw [HT.out]; exact hown')
        clear hown' hb' hkeep
        go_wp2
        go_roundw
        case rel => exact ⟨k + 1, by omega, by go_num, by rw [HE.out]; rfl, HO, hbel'⟩
        case measure => (simp [intOf]; try omega)
    · obtain rfl : k = n := by omega
      have hall : xs.take k = xs := List.take_of_length_le (by omega)
      have hown2 : wr.ownsRow v1.heap.size 25 1 u4 k (fl .f32 (timesL xs)) := by
        have := hown.out
        rwa [hall] at this
      obtain ⟨A2, c2, rfl⟩ := own_shape hown2
      have hr2 := Reads.of_own hown2
      have ht2 := (hbel.cell (p := ⟨4, 15, none⟩) (Nat.lt_of_lt_of_le hlt hb.size)).trans ht1
      have wx2 : ∀ x ∈ timesL xs, Wf .f32 x := by
        intro x hx
        obtain ⟨q, hq, rfl⟩ := List.mem_map.1 hx
        exact wx q hq
      have hz := joinedB_size (timesL xs)
      have hzl : (timesL xs).length = k := by unfold timesL; simpa using hl
      obtain ⟨hs2, hs3⟩ := lives_ops (joinedB (tx (timesL xs))) (endsB xs) (by omega) (by rw [endsB_size]; omega)
      have hkI : ¬ (k : Int) < (k : Int) := by omega
      rw [hall]
      clear hown hown2 hz hzl
      go_wp2_with fail
      refine (i_NumbersText hr2 wx2 (by omega) ht2).mono ?_
      rintro e w1 ⟨rfl, hb1⟩
      go_wp2
      go_ret2
      exact ⟨rfl, hb.trans ((hbel.trans (hb1.mono hbel.size)).mono hb.size)⟩
theorem i_LivesText_no {A : Option Addr} {n c : Nat} {xs : List (Nat × Bool)} {w : World} (h : livesOk xs = false) (hr : Reads w w.heap.size 2 A n (ll xs)) (hn : n ≤ 1048576) :
    Calls Tryz.prog 7 #[.slice A n c] w fun e w' => e = .returned (.tuple #[.string ⟨#[]⟩, .bool false]) ∧ Below w.heap.size w w' := by
  go_enter Tryz.func7, Tryz.ntmps7
  go_wp2_with fail
  refine (i_AreLives (xs := xs) (B := w.heap.size) hr (Nat.le_refl _) (by omega)).mono ?_
  rintro e v1 ⟨rfl, hb⟩
  rw [h]
  go_wp2
  go_ret2
  exact ⟨rfl, hb⟩
def livesS (xs : List (Nat × Bool)) : ByteArray := if livesOk xs = true then livesB xs else ⟨#[]⟩
theorem i_LivesTextB {A : Option Addr} {n c : Nat} {xs : List (Nat × Bool)} {w : World} (hr : Reads w w.heap.size 2 A n (ll xs)) (hn : n ≤ 1048576) (wx : ∀ p ∈ xs, Wf .f32 p.1) (ht : w.cell? ⟨4, 15, none⟩ = some (.int .u8 4)) :
    Calls Tryz.prog 7 #[.slice A n c] w fun e w' => e = .returned (.tuple #[.string (livesS xs), .bool (livesOk xs)]) ∧ Below w.heap.size w w' := by
  unfold livesS
  cases h : livesOk xs
  · exact i_LivesText_no h hr hn
  · exact i_LivesText h hr wx ht
end Go.Proofs.YtjmpldcnhjgpkaaGreatDoor

/-
  ChainText: both sides.
-/
namespace Go.Proofs.YtjmpldcnhjgpkaaGreatDoor
open Go.RowKit Mem Fl Go.Shelf
set_option linter.unusedVariables false
set_option maxRecDepth 100000

theorem chainOk_rng {st : Int} {xs : List Nat} (h : chainOk st xs = true) : 0 ≤ st ∧ st < 100 ∧ 1 ≤ xs.length ∧ xs.length ≤ 64 := by
  unfold chainOk at h
  simp only [Bool.and_eq_true, decide_eq_true_eq] at h
  obtain ⟨h1, h2, _⟩ := h
  have h1' := inB_iff.1 h1
  obtain ⟨q, rfl⟩ := Int.eq_ofNat_of_zero_le (show 0 ≤ st by omega)
  have h3 : xs.length = q * q := by exact_mod_cast h2
  have h4 : q * q ≤ 8 * 8 := Nat.mul_le_mul (by omega) (by omega)
  have h5 : 1 * 1 ≤ q * q := Nat.mul_le_mul (by omega) (by omega)
  omega
set_option maxHeartbeats 1000000 in
theorem i_ChainText {st : Int} {A : Option Addr} {n c : Nat} {xs : List Nat} {w : World} (h : chainOk st xs = true) (hr : Reads w w.heap.size 1 A n (fl .f32 xs)) (hn : n ≤ 1048576) (wx : ∀ a ∈ xs, Wf .f32 a) (ht : w.cell? ⟨4, 15, none⟩ = some (.int .u8 4)) :
    Calls Tryz.prog 9 #[.agg #[.int .i64 st, .slice A n c]] w fun e w' => e = .returned (.tuple #[.string (headB st (joinedB (tx xs))), .bool true]) ∧ Below w.heap.size w w' := by
  obtain ⟨r1, r2, r3, r4⟩ := chainOk_rng h
  have hl := hr.map_len
  have hlt := Go.Clock.block_lt ht
  go_enter Tryz.func9, Tryz.ntmps9
  go_wp2_with fail
  refine (i_ValidChain (xs := xs) (B := w.heap.size) (hr.alloc (Nat.le_refl _) _) (by simp) hn).mono ?_
  rintro e v1 ⟨rfl, hb⟩
  rw [h]
  have c0 : v1.cell? ⟨w.heap.size, 0, none⟩ = some (.int .i64 st) := ((Blk.new w _ _).below hb (by simp)).cell 0
  have c1 : v1.cell? ⟨w.heap.size, 1, none⟩ = some (.slice A n c) := ((Blk.new w _ _).below hb (by simp)).cell 1
  replace hb := ((Below.refl w.heap.size w).alloc (Nat.le_refl _) _).trans (hb.mono (by simp))
  have ht1 := (hb.cell (p := ⟨4, 15, none⟩) hlt).trans ht
  have hr1 := (hr.below hb).more hb.size
  go_wp2_with fail
  refine (i_headed r1 r2 hr1 wx (by omega) ht1).mono ?_
  rintro e v2 ⟨rfl, hb2⟩
  go_wp2
  go_ret2
  exact ⟨rfl, hb.trans (hb2.mono hb.size)⟩
set_option maxHeartbeats 400000 in
theorem i_ChainText_no {st : Int} {A : Option Addr} {n c : Nat} {xs : List Nat} {w : World} (h : chainOk st xs = false) (hr : Reads w w.heap.size 1 A n (fl .f32 xs)) (hn : n ≤ 1048576) :
    Calls Tryz.prog 9 #[.agg #[.int .i64 st, .slice A n c]] w fun e w' => e = .returned (.tuple #[.string ⟨#[]⟩, .bool false]) ∧ Below w.heap.size w w' := by
  go_enter Tryz.func9, Tryz.ntmps9
  go_wp2_with fail
  refine (i_ValidChain (xs := xs) (B := w.heap.size) (hr.alloc (Nat.le_refl _) _) (by simp) hn).mono ?_
  rintro e v1 ⟨rfl, hb⟩
  rw [h]
  go_wp2
  go_ret2
  exact ⟨rfl, ((Below.refl w.heap.size w).alloc (Nat.le_refl _) _).trans (hb.mono (by simp))⟩
theorem keep2 {W W' : World} {g o : Nat} {a b : Value} (hb : Below W.heap.size W W') (hg : g < W.heap.size) (K : W.cell? ⟨g, o, none⟩ = some a ∧ W.cell? ⟨g, o + 1, none⟩ = some b) :
    W'.cell? ⟨g, o, none⟩ = some a ∧ W'.cell? ⟨g, o + 1, none⟩ = some b :=
  ⟨(hb.cell hg).trans K.1, (hb.cell hg).trans K.2⟩
end Go.Proofs.YtjmpldcnhjgpkaaGreatDoor

/-
  Lives: OrderLives and 'at' (how many fail at a time, and how many are at risk).
-/
namespace Go.Proofs.YtjmpldcnhjgpkaaGreatDoor
open Go.RowKit Mem Fl
set_option linter.unusedVariables false
set_option maxRecDepth 100000

theorem livesOk_fin {l : List (Nat × Bool)} (h : livesOk l = true) : ∀ x ∈ l, fin .f32 x.1 = true := by
  intro x hx
  unfold livesOk at h
  simp only [Bool.and_eq_true] at h
  have h1 := List.all_eq_true.1 h.2.2 x hx
  unfold pos at h1
  simp only [Bool.and_eq_true] at h1
  exact h1.1
/-- OrderLives of lives that are valid. -/
theorem i_OrderLives {A : Option Addr} {n c B : Nat} {l : List (Nat × Bool)} {w : World} (h : Reads w B 2 A n (ll l)) (hB : B ≤ w.heap.size) (hn1 : 1 ≤ n) (hn : n ≤ 19) (hok : livesOk l = true) :
    Calls Tryz.prog 24 #[.slice A n c] w fun e w' => ∃ g cap, e = .returned (.tuple #[.slice (some ⟨g, 0, none⟩) n cap, .bool true]) ∧ w.heap.size ≤ g ∧ RowL w' g n (srt l (n - 1)) ∧ Below w.heap.size w w' := by
  have HA := hide (i_AreLives (c := c) h hB (by omega))
  rw [hok] at HA
  have HR := hide h
  have Hf := hide (livesOk_fin hok)
  clear h
  go_enter Tryz.func24, Tryz.ntmps24
  go_wp2_with (go_at_call 29; refine HA.out.mono ?_; rintro e w1 ⟨rfl, hb⟩)
  have HB := hide hb
  have HO := hide (i_ordered (c := c) (HR.out.below (hb.mono hB)) hn1 hn Hf.out)
  clear hb HA HR
  go_wp2_with (go_at_call 60; refine HO.out.mono ?_; rintro e w2 ⟨g, cp, rfl, hg, hR, hb2⟩)
  go_ret2
  exact ⟨g, cp, rfl, Nat.le_trans HB.out.size hg, hR, HB.out.trans (hb2.mono HB.out.size)⟩
def fge (x t : Nat) : Bool := FloatKind.f32.format.order x t == some .gt || FloatKind.f32.format.order x t == some .eq
def feq (x t : Nat) : Bool := FloatKind.f32.format.order x t == some .eq
def atD (l : List (Nat × Bool)) (t : Nat) : Nat := l.countP fun p => p.2 && feq p.1 t
def atR (l : List (Nat × Bool)) (t : Nat) : Nat := l.countP fun p => fge p.1 t
theorem atD_le (l : List (Nat × Bool)) (t : Nat) : atD l t ≤ atR l t := by
  unfold atD atR
  refine List.countP_mono_left (fun p _ h => ?_)
  simp only [Bool.and_eq_true] at h
  have := h.2
  unfold feq at this
  unfold fge
  rw [this, Bool.or_true]
theorem atR_le (l : List (Nat × Bool)) (t : Nat) : atR l t ≤ l.length := List.countP_le_length
theorem atR_pos {l : List (Nat × Bool)} {x : Nat × Bool} (hx : x ∈ l) (hf : fin .f32 x.1 = true) : 1 ≤ atR l x.1 := by
  unfold atR
  refine List.countP_pos_iff.2 ⟨x, hx, ?_⟩
  unfold fge
  rw [order_self, fin_n32 hf]; rfl
theorem atD_succ {l : List (Nat × Bool)} {k t : Nat} {p : Nat × Bool} (hx : l[k]? = some p) : atD (l.take (k + 1)) t = atD (l.take k) t + (if (p.2 && feq p.1 t) = true then 1 else 0) := by
  unfold atD; rw [take_eq hx, List.countP_append, List.countP_singleton]
theorem atR_succ {l : List (Nat × Bool)} {k t : Nat} {p : Nat × Bool} (hx : l[k]? = some p) : atR (l.take (k + 1)) t = atR (l.take k) t + (if fge p.1 t = true then 1 else 0) := by
  unfold atR; rw [take_eq hx, List.countP_append, List.countP_singleton]
set_option maxHeartbeats 4000000 in
theorem i_at {A : Option Addr} {n c B t : Nat} {l : List (Nat × Bool)} {w : World} (h : Reads w B 2 A n (ll l)) (hB : B ≤ w.heap.size) (hn : n ≤ 1000) :
    Calls Tryz.prog 85 #[.slice A n c, .float .f32 t] w fun e w' => e = .returned (.tuple #[.float .f32 (floatOfInt .f32 (atD l t : Int)), .float .f32 (floatOfInt .f32 (atR l t : Int))]) ∧ Below w.heap.size w w' := by
  have Hlen := hide (lives_len h)
  have HR := hide h
  clear h
  go_enter Tryz.func85, Tryz.ntmps85
  go_wp2
  go_loopw [6, 7, 12] (fun a b i wr => ∃ k : Nat, k ≤ n ∧ i = .int .i64 (k : Int) ∧ a = .int .i64 (atD (l.take k) t : Int) ∧ b = .int .i64 (atR (l.take k) t : Int) ∧ Hid (Below w.heap.size w wr)) (fun _ _ i _ => n - (intOf i).toNat)
  case atStart => exact ⟨0, Nat.zero_le _, rfl, rfl, rfl, hide (Below.refl _ _)⟩
  case round =>
    obtain ⟨k, hk, rfl, rfl, rfl, HBl⟩ := hrel
    rename World => wr
    by_cases hlt : k < n
    · obtain ⟨ad, p, rfl, hab, hx, hc, hc2⟩ := reads_ll (HR.out.below (HBl.out.mono hB)) hlt
      have hc2b : wr.cell? ⟨(ad.add (k * 2)).block, (ad.add (k * 2)).off + 1, none⟩ = some (.bool p.2) := hc2
      have HD := hide (atD_succ (t := t) hx)
      have HRr := hide (atR_succ (t := t) hx)
      have hdl : atD (l.take k) t ≤ n := Nat.le_trans (atD_le _ _) (Nat.le_trans (atR_le _ _) (by rw [List.length_take]; omega))
      have hrl : atR (l.take k) t ≤ n := Nat.le_trans (atR_le _ _) (by rw [List.length_take]; omega)
      obtain ⟨x, b⟩ := p
      obtain ⟨D, hD⟩ : ∃ D, atD (l.take k) t = D := ⟨_, rfl⟩
      obtain ⟨R, hR⟩ : ∃ R, atR (l.take k) t = R := ⟨_, rfl⟩
      rw [hD] at HD hdl ⊢
      rw [hR] at HRr hrl ⊢
      clear hx hD hR hc2
      have HG : Hid (fge x t = (FloatKind.f32.format.order x t == some .gt || FloatKind.f32.format.order x t == some .eq)) := hide rfl
      have HE : Hid (feq x t = (FloatKind.f32.format.order x t == some .eq)) := hide rfl
      have hbn : Below w.heap.size w (wr.alloc (.cells #[.float .f32 x, .bool b] 69)) := HBl.out.alloc HBl.out.size _
      have HBn := hide hbn
      clear hbn
      cases h1 : (FloatKind.f32.format.order x t == some .gt) <;> cases h2 : (FloatKind.f32.format.order x t == some .eq) <;> cases b
      all_goals
        rw [h1, h2] at HG
        rw [h2] at HE
        simp only [HG.out, HE.out] at HD HRr
        go_wp2
        go_roundw
        case rel => exact ⟨k + 1, by omega, by go_num, by rw [HD.out]; go_num, by rw [HRr.out]; go_num, HBn⟩
        case measure => simp [intOf]; omega
    · have hkn : k = n := by omega
      rw [hkn, List.take_of_length_le (by rw [Hlen.out]; omega)]
      clear hk hlt
      go_wp2
      go_ret2
      exact ⟨rfl, HBl.out⟩
end Go.Proofs.YtjmpldcnhjgpkaaGreatDoor

/-
  Lives: how many failed, and the times at which something failed.
-/
namespace Go.Proofs.YtjmpldcnhjgpkaaGreatDoor
open Go.RowKit Mem Fl
set_option linter.unusedVariables false
set_option maxRecDepth 100000

def cntF (l : List (Nat × Bool)) : Nat := l.countP fun p => p.2
theorem cntF_succ {l : List (Nat × Bool)} {k : Nat} {p : Nat × Bool} (hx : l[k]? = some p) : cntF (l.take (k + 1)) = cntF (l.take k) + (if p.2 = true then 1 else 0) := by
  unfold cntF; rw [take_eq hx, List.countP_append, List.countP_singleton]
set_option maxHeartbeats 4000000 in
theorem i_failed {A : Option Addr} {n c B : Nat} {l : List (Nat × Bool)} {w : World} (h : Reads w B 2 A n (ll l)) (hB : B ≤ w.heap.size) (hn : n ≤ 1000) :
    Calls Tryz.prog 42 #[.slice A n c] w fun e w' => e = .returned (.int .i64 (cntF l : Int)) ∧ Below w.heap.size w w' := by
  have Hlen := hide (lives_len h)
  have HR := hide h
  clear h
  go_enter Tryz.func42, Tryz.ntmps42
  go_wp2
  go_loopw [3, 8] (fun a i wr => ∃ k : Nat, k ≤ n ∧ i = .int .i64 (k : Int) ∧ a = .int .i64 (cntF (l.take k) : Int) ∧ Hid (Below w.heap.size w wr)) (fun _ i _ => n - (intOf i).toNat)
  case atStart => exact ⟨0, Nat.zero_le _, rfl, rfl, hide (Below.refl _ _)⟩
  case round =>
    obtain ⟨k, hk, rfl, rfl, HBl⟩ := hrel
    rename World => wr
    by_cases hlt : k < n
    · obtain ⟨ad, p, rfl, hab, hx, hc, hc2⟩ := reads_ll (HR.out.below (HBl.out.mono hB)) hlt
      have hc2b : wr.cell? ⟨(ad.add (k * 2)).block, (ad.add (k * 2)).off + 1, none⟩ = some (.bool p.2) := hc2
      have HD := hide (cntF_succ hx)
      have hdl : cntF (l.take k) ≤ n := Nat.le_trans List.countP_le_length (by rw [List.length_take]; omega)
      obtain ⟨x, b⟩ := p
      obtain ⟨D, hD⟩ : ∃ D, cntF (l.take k) = D := ⟨_, rfl⟩
      rw [hD] at HD hdl ⊢
      clear hx hD hc2
      have hbn : Below w.heap.size w (wr.alloc (.cells #[.float .f32 x, .bool b] 69)) := HBl.out.alloc HBl.out.size _
      have HBn := hide hbn
      clear hbn
      cases b
      all_goals
        go_wp2
        go_roundw
        case rel => exact ⟨k + 1, by omega, by go_num, by rw [HD.out]; go_num, HBn⟩
        case measure => simp [intOf]; omega
    · have hkn : k = n := by omega
      rw [hkn, List.take_of_length_le (by rw [Hlen.out]; omega)]
      clear hk hlt
      go_wp2
      go_ret
      exact ⟨rfl, HBl.out⟩
theorem i_CountFailed {A : Option Addr} {n c B : Nat} {l : List (Nat × Bool)} {w : World} (h : Reads w B 2 A n (ll l)) (hB : B ≤ w.heap.size) (hn : n ≤ 1000) (hok : livesOk l = true) :
    Calls Tryz.prog 16 #[.slice A n c] w fun e w' => e = .returned (.tuple #[.int .i64 (cntF l : Int), .bool true]) ∧ Below w.heap.size w w' := by
  have HA := hide (i_AreLives (c := c) h hB (by omega))
  rw [hok] at HA
  have HR := hide h
  clear h
  go_enter Tryz.func16, Tryz.ntmps16
  go_wp2_with (go_at_call 29; refine HA.out.mono ?_; rintro e w1 ⟨rfl, hb⟩)
  have HB := hide hb
  have HO := hide (i_failed (c := c) (HR.out.below (hb.mono hB)) (Nat.le_trans hB hb.size) hn)
  clear hb HA HR
  go_wp2_with (go_at_call 42; refine HO.out.mono ?_; rintro e w2 ⟨rfl, hb2⟩)
  go_ret2
  exact ⟨rfl, HB.out.trans (hb2.mono HB.out.size)⟩
/-- One more life: its time, if it failed and the time is new. -/
def fStep (acc : List Nat) (p : Nat × Bool) : List Nat := if (p.2 && (acc.isEmpty || FloatKind.f32.format.order (acc.getD (acc.length - 1) 0) p.1 != some .eq)) = true then acc ++ [p.1] else acc
def fails (l : List (Nat × Bool)) : List Nat := l.foldl fStep []
theorem fails_succ {l : List (Nat × Bool)} {k : Nat} {p : Nat × Bool} (hx : l[k]? = some p) : fails (l.take (k + 1)) = fStep (fails (l.take k)) p := by
  unfold fails; rw [take_eq hx, List.foldl_append]; rfl
theorem fStep_len (acc : List Nat) (p : Nat × Bool) : (fStep acc p).length ≤ acc.length + 1 := by
  unfold fStep; split
  · simp
  · omega
theorem fails_len : ∀ (l : List (Nat × Bool)) (acc : List Nat), (l.foldl fStep acc).length ≤ acc.length + l.length
  | [], _ => by simp
  | p :: r, acc => by
    have h1 := fails_len r (fStep acc p)
    have h2 := fStep_len acc p
    simp only [List.foldl_cons, List.length_cons]; omega
theorem fStep_mem {acc : List Nat} {p : Nat × Bool} {x : Nat} (h : x ∈ fStep acc p) : x ∈ acc ∨ x = p.1 := by
  unfold fStep at h; split at h
  · rw [List.mem_append, List.mem_singleton] at h; exact h
  · exact .inl h
theorem fails_mem : ∀ (l : List (Nat × Bool)) (acc : List Nat) (x : Nat), x ∈ l.foldl fStep acc → x ∈ acc ∨ ∃ p ∈ l, p.1 = x
  | [], _, x, h => .inl h
  | p :: r, acc, x, h => by
    rcases fails_mem r (fStep acc p) x h with h1 | ⟨q, hq, e⟩
    · rcases fStep_mem h1 with h2 | h2
      · exact .inl h2
      · exact .inr ⟨p, List.mem_cons_self, h2.symm⟩
    · exact .inr ⟨q, List.mem_cons_of_mem _ hq, e⟩
end Go.Proofs.YtjmpldcnhjgpkaaGreatDoor
