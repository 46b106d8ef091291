/-
  Desks: plain form, how one lies in memory; slices.Clone of floats; copyDesk.
-/
import Derived.Test.YtjmpldcnhjgpkaaGreatDoorPlanT
import Derived.Test.YtjmpldcnhjgpkaaGreatDoorReadP
namespace Go.Proofs.YtjmpldcnhjgpkaaGreatDoor
open Go.RowKit Mem Fl
set_option linter.unusedVariables false
set_option maxRecDepth 100000

/-- A desk. -/
structure Dk where
  lv : List (Nat × Bool)
  kd : Int
  sh : Nat
  sc : Nat
  st : Int
  rs : List Nat
  sz : Int
  ac : Int
/-- Its cells. -/
abbrev dkC (LA : Option Addr) (ln lc : Nat) (RA : Option Addr) (rn rc : Nat) (D : Dk) : Array Value := #[.slice LA ln lc, .int .i64 D.kd, .float .f32 D.sh, .float .f32 D.sc, .int .i64 D.st, .slice RA rn rc, .int .i64 D.sz, .int .i64 D.ac]
/-- Block g has elements of a type. -/
def BT (w : World) (g : Nat) (t : TypeId) : Prop := ∃ cs fr, w.heap[g]? = some (.cells cs t fr)
theorem BT.kept {w w' : World} {g : Nat} {t : TypeId} (h : BT w g t) (e : w'.heap[g]? = w.heap[g]?) : BT w' g t := by
  obtain ⟨cs, fr, h⟩ := h; exact ⟨cs, fr, e.trans h⟩
theorem BT.setCell {w : World} {g : Nat} {t : TypeId} (h : BT w g t) (p : Addr) (u : Value) : BT (w.setCell p u) g t := by
  obtain ⟨cs, fr, h⟩ := h
  unfold BT
  simp only [World.setCell, Array.getElem?_modify, h]
  split
  · simp only [Option.map_some]; exact ⟨_, _, rfl⟩
  · exact ⟨_, _, rfl⟩
theorem BT.blk {w : World} {g : Nat} {t : TypeId} {cs : Array Value} (h : Blk w g t cs) : BT w g t := ⟨_, _, h⟩
theorem BT.row {w : World} {g n : Nat} {l : List (Nat × Bool)} (h : RowL w g n l) : BT w g 69 := by
  obtain ⟨cur, h, _⟩ := h; exact .blk h
theorem BT.lt {w : World} {g : Nat} {t : TypeId} (h : BT w g t) : g < w.heap.size := by
  obtain ⟨cs, fr, h⟩ := h
  rcases Nat.lt_or_ge g w.heap.size with hlt | hge
  · exact hlt
  · rw [Array.getElem?_eq_none hge] at h; cases h
theorem BT.ne {w : World} {g g' : Nat} {t t' : TypeId} (h : BT w g t) (h' : BT w g' t') (hne : t ≠ t') : g ≠ g' := by
  rintro rfl
  obtain ⟨_, _, h⟩ := h
  obtain ⟨_, _, h'⟩ := h'
  rw [h] at h'
  injection h' with h'
  injection h' with _ ht
  exact hne ht
/-- The rows of a desk. -/
structure DkR (w : World) (lo B : Nat) (LA : Option Addr) (ln : Nat) (RA : Option Addr) (rn rc : Nat) (D : Dk) : Prop where
  l : Reads w B 2 LA ln (ll D.lv)
  r : Reads w B 1 RA rn (fl .f32 D.rs)
  l1 : 1 ≤ ln
  l2 : ln ≤ 48
  r1 : 1 ≤ rn
  r2 : rn ≤ 64
  rc : rn ≤ rc
  la : ∀ ad, LA = some ad → lo ≤ ad.block ∧ BT w ad.block 69
  ra : ∀ ad, RA = some ad → lo ≤ ad.block ∧ BT w ad.block 25
theorem DkR.below {w w' : World} {lo B B' : Nat} {LA RA : Option Addr} {ln rn rc : Nat} {D : Dk} (h : DkR w lo B LA ln RA rn rc D) (hb : Below B' w w') (hB : B ≤ B') : DkR w' lo B LA ln RA rn rc D :=
  ⟨h.l.below (hb.mono hB), h.r.below (hb.mono hB), h.l1, h.l2, h.r1, h.r2, h.rc,
    fun ad e => ⟨(h.la ad e).1, (h.la ad e).2.kept (hb.block _ (by obtain ⟨ad', e', hb', _⟩ := h.l.2 (by have := h.l1; omega); rw [e] at e'; injection e' with e'; subst e'; omega))⟩,
    fun ad e => ⟨(h.ra ad e).1, (h.ra ad e).2.kept (hb.block _ (by obtain ⟨ad', e', hb', _⟩ := h.r.2 (by have := h.r1; omega); rw [e] at e'; injection e' with e'; subst e'; omega))⟩⟩
theorem DkR.more {w : World} {lo B B' : Nat} {LA RA : Option Addr} {ln rn rc : Nat} {D : Dk} (h : DkR w lo B LA ln RA rn rc D) (hB : B ≤ B') : DkR w lo B' LA ln RA rn rc D :=
  ⟨h.l.more hB, h.r.more hB, h.l1, h.l2, h.r1, h.r2, h.rc, h.la, h.ra⟩
theorem DkR.drewN {w : World} {lo B : Nat} {LA RA : Option Addr} {ln rn rc : Nat} {D : Dk} (h : DkR w lo B LA ln RA rn rc D) (k : Nat) : DkR (w.drewN k) lo B LA ln RA rn rc D :=
  ⟨h.l.drewN k, h.r.drewN k, h.l1, h.l2, h.r1, h.r2, h.rc, h.la, h.ra⟩
theorem DkR.lo_le {w : World} {lo B : Nat} {LA RA : Option Addr} {ln rn rc : Nat} {D : Dk} (h : DkR w lo B LA ln RA rn rc D) : lo ≤ B := by
  obtain ⟨ad, e, hb, _⟩ := h.l.2 (by have := h.l1; omega)
  have := (h.la ad e).1
  omega
theorem DkR.down {w : World} {lo lo' B : Nat} {LA RA : Option Addr} {ln rn rc : Nat} {D : Dk} (h : DkR w lo B LA ln RA rn rc D) (hl : lo' ≤ lo) : DkR w lo' B LA ln RA rn rc D :=
  ⟨h.l, h.r, h.l1, h.l2, h.r1, h.r2, h.rc, fun ad e => ⟨Nat.le_trans hl (h.la ad e).1, (h.la ad e).2⟩, fun ad e => ⟨Nat.le_trans hl (h.ra ad e).1, (h.ra ad e).2⟩⟩
/-- A store below the rows. -/
theorem DkR.put {w : World} {lo B : Nat} {LA RA : Option Addr} {ln rn rc : Nat} {D : Dk} (h : DkR w lo B LA ln RA rn rc D) {p : Addr} (hp : p.block < lo) (u : Value) : DkR (w.setCell p u) lo B LA ln RA rn rc D := by
  refine ⟨⟨h.l.1, fun hn => ?_⟩, ⟨h.r.1, fun hn => ?_⟩, h.l1, h.l2, h.r1, h.r2, h.rc, fun ad e => ⟨(h.la ad e).1, (h.la ad e).2.setCell _ _⟩, fun ad e => ⟨(h.ra ad e).1, (h.ra ad e).2.setCell _ _⟩⟩
  · obtain ⟨ad, e, hb, hc⟩ := h.l.2 hn
    have := (h.la ad e).1
    exact ⟨ad, e, hb, fun j v hv => (World.cell?_setCell_other w p _ u (fun e2 => by subst e2; rw [block_of_add] at hp; omega)).trans (hc j v hv)⟩
  · obtain ⟨ad, e, hb, hc⟩ := h.r.2 hn
    have := (h.ra ad e).1
    exact ⟨ad, e, hb, fun j v hv => (World.cell?_setCell_other w p _ u (fun e2 => by subst e2; rw [block_of_add] at hp; omega)).trans (hc j v hv)⟩
theorem own_lo {w : World} {base base' n c size : Nat} {e : TypeId} {A : Option Addr} {xs : List Value} (h : w.ownsRow base e size (.slice A n c) n xs) (hb : 0 < n ∧ base' ≤ base) {ad : Addr} (hA : A = some ad) : base' ≤ ad.block ∧ BT w ad.block e := by
  rcases h with ⟨_, ⟨_, h0⟩ | ⟨g, cap, cur, hv, hg, hh, _⟩⟩
  · omega
  · injection hv with e1
    rw [hA] at e1
    injection e1 with e1
    rw [e1]
    exact ⟨Nat.le_trans hb.2 hg, ⟨_, _, hh⟩⟩
theorem dkr_of {w : World} {lo base g cp n rn rc : Nat} {A : Option Addr} {D : Dk} (h1 : RowL w g n D.lv) (hg : lo ≤ g) (h2 : w.ownsRow base 25 1 (.slice A rn rc) rn (fl .f32 D.rs)) (hb : lo ≤ base) (l1 : 1 ≤ n) (l2 : n ≤ 48) (r1 : 1 ≤ rn) (r2 : rn ≤ 64) (hc : rn ≤ rc) :
    DkR w lo w.heap.size (some ⟨g, 0, none⟩) n A rn rc D :=
  ⟨rowL_reads h1, Reads.of_own h2, l1, l2, r1, r2, hc, fun ad e => by (injection e with e; subst e; exact ⟨hg, .row h1⟩), fun ad e => own_lo h2 ⟨by omega, hb⟩ e⟩
set_option maxHeartbeats 2000000 in
theorem g_CloneF {A : Option Addr} {n c B : Nat} {l : List Nat} {w : World} (h : Reads w B 1 A n (fl .f32 l)) (hn1 : 1 ≤ n) (hn : n ≤ 1048576) :
    Calls Tryz.prog 82 #[.slice A n c] w fun e w' => ∃ A' cap, e = .returned (.slice A' n cap) ∧ n ≤ cap ∧ w'.ownsRow w.heap.size 25 1 (.slice A' n cap) n (fl .f32 l) ∧ Below w.heap.size w w' := by
  obtain ⟨hl, h2⟩ := h
  obtain ⟨ad, rfl, hb, hc⟩ := h2 (by omega)
  have Ha := hide hc
  have Hl := hide hl
  clear hc hl h2
  obtain ⟨i0, hi, hz0, hz1, hz2⟩ := info_parts info_f32
  have q22 : ∀ (w : World) (a : Option Addr) (n c n' c' : Nat), (binOp .eql 28 (.slice a n c) (.slice none n' c')).run Tryz.prog w = .ok (.bool a.isNone) w := fun w a n c n' c' => Lib.run_eql_slice_nil w _ _ a n c n' c' Tryz.underlying28
  go_enter Tryz.func82, Tryz.ntmps82
  go_wp2_with (at_builtin; refine wpList_append_own _ rfl _ _ 28 rfl w.heap.size 25 i0 (.float .f32 0) 1 4 Tryz.underlying28 hi hz0 hz1 hz2 rfl (by decide) _ _ _ rfl (World.ownsRow_made w #[] 0 (Nat.le_refl _) (Nat.zero_le _) (by simp)) ad n c (fl .f32 l) rfl ?qc1 ?qc2 ?qc3 ?qc4 ?qc5 ?qc6 ?_)
  case qc1 => exact Hl.out
  case qc2 =>
    intro j u hj
    exact Lib.cell?_alloc_some _ (Ha.out j u hj)
  case qc3 => intro y hy; unfold fl at hy; obtain ⟨x, _, rfl⟩ := List.mem_map.1 hy; rfl
  case qc4 => rw [Nat.zero_add]; simp only [maxLen]; omega
  case qc5 => rw [Nat.zero_add]; omega
  case qc6 => simp
  intro v' w1 hown hgrow hnil
  have hown' : w1.ownsRow w.heap.size 25 1 v' n (fl .f32 l) := by simpa using hown
  have HBl := hide (((Below.refl _ w).alloc (Nat.le_refl _) _).grown hgrow (by simp) (by intro k hk; simp [Value.ownBlock] at hk; omega))
  have HV : Hid (∃ A' cap, v' = .slice A' n cap ∧ n ≤ cap ∧ w1.ownsRow w.heap.size 25 1 (.slice A' n cap) n (fl .f32 l)) := hide (by
    rcases hown' with ⟨hl, ⟨_, h0⟩ | ⟨g, cap, cur, rfl, hb, hh, hc, hr⟩⟩
    · omega
    · exact ⟨_, cap, rfl, hc, ⟨hl, .inr ⟨g, cap, cur, rfl, hb, hh, hc, hr⟩⟩⟩)
  clear hown hown' hgrow hnil Ha Hl
  obtain ⟨A', cap, rfl, h1, h2⟩ := HV.out
  have h1' := hide h1
  have h2' := hide h2
  clear h1 h2 HV
  go_wp2
  go_ret
  exact ⟨A', cap, rfl, h1'.out, h2'.out, HBl.out⟩
theorem RowL.farg {w : World} {g n : Nat} {l : List (Nat × Bool)} (h : RowL w g n l) {p : Addr} (hp : g ≠ p.block) (u : Value) : RowL (w.setCell p u) g n l := by
  obtain ⟨cur, hb, r⟩ := h; exact ⟨cur, hb.far hp u, r⟩
set_option maxHeartbeats 8000000 in
theorem i_copyDesk {LA RA : Option Addr} {ln lc rn rc : Nat} {D : Dk} {lo : Nat} {w : World} (h : DkR w lo w.heap.size LA ln RA rn rc D) :
    Calls Tryz.prog 40 #[.agg (dkC LA ln lc RA rn rc D)] w fun e w' => ∃ LA' lc' RA' rc', e = .returned (.agg (dkC LA' ln lc' RA' rn rc' D)) ∧ DkR w' w.heap.size w'.heap.size LA' ln RA' rn rc' D ∧ Below w.heap.size w w' := by
  have hl1 := h.l1
  have hl2 := h.l2
  have hr1 := h.r1
  have hr2 := h.r2
  have HL := hide h.l
  have HR := hide h.r
  have H1 : Hid (∀ W, Below w.heap.size w W → _) := hide (fun W hb => g_CloneL (c := lc) (HL.out.below hb) hl1 (by omega))
  have H2 : Hid (∀ W, Below w.heap.size w W → _) := hide (fun W hb => g_CloneF (c := rc) (HR.out.below hb) hr1 (by omega))
  clear h
  have hz : Hid (∀ o1 o2, ((w.alloc o1).alloc o2).heap.size = w.heap.size + 2) := hide (by simp)
  go_enter Tryz.func40, Tryz.ntmps40
  go_wp2
  go_region_with (first
    | (go_at_call 81
       refine (H1.out _ (below_drewN (((Below.refl _ _).alloc (Nat.le_refl _) _).alloc (by simp) _) 1)).mono ?_
       rintro e w1 ⟨g1, cp1, rfl, hg1, hR1, hb1⟩
       have HA1 := hide (((Blk.new w 34 (dkC LA ln lc RA rn rc D)).alloc (.cells (dkC none 0 0 none 0 0 ⟨[], 0, 0, 0, 0, [], 0, 0⟩) 34)).drew.below hb1 (by simp; omega))
       have HB1 := hide ((Blk.new (w.alloc (.cells (dkC LA ln lc RA rn rc D) 34)) 34 (dkC none 0 0 none 0 0 ⟨[], 0, 0, 0, 0, [], 0, 0⟩)).drew.below hb1 (by simp))
       have a5 : w1.cell? ⟨w.heap.size, 5, none⟩ = some (.slice RA rn rc) := HA1.out.cell 5
       have HC1 := hide ((below_drewN (((Below.refl w.heap.size w).alloc (Nat.le_refl _) _).alloc (by simp) _) 1).trans (hb1.mono (by simp; omega)))
       have HR1 := hide hR1
       have hs1 : w.heap.size + 2 ≤ w1.heap.size := by have := hb1.size; simp at this; omega
       clear hb1 hR1)
    | (go_at_call 82
       refine (H2.out _ HC1.out).mono ?_
       rintro e w2 ⟨A2, cp2, rfl, hc2, hR2, hb2⟩
       have HR2 := hide hR2
       have HR1' := hide (HR1.out.below hb2)
       have HA2 := hide (HA1.out.below hb2 (by omega))
       have HB2 := hide (HB1.out.below hb2 (by simp; omega))
       have a0 : w2.cell? ⟨w.heap.size, 0, none⟩ = some (.slice LA ln lc) := HA2.out.cell 0
       have f0 : w2.frozen? ⟨w.heap.size, 0, none⟩ = false := HA2.out.frozen 0
       have a5' : w2.cell? ⟨w.heap.size, 5, none⟩ = some (.slice RA rn rc) := HA2.out.cell 5
       have f5 : w2.frozen? ⟨w.heap.size, 5, none⟩ = false := HA2.out.frozen 5
       have HC2 := hide (HC1.out.trans (hb2.mono HC1.out.size))
       have hs2 : w.heap.size + 2 ≤ w2.heap.size := by have := hb2.size; omega
       clear hb2 hR2))
  all_goals
    have a1 : w2.cell? ⟨w.heap.size, 1, none⟩ = some (.int .i64 D.kd) := HA2.out.cell 1
    have a2 : w2.cell? ⟨w.heap.size, 2, none⟩ = some (.float .f32 D.sh) := HA2.out.cell 2
    have a3 : w2.cell? ⟨w.heap.size, 3, none⟩ = some (.float .f32 D.sc) := HA2.out.cell 3
    have a4 : w2.cell? ⟨w.heap.size, 4, none⟩ = some (.int .i64 D.st) := HA2.out.cell 4
    have a6 : w2.cell? ⟨w.heap.size, 6, none⟩ = some (.int .i64 D.sz) := HA2.out.cell 6
    have a7 : w2.cell? ⟨w.heap.size, 7, none⟩ = some (.int .i64 D.ac) := HA2.out.cell 7
    have HB2' : Hid (Blk w2 (w.heap.size + 1) 34 (dkC none 0 0 none 0 0 ⟨[], 0, 0, 0, 0, [], 0, 0⟩)) := hide (by have := HB2.out; rwa [show (w.alloc (.cells (dkC LA ln lc RA rn rc D) 34)).heap.size = w.heap.size + 1 by simp] at this)
    have o0 : w2.cell? ⟨w.heap.size + 1, 0, none⟩ = some (.slice none 0 0) := HB2'.out.cell 0
    have of0 : w2.frozen? ⟨w.heap.size + 1, 0, none⟩ = false := HB2'.out.frozen 0
    have o1 : w2.cell? ⟨w.heap.size + 1, 1, none⟩ = some (.int .i64 0) := HB2'.out.cell 1
    have of1 : w2.frozen? ⟨w.heap.size + 1, 1, none⟩ = false := HB2'.out.frozen 1
    have o2 : w2.cell? ⟨w.heap.size + 1, 2, none⟩ = some (.float .f32 0) := HB2'.out.cell 2
    have of2 : w2.frozen? ⟨w.heap.size + 1, 2, none⟩ = false := HB2'.out.frozen 2
    have o3 : w2.cell? ⟨w.heap.size + 1, 3, none⟩ = some (.float .f32 0) := HB2'.out.cell 3
    have of3 : w2.frozen? ⟨w.heap.size + 1, 3, none⟩ = false := HB2'.out.frozen 3
    have o4 : w2.cell? ⟨w.heap.size + 1, 4, none⟩ = some (.int .i64 0) := HB2'.out.cell 4
    have of4 : w2.frozen? ⟨w.heap.size + 1, 4, none⟩ = false := HB2'.out.frozen 4
    have o5 : w2.cell? ⟨w.heap.size + 1, 5, none⟩ = some (.slice none 0 0) := HB2'.out.cell 5
    have of5 : w2.frozen? ⟨w.heap.size + 1, 5, none⟩ = false := HB2'.out.frozen 5
    have o6 : w2.cell? ⟨w.heap.size + 1, 6, none⟩ = some (.int .i64 0) := HB2'.out.cell 6
    have of6 : w2.frozen? ⟨w.heap.size + 1, 6, none⟩ = false := HB2'.out.frozen 6
    have o7 : w2.cell? ⟨w.heap.size + 1, 7, none⟩ = some (.int .i64 0) := HB2'.out.cell 7
    have of7 : w2.frozen? ⟨w.heap.size + 1, 7, none⟩ = false := HB2'.out.frozen 7
    have hg1' : w.heap.size + 2 ≤ g1 := by have := hg1; simp at this; omega
    clear hg1 HB2 HB1 HA1 a5
    go_wp2
    refine bodyPost_ret (results_cell_row (P := Tryz.prog) rfl _ _ (w.heap.size + 1) 34 (dkC (some ⟨g1, 0, none⟩) ln cp1 A2 rn cp2 D) (0, 0) _ rfl ?_ Tryz.underlying34 rfl (by kernel_rfl)) rfl ?_
    · exact ((((((((((HB2'.out.far (by first | (simp; done) | (simp; omega)) _).far (by first | (simp; done) | (simp; omega)) _).set_ 0 _).set_ 1 _).set_ 2 _).set_ 3 _).set_ 4 _).set_ 5 _).set_ 6 _).set_ 7 _)
    · refine ⟨some ⟨g1, 0, none⟩, cp1, A2, cp2, rfl, dkr_of (base := w.heap.size + 2) (cp := cp1) ?_ (by omega) ?_ (by omega) hl1 hl2 hr1 hr2 hc2, ?_⟩
      · exact ((((((((((HR1'.out.farg (by first | (simp; done) | (simp; omega)) _).farg (by first | (simp; done) | (simp; omega)) _).farg (by first | (simp; done) | (simp; omega)) _).farg (by first | (simp; done) | (simp; omega)) _).farg (by first | (simp; done) | (simp; omega)) _).farg (by first | (simp; done) | (simp; omega)) _).farg (by first | (simp; done) | (simp; omega)) _).farg (by first | (simp; done) | (simp; omega)) _).farg (by first | (simp; done) | (simp; omega)) _).farg (by first | (simp; done) | (simp; omega)) _)
      · exact own_put (own_put (own_put (own_put (own_put (own_put (own_put (own_put (own_put (own_put (own_up HR2.out hs1) (by first | (simp; done) | (simp; omega)) _) (by first | (simp; done) | (simp; omega)) _) (by first | (simp; done) | (simp; omega)) _) (by first | (simp; done) | (simp; omega)) _) (by first | (simp; done) | (simp; omega)) _) (by first | (simp; done) | (simp; omega)) _) (by first | (simp; done) | (simp; omega)) _) (by first | (simp; done) | (simp; omega)) _) (by first | (simp; done) | (simp; omega)) _) (by first | (simp; done) | (simp; omega)) _
      · exact ((((((((((HC2.out.setCell (by first | (simp; done) | (simp; omega)) _).setCell (by first | (simp; done) | (simp; omega)) _).setCell (by first | (simp; done) | (simp; omega)) _).setCell (by first | (simp; done) | (simp; omega)) _).setCell (by first | (simp; done) | (simp; omega)) _).setCell (by first | (simp; done) | (simp; omega)) _).setCell (by first | (simp; done) | (simp; omega)) _).setCell (by first | (simp; done) | (simp; omega)) _).setCell (by first | (simp; done) | (simp; omega)) _).setCell (by first | (simp; done) | (simp; omega)) _)
end Go.Proofs.YtjmpldcnhjgpkaaGreatDoor
