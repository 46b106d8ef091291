/-
  Desks: a line is carried out at a desk.
-/
import Derived.Test.YtjmpldcnhjgpkaaGreatDoorDkF
namespace Go.Proofs.YtjmpldcnhjgpkaaGreatDoor
open Go.RowKit Mem Fl Go.Shelf
set_option linter.unusedVariables false
set_option maxRecDepth 100000

/-- A desk as a value. -/
def DkV (w : World) (v : Value) (D : Dk) : Prop := ∃ LA ln lc RA rn rc, v = .agg (dkC LA ln lc RA rn rc D) ∧ DkR w 0 w.heap.size LA ln RA rn rc D
theorem DkV.below {w w' : World} {v : Value} {D : Dk} (h : DkV w v D) (hb : Below w.heap.size w w') : DkV w' v D := by
  obtain ⟨LA, ln, lc, RA, rn, rc, h1, h2⟩ := h
  exact ⟨LA, ln, lc, RA, rn, rc, h1, (h2.below hb (Nat.le_refl _)).more hb.size⟩
theorem DkR.far {w : World} {lo B : Nat} {LA RA : Option Addr} {ln rn rc : Nat} {D : Dk} (h : DkR w lo B LA ln RA rn rc D) {p : Addr} (hp : B ≤ p.block) (u : Value) : DkR (w.setCell p u) lo B LA ln RA rn rc D :=
  ⟨h.l.setCell hp u, h.r.setCell hp u, h.l1, h.l2, h.r1, h.r2, h.rc, fun ad e => ⟨(h.la ad e).1, (h.la ad e).2.setCell _ _⟩, fun ad e => ⟨(h.ra ad e).1, (h.ra ad e).2.setCell _ _⟩⟩
/-- A line does this to any desk in a block. -/
def Line (D : Dk) (P : List ByteArray) (D' : Dk) (t : ByteArray) (ok has : Bool) : Prop :=
  ∀ (W : World) (lo g b : Nat), DkAt W lo g D → Gl W → Blk W b 9 (P.map Value.string).toArray → b ≠ g → Calls Tryz.prog 79 #[.pointer (some ⟨g, 0, none⟩), .slice (some ⟨b, 0, none⟩) P.length P.length] W (Did lo g D' t ok has W)
def dkOk (D : Dk) : Bool := deskOk D.lv D.kd D.sh D.sc D.st D.rs D.sz D.ac
abbrev dk0 : Array Value := #[.slice none 0 0, .int .i64 0, .float .f32 0, .float .f32 0, .int .i64 0, .slice none 0 0, .int .i64 0, .int .i64 0]
set_option maxHeartbeats 8000000 in
theorem cmd_yes {v : Value} {D D' : Dk} {line t : ByteArray} {P : List ByteArray} {w : World} (hv : DkV w v D) (G : Gl w) (hl : line.size ≤ 1048576) (hP : splitS line 32 = P) (HL : Line D P D' t true true) (hok : dkOk D' = true) :
    Calls Tryz.prog 38 #[v, .string line] w fun e w' => ∃ v', e = .returned (.tuple #[v', .string t]) ∧ DkV w' v' D' ∧ Below w.heap.size w w' := by
  have HOk := hide hok
  clear hok
  obtain ⟨LA, ln, lc, RA, rn, rc, rfl, hR⟩ := hv
  obtain ⟨bs, m2⟩ := G.m2
  have hlm := Go.Clock.block_lt m2
  have hlen : (splitS line 32).length = P.length := by rw [hP]
  have HG := hide G
  have HC : Hid (∀ o1 o2, Calls Tryz.prog 40 #[.agg (dkC LA ln lc RA rn rc D)] ((w.alloc o1).alloc o2) fun e w' => ∃ LA' lc' RA' rc', e = .returned (.agg (dkC LA' ln lc' RA' rn rc' D)) ∧ DkR w' ((w.alloc o1).alloc o2).heap.size w'.heap.size LA' ln RA' rn rc' D ∧ Below ((w.alloc o1).alloc o2).heap.size ((w.alloc o1).alloc o2) w') := hide (fun o1 o2 => i_copyDesk ((hR.below (B' := w.heap.size) (((Below.refl _ _).alloc (Nat.le_refl _) _).alloc (by simp) _) (Nat.le_refl _)).more (by simp; omega)))
  have HB0 : Hid (∀ o1 o2, Below w.heap.size w ((w.alloc o1).alloc o2)) := hide (fun o1 o2 => ((Below.refl _ _).alloc (Nat.le_refl _) _).alloc (by simp) _)
  have HSp := hide (fun (W : World) (hb : Below w.heap.size w W) => split_calls (s := line) (m := 32) W (by omega) ((hb.cell (p := ⟨renSplit.g 1, 0, none⟩) hlm).trans m2))
  rw [hP] at HSp
  have HLn := hide HL
  have HLW := hide hlen
  clear hR G m2 hlm HL hlen hP
  go_enter Tryz.func38, Tryz.ntmps38
  go_wp2_with (go_at_call 40; refine (HC.out _ _).mono ?_; rintro e w1 ⟨LA1, lc1, RA1, rc1, rfl, hR1, hb1⟩)
  have hs1 : w.heap.size + 2 ≤ w1.heap.size := by have := hb1.size; simp at this; omega
  have HN1 : Hid (Blk w1 w.heap.size 34 (dkC LA ln lc RA rn rc D)) := hide (((Blk.new w _ _).alloc _).below hb1 (by simp; omega))
  have HZ1 : Hid (Blk w1 (w.heap.size + 1) 34 dk0) := hide ((blk_new' (w.alloc _) (w.heap.size + 1) _ _ (by simp)).below hb1 (by simp))
  have HB1 : Hid (Below w.heap.size w w1) := hide ((HB0.out _ _).trans (hb1.mono (by simp; omega)))
  obtain ⟨o1, ho1⟩ : ∃ o, o = Obj.cells (dkC LA1 ln lc1 RA1 rn rc1 D) 34 := ⟨_, rfl⟩
  have HS1 := HSp.out (w1.alloc o1) (HB1.out.alloc HB1.out.size _)
  rw [show (w1.alloc o1).heap.size = w1.heap.size + 1 by simp, ho1] at HS1
  have HS1' := hide HS1
  clear HS1 HSp hb1 HC
  refine HS1'.out.mono ?_
  rintro e w2 ⟨rfl, hw2⟩
  have HA2 : Hid (Blk w2 w1.heap.size 34 (dkC LA1 ln lc1 RA1 rn rc1 D)) := hide (by rw [hw2]; exact (Blk.new w1 _ _).alloc _)
  have HT2 : Hid (Blk w2 (w1.heap.size + 1) 9 (P.map Value.string).toArray) := hide (by rw [hw2]; exact blk_new' _ _ _ _ (by simp))
  have b12 : Below w1.heap.size w1 w2 := by rw [hw2]; exact ((Below.refl _ _).alloc (Nat.le_refl _) _).alloc (by simp) _
  have HB2 : Hid (Below w.heap.size w w2) := hide (HB1.out.trans (b12.mono HB1.out.size))
  have HN2 : Hid (Blk w2 w.heap.size 34 (dkC LA ln lc RA rn rc D)) := hide (HN1.out.below b12 (by omega))
  have HZ2 : Hid (Blk w2 (w.heap.size + 1) 34 dk0) := hide (HZ1.out.below b12 (by omega))
  have hAt : DkAt w2 (w.heap.size + 2) w1.heap.size D := ⟨_, _, _, _, _, _, HA2.out, (hR1.below b12 (Nat.le_refl _)).down (by simp)⟩
  have HK := hide (HLn.out w2 _ w1.heap.size (w1.heap.size + 1) hAt (HG.out.below HB2.out) HT2.out (by omega))
  have hs2 : w1.heap.size < w2.heap.size := HA2.out.lt
  clear HN1 HZ1 HS1' hw2 hAt HA2 HT2 HLn hR1 ho1 o1 HB0 HLW
  go_wp2_with (go_at_call 79; refine HK.out.mono ?_; rintro e w3 ⟨rfl, h3, hg3⟩; replace h3 := hide h3; have HB3 : Hid (Below w.heap.size w w3) := hide (HB2.out.trans ((below_of_only hg3 hs2).mono (by omega))); have HN3 : Hid (Blk w3 w.heap.size 34 (dkC LA ln lc RA rn rc D)) := hide (HN2.out.grown hg3 (by intro e; injection e with e; omega)); have HZ3 : Hid (Blk w3 (w.heap.size + 1) 34 dk0) := hide (HZ2.out.grown hg3 (by intro e; injection e with e; omega)); have hs3 := hg3.size; clear hg3 HN2 HZ2 HB2 HK; obtain ⟨LA3, ln3, lc3, RA3, rn3, rc3, hA3, hR3⟩ := h3.out; replace hA3 := hide hA3; clear h3; have c0 : w3.cell? ⟨w1.heap.size, 0, none⟩ = some (.slice LA3 ln3 lc3) := hA3.out.cell 0; have c1 : w3.cell? ⟨w1.heap.size, 1, none⟩ = some (.int .i64 D'.kd) := hA3.out.cell 1; have c2 : w3.cell? ⟨w1.heap.size, 2, none⟩ = some (.float .f32 D'.sh) := hA3.out.cell 2; have c3 : w3.cell? ⟨w1.heap.size, 3, none⟩ = some (.float .f32 D'.sc) := hA3.out.cell 3; have c4 : w3.cell? ⟨w1.heap.size, 4, none⟩ = some (.int .i64 D'.st) := hA3.out.cell 4; have c5 : w3.cell? ⟨w1.heap.size, 5, none⟩ = some (.slice RA3 rn3 rc3) := hA3.out.cell 5; have c6 : w3.cell? ⟨w1.heap.size, 6, none⟩ = some (.int .i64 D'.sz) := hA3.out.cell 6; have c7 : w3.cell? ⟨w1.heap.size, 7, none⟩ = some (.int .i64 D'.ac) := hA3.out.cell 7; have HVd := hide (i_ValidDesk (lc := lc3) (rc := rc3) (kd := D'.kd) (sh := D'.sh) (sc := D'.sc) (st := D'.st) (sz := D'.sz) (ac := D'.ac) (Nat.le_refl w3.heap.size) hR3.l hR3.r (by have := hR3.l2; omega) (by have := hR3.r2; omega)); rw [show deskOk D'.lv D'.kd D'.sh D'.sc D'.st D'.rs D'.sz D'.ac = true from HOk.out] at HVd)
  go_wp2_with (go_at_call 15; refine HVd.out.mono ?_; rintro e w4 ⟨rfl, hb4⟩; have hA4 := hide (hA3.out.below hb4 (by omega)); have HZ4 := hide (HZ3.out.below hb4 (by omega)); have HB4 := hide (HB3.out.trans (hb4.mono HB3.out.size)); have hR4 := (hR3.below hb4 (Nat.le_refl _)).more hb4.size; have hs4 := hb4.size; clear hb4 hA3 HZ3 HB3 HVd c0 c1 c2 c3 c4 c5 c6 c7; have d0 : w4.cell? ⟨w1.heap.size, 0, none⟩ = some (.slice LA3 ln3 lc3) := hA4.out.cell 0; have d1 : w4.cell? ⟨w1.heap.size, 1, none⟩ = some (.int .i64 D'.kd) := hA4.out.cell 1; have d2 : w4.cell? ⟨w1.heap.size, 2, none⟩ = some (.float .f32 D'.sh) := hA4.out.cell 2; have d3 : w4.cell? ⟨w1.heap.size, 3, none⟩ = some (.float .f32 D'.sc) := hA4.out.cell 3; have d4 : w4.cell? ⟨w1.heap.size, 4, none⟩ = some (.int .i64 D'.st) := hA4.out.cell 4; have d5 : w4.cell? ⟨w1.heap.size, 5, none⟩ = some (.slice RA3 rn3 rc3) := hA4.out.cell 5; have d6 : w4.cell? ⟨w1.heap.size, 6, none⟩ = some (.int .i64 D'.sz) := hA4.out.cell 6; have d7 : w4.cell? ⟨w1.heap.size, 7, none⟩ = some (.int .i64 D'.ac) := hA4.out.cell 7; have z0 : w4.cell? ⟨w.heap.size + 1, 0, none⟩ = some (.slice none 0 0) := HZ4.out.cell 0; have zf0 : w4.frozen? ⟨w.heap.size + 1, 0, none⟩ = false := HZ4.out.frozen 0; have z1 : w4.cell? ⟨w.heap.size + 1, 1, none⟩ = some (.int .i64 0) := HZ4.out.cell 1; have zf1 : w4.frozen? ⟨w.heap.size + 1, 1, none⟩ = false := HZ4.out.frozen 1; have z2 : w4.cell? ⟨w.heap.size + 1, 2, none⟩ = some (.float .f32 0) := HZ4.out.cell 2; have zf2 : w4.frozen? ⟨w.heap.size + 1, 2, none⟩ = false := HZ4.out.frozen 2; have z3 : w4.cell? ⟨w.heap.size + 1, 3, none⟩ = some (.float .f32 0) := HZ4.out.cell 3; have zf3 : w4.frozen? ⟨w.heap.size + 1, 3, none⟩ = false := HZ4.out.frozen 3; have z4 : w4.cell? ⟨w.heap.size + 1, 4, none⟩ = some (.int .i64 0) := HZ4.out.cell 4; have zf4 : w4.frozen? ⟨w.heap.size + 1, 4, none⟩ = false := HZ4.out.frozen 4; have z5 : w4.cell? ⟨w.heap.size + 1, 5, none⟩ = some (.slice none 0 0) := HZ4.out.cell 5; have zf5 : w4.frozen? ⟨w.heap.size + 1, 5, none⟩ = false := HZ4.out.frozen 5; have z6 : w4.cell? ⟨w.heap.size + 1, 6, none⟩ = some (.int .i64 0) := HZ4.out.cell 6; have zf6 : w4.frozen? ⟨w.heap.size + 1, 6, none⟩ = false := HZ4.out.frozen 6; have z7 : w4.cell? ⟨w.heap.size + 1, 7, none⟩ = some (.int .i64 0) := HZ4.out.cell 7; have zf7 : w4.frozen? ⟨w.heap.size + 1, 7, none⟩ = false := HZ4.out.frozen 7)
  go_wp2
  refine bodyPost_ret (results_row_tmp (P := Tryz.prog) rfl _ _ (w.heap.size + 1) 34 (dkC LA3 ln3 lc3 RA3 rn3 rc3 D') (0, 0) _ rfl (((((((((HZ4.out).set_ 0 _).set_ 1 _).set_ 2 _).set_ 3 _).set_ 4 _).set_ 5 _).set_ 6 _).set_ 7 _) Tryz.underlying34 rfl (by kernel_rfl)) rfl ?_
  exact ⟨_, rfl, ⟨_, _, _, _, _, _, rfl, (((((((((hR4.put (p := ⟨w.heap.size + 1, 0, none⟩) (by simp) _).put (p := ⟨w.heap.size + 1, 1, none⟩) (by simp) _).put (p := ⟨w.heap.size + 1, 2, none⟩) (by simp) _).put (p := ⟨w.heap.size + 1, 3, none⟩) (by simp) _).put (p := ⟨w.heap.size + 1, 4, none⟩) (by simp) _).put (p := ⟨w.heap.size + 1, 5, none⟩) (by simp) _).put (p := ⟨w.heap.size + 1, 6, none⟩) (by simp) _).put (p := ⟨w.heap.size + 1, 7, none⟩) (by simp) _).down (Nat.zero_le _)).more (by simp [World.size_setCell])⟩, (Below.setCell (B := w.heap.size) (Below.setCell (B := w.heap.size) (Below.setCell (B := w.heap.size) (Below.setCell (B := w.heap.size) (Below.setCell (B := w.heap.size) (Below.setCell (B := w.heap.size) (Below.setCell (B := w.heap.size) (Below.setCell (B := w.heap.size) HB4.out (p := ⟨w.heap.size + 1, 0, none⟩) (by simp) _) (p := ⟨w.heap.size + 1, 1, none⟩) (by simp) _) (p := ⟨w.heap.size + 1, 2, none⟩) (by simp) _) (p := ⟨w.heap.size + 1, 3, none⟩) (by simp) _) (p := ⟨w.heap.size + 1, 4, none⟩) (by simp) _) (p := ⟨w.heap.size + 1, 5, none⟩) (by simp) _) (p := ⟨w.heap.size + 1, 6, none⟩) (by simp) _) (p := ⟨w.heap.size + 1, 7, none⟩) (by simp) _)⟩
set_option maxHeartbeats 8000000 in
theorem cmd_what {v : Value} {D D' : Dk} {line t : ByteArray} {ok : Bool} {P : List ByteArray} {w : World} (hv : DkV w v D) (G : Gl w) (hl : line.size ≤ 1048576) (hP : splitS line 32 = P) (HL : Line D P D' t ok false) :
    Calls Tryz.prog 38 #[v, .string line] w fun e w' => ∃ v', e = .returned (.tuple #[v', .string ⟨#[119, 104, 97, 116]⟩]) ∧ DkV w' v' D ∧ Below w.heap.size w w' := by
  have HV0 := hide hv
  obtain ⟨LA, ln, lc, RA, rn, rc, rfl, hR⟩ := hv
  obtain ⟨bs, m2⟩ := G.m2
  have hlm := Go.Clock.block_lt m2
  have hlen : (splitS line 32).length = P.length := by rw [hP]
  have HG := hide G
  have HC : Hid (∀ o1 o2, Calls Tryz.prog 40 #[.agg (dkC LA ln lc RA rn rc D)] ((w.alloc o1).alloc o2) fun e w' => ∃ LA' lc' RA' rc', e = .returned (.agg (dkC LA' ln lc' RA' rn rc' D)) ∧ DkR w' ((w.alloc o1).alloc o2).heap.size w'.heap.size LA' ln RA' rn rc' D ∧ Below ((w.alloc o1).alloc o2).heap.size ((w.alloc o1).alloc o2) w') := hide (fun o1 o2 => i_copyDesk ((hR.below (B' := w.heap.size) (((Below.refl _ _).alloc (Nat.le_refl _) _).alloc (by simp) _) (Nat.le_refl _)).more (by simp; omega)))
  have HB0 : Hid (∀ o1 o2, Below w.heap.size w ((w.alloc o1).alloc o2)) := hide (fun o1 o2 => ((Below.refl _ _).alloc (Nat.le_refl _) _).alloc (by simp) _)
  have HSp := hide (fun (W : World) (hb : Below w.heap.size w W) => split_calls (s := line) (m := 32) W (by omega) ((hb.cell (p := ⟨renSplit.g 1, 0, none⟩) hlm).trans m2))
  rw [hP] at HSp
  have HLn := hide HL
  have HLW := hide hlen
  clear hR G m2 hlm HL hlen hP
  go_enter Tryz.func38, Tryz.ntmps38
  go_wp2_with (go_at_call 40; refine (HC.out _ _).mono ?_; rintro e w1 ⟨LA1, lc1, RA1, rc1, rfl, hR1, hb1⟩)
  have hs1 : w.heap.size + 2 ≤ w1.heap.size := by have := hb1.size; simp at this; omega
  have HN1 : Hid (Blk w1 w.heap.size 34 (dkC LA ln lc RA rn rc D)) := hide (((Blk.new w _ _).alloc _).below hb1 (by simp; omega))
  have HZ1 : Hid (Blk w1 (w.heap.size + 1) 34 dk0) := hide ((blk_new' (w.alloc _) (w.heap.size + 1) _ _ (by simp)).below hb1 (by simp))
  have HB1 : Hid (Below w.heap.size w w1) := hide ((HB0.out _ _).trans (hb1.mono (by simp; omega)))
  obtain ⟨o1, ho1⟩ : ∃ o, o = Obj.cells (dkC LA1 ln lc1 RA1 rn rc1 D) 34 := ⟨_, rfl⟩
  have HS1 := HSp.out (w1.alloc o1) (HB1.out.alloc HB1.out.size _)
  rw [show (w1.alloc o1).heap.size = w1.heap.size + 1 by simp, ho1] at HS1
  have HS1' := hide HS1
  clear HS1 HSp hb1 HC
  refine HS1'.out.mono ?_
  rintro e w2 ⟨rfl, hw2⟩
  have HA2 : Hid (Blk w2 w1.heap.size 34 (dkC LA1 ln lc1 RA1 rn rc1 D)) := hide (by rw [hw2]; exact (Blk.new w1 _ _).alloc _)
  have HT2 : Hid (Blk w2 (w1.heap.size + 1) 9 (P.map Value.string).toArray) := hide (by rw [hw2]; exact blk_new' _ _ _ _ (by simp))
  have b12 : Below w1.heap.size w1 w2 := by rw [hw2]; exact ((Below.refl _ _).alloc (Nat.le_refl _) _).alloc (by simp) _
  have HB2 : Hid (Below w.heap.size w w2) := hide (HB1.out.trans (b12.mono HB1.out.size))
  have HN2 : Hid (Blk w2 w.heap.size 34 (dkC LA ln lc RA rn rc D)) := hide (HN1.out.below b12 (by omega))
  have HZ2 : Hid (Blk w2 (w.heap.size + 1) 34 dk0) := hide (HZ1.out.below b12 (by omega))
  have hAt : DkAt w2 (w.heap.size + 2) w1.heap.size D := ⟨_, _, _, _, _, _, HA2.out, (hR1.below b12 (Nat.le_refl _)).down (by simp)⟩
  have HK := hide (HLn.out w2 _ w1.heap.size (w1.heap.size + 1) hAt (HG.out.below HB2.out) HT2.out (by omega))
  have hs2 : w1.heap.size < w2.heap.size := HA2.out.lt
  clear HN1 HZ1 HS1' hw2 hAt HA2 HT2 HLn hR1 ho1 o1 HB0 HLW
  go_wp2_with (go_at_call 79; refine HK.out.mono ?_; rintro e w3 ⟨rfl, h3, hg3⟩; replace h3 := hide h3; have HB3 : Hid (Below w.heap.size w w3) := hide (HB2.out.trans ((below_of_only hg3 hs2).mono (by omega))); have HN3 : Hid (Blk w3 w.heap.size 34 (dkC LA ln lc RA rn rc D)) := hide (HN2.out.grown hg3 (by intro e; injection e with e; omega)); have HZ3 : Hid (Blk w3 (w.heap.size + 1) 34 dk0) := hide (HZ2.out.grown hg3 (by intro e; injection e with e; omega)); have hs3 := hg3.size; clear hg3 HN2 HZ2 HB2 HK; clear h3; have c0 : w3.cell? ⟨w.heap.size, 0, none⟩ = some (.slice LA ln lc) := HN3.out.cell 0; have c1 : w3.cell? ⟨w.heap.size, 1, none⟩ = some (.int .i64 D.kd) := HN3.out.cell 1; have c2 : w3.cell? ⟨w.heap.size, 2, none⟩ = some (.float .f32 D.sh) := HN3.out.cell 2; have c3 : w3.cell? ⟨w.heap.size, 3, none⟩ = some (.float .f32 D.sc) := HN3.out.cell 3; have c4 : w3.cell? ⟨w.heap.size, 4, none⟩ = some (.int .i64 D.st) := HN3.out.cell 4; have c5 : w3.cell? ⟨w.heap.size, 5, none⟩ = some (.slice RA rn rc) := HN3.out.cell 5; have c6 : w3.cell? ⟨w.heap.size, 6, none⟩ = some (.int .i64 D.sz) := HN3.out.cell 6; have c7 : w3.cell? ⟨w.heap.size, 7, none⟩ = some (.int .i64 D.ac) := HN3.out.cell 7; have z0 : w3.cell? ⟨w.heap.size + 1, 0, none⟩ = some (.slice none 0 0) := HZ3.out.cell 0; have zf0 : w3.frozen? ⟨w.heap.size + 1, 0, none⟩ = false := HZ3.out.frozen 0; have z1 : w3.cell? ⟨w.heap.size + 1, 1, none⟩ = some (.int .i64 0) := HZ3.out.cell 1; have zf1 : w3.frozen? ⟨w.heap.size + 1, 1, none⟩ = false := HZ3.out.frozen 1; have z2 : w3.cell? ⟨w.heap.size + 1, 2, none⟩ = some (.float .f32 0) := HZ3.out.cell 2; have zf2 : w3.frozen? ⟨w.heap.size + 1, 2, none⟩ = false := HZ3.out.frozen 2; have z3 : w3.cell? ⟨w.heap.size + 1, 3, none⟩ = some (.float .f32 0) := HZ3.out.cell 3; have zf3 : w3.frozen? ⟨w.heap.size + 1, 3, none⟩ = false := HZ3.out.frozen 3; have z4 : w3.cell? ⟨w.heap.size + 1, 4, none⟩ = some (.int .i64 0) := HZ3.out.cell 4; have zf4 : w3.frozen? ⟨w.heap.size + 1, 4, none⟩ = false := HZ3.out.frozen 4; have z5 : w3.cell? ⟨w.heap.size + 1, 5, none⟩ = some (.slice none 0 0) := HZ3.out.cell 5; have zf5 : w3.frozen? ⟨w.heap.size + 1, 5, none⟩ = false := HZ3.out.frozen 5; have z6 : w3.cell? ⟨w.heap.size + 1, 6, none⟩ = some (.int .i64 0) := HZ3.out.cell 6; have zf6 : w3.frozen? ⟨w.heap.size + 1, 6, none⟩ = false := HZ3.out.frozen 6; have z7 : w3.cell? ⟨w.heap.size + 1, 7, none⟩ = some (.int .i64 0) := HZ3.out.cell 7; have zf7 : w3.frozen? ⟨w.heap.size + 1, 7, none⟩ = false := HZ3.out.frozen 7)
  go_wp2
  refine bodyPost_ret (results_row_tmp (P := Tryz.prog) rfl _ _ (w.heap.size + 1) 34 (dkC LA ln lc RA rn rc D) (0, 0) _ rfl (((((((((HZ3.out).set_ 0 _).set_ 1 _).set_ 2 _).set_ 3 _).set_ 4 _).set_ 5 _).set_ 6 _).set_ 7 _) Tryz.underlying34 rfl (by kernel_rfl)) rfl ?_
  obtain ⟨LA', ln', lc', RA', rn', rc', hvv, hR0⟩ := HV0.out
  injection hvv with hvv
  have e1 : Value.slice LA ln lc = Value.slice LA' ln' lc' := by have := congrArg (fun a : Array Value => a[0]?) hvv; simpa using this
  have e2 : Value.slice RA rn rc = Value.slice RA' rn' rc' := by have := congrArg (fun a : Array Value => a[5]?) hvv; simpa using this
  injection e1 with e1 e2' e3
  injection e2 with f1 f2 f3
  subst e1 e2' e3 f1 f2 f3
  exact ⟨_, rfl, ⟨_, _, _, _, _, _, rfl, ((((((((((hR0.below HB3.out (Nat.le_refl _)).far (p := ⟨w.heap.size + 1, 0, none⟩) (by simp) _).far (p := ⟨w.heap.size + 1, 1, none⟩) (by simp) _).far (p := ⟨w.heap.size + 1, 2, none⟩) (by simp) _).far (p := ⟨w.heap.size + 1, 3, none⟩) (by simp) _).far (p := ⟨w.heap.size + 1, 4, none⟩) (by simp) _).far (p := ⟨w.heap.size + 1, 5, none⟩) (by simp) _).far (p := ⟨w.heap.size + 1, 6, none⟩) (by simp) _).far (p := ⟨w.heap.size + 1, 7, none⟩) (by simp) _)).more (by simp [World.size_setCell]; have := HB3.out.size; omega)⟩, (Below.setCell (B := w.heap.size) (Below.setCell (B := w.heap.size) (Below.setCell (B := w.heap.size) (Below.setCell (B := w.heap.size) (Below.setCell (B := w.heap.size) (Below.setCell (B := w.heap.size) (Below.setCell (B := w.heap.size) (Below.setCell (B := w.heap.size) HB3.out (p := ⟨w.heap.size + 1, 0, none⟩) (by simp) _) (p := ⟨w.heap.size + 1, 1, none⟩) (by simp) _) (p := ⟨w.heap.size + 1, 2, none⟩) (by simp) _) (p := ⟨w.heap.size + 1, 3, none⟩) (by simp) _) (p := ⟨w.heap.size + 1, 4, none⟩) (by simp) _) (p := ⟨w.heap.size + 1, 5, none⟩) (by simp) _) (p := ⟨w.heap.size + 1, 6, none⟩) (by simp) _) (p := ⟨w.heap.size + 1, 7, none⟩) (by simp) _)⟩
set_option maxHeartbeats 8000000 in
theorem cmd_no {v : Value} {D D' : Dk} {line t : ByteArray} {P : List ByteArray} {w : World} (hv : DkV w v D) (G : Gl w) (hl : line.size ≤ 1048576) (hP : splitS line 32 = P) (HL : Line D P D' t false true) :
    Calls Tryz.prog 38 #[v, .string line] w fun e w' => ∃ v', e = .returned (.tuple #[v', .string ⟨#[110, 111]⟩]) ∧ DkV w' v' D ∧ Below w.heap.size w w' := by
  have HV0 := hide hv
  obtain ⟨LA, ln, lc, RA, rn, rc, rfl, hR⟩ := hv
  obtain ⟨bs, m2⟩ := G.m2
  have hlm := Go.Clock.block_lt m2
  have hlen : (splitS line 32).length = P.length := by rw [hP]
  have HG := hide G
  have HC : Hid (∀ o1 o2, Calls Tryz.prog 40 #[.agg (dkC LA ln lc RA rn rc D)] ((w.alloc o1).alloc o2) fun e w' => ∃ LA' lc' RA' rc', e = .returned (.agg (dkC LA' ln lc' RA' rn rc' D)) ∧ DkR w' ((w.alloc o1).alloc o2).heap.size w'.heap.size LA' ln RA' rn rc' D ∧ Below ((w.alloc o1).alloc o2).heap.size ((w.alloc o1).alloc o2) w') := hide (fun o1 o2 => i_copyDesk ((hR.below (B' := w.heap.size) (((Below.refl _ _).alloc (Nat.le_refl _) _).alloc (by simp) _) (Nat.le_refl _)).more (by simp; omega)))
  have HB0 : Hid (∀ o1 o2, Below w.heap.size w ((w.alloc o1).alloc o2)) := hide (fun o1 o2 => ((Below.refl _ _).alloc (Nat.le_refl _) _).alloc (by simp) _)
  have HSp := hide (fun (W : World) (hb : Below w.heap.size w W) => split_calls (s := line) (m := 32) W (by omega) ((hb.cell (p := ⟨renSplit.g 1, 0, none⟩) hlm).trans m2))
  rw [hP] at HSp
  have HLn := hide HL
  have HLW := hide hlen
  clear hR G m2 hlm HL hlen hP
  go_enter Tryz.func38, Tryz.ntmps38
  go_wp2_with (go_at_call 40; refine (HC.out _ _).mono ?_; rintro e w1 ⟨LA1, lc1, RA1, rc1, rfl, hR1, hb1⟩)
  have hs1 : w.heap.size + 2 ≤ w1.heap.size := by have := hb1.size; simp at this; omega
  have HN1 : Hid (Blk w1 w.heap.size 34 (dkC LA ln lc RA rn rc D)) := hide (((Blk.new w _ _).alloc _).below hb1 (by simp; omega))
  have HZ1 : Hid (Blk w1 (w.heap.size + 1) 34 dk0) := hide ((blk_new' (w.alloc _) (w.heap.size + 1) _ _ (by simp)).below hb1 (by simp))
  have HB1 : Hid (Below w.heap.size w w1) := hide ((HB0.out _ _).trans (hb1.mono (by simp; omega)))
  obtain ⟨o1, ho1⟩ : ∃ o, o = Obj.cells (dkC LA1 ln lc1 RA1 rn rc1 D) 34 := ⟨_, rfl⟩
  have HS1 := HSp.out (w1.alloc o1) (HB1.out.alloc HB1.out.size _)
  rw [show (w1.alloc o1).heap.size = w1.heap.size + 1 by simp, ho1] at HS1
  have HS1' := hide HS1
  clear HS1 HSp hb1 HC
  refine HS1'.out.mono ?_
  rintro e w2 ⟨rfl, hw2⟩
  have HA2 : Hid (Blk w2 w1.heap.size 34 (dkC LA1 ln lc1 RA1 rn rc1 D)) := hide (by rw [hw2]; exact (Blk.new w1 _ _).alloc _)
  have HT2 : Hid (Blk w2 (w1.heap.size + 1) 9 (P.map Value.string).toArray) := hide (by rw [hw2]; exact blk_new' _ _ _ _ (by simp))
  have b12 : Below w1.heap.size w1 w2 := by rw [hw2]; exact ((Below.refl _ _).alloc (Nat.le_refl _) _).alloc (by simp) _
  have HB2 : Hid (Below w.heap.size w w2) := hide (HB1.out.trans (b12.mono HB1.out.size))
  have HN2 : Hid (Blk w2 w.heap.size 34 (dkC LA ln lc RA rn rc D)) := hide (HN1.out.below b12 (by omega))
  have HZ2 : Hid (Blk w2 (w.heap.size + 1) 34 dk0) := hide (HZ1.out.below b12 (by omega))
  have hAt : DkAt w2 (w.heap.size + 2) w1.heap.size D := ⟨_, _, _, _, _, _, HA2.out, (hR1.below b12 (Nat.le_refl _)).down (by simp)⟩
  have HK := hide (HLn.out w2 _ w1.heap.size (w1.heap.size + 1) hAt (HG.out.below HB2.out) HT2.out (by omega))
  have hs2 : w1.heap.size < w2.heap.size := HA2.out.lt
  clear HN1 HZ1 HS1' hw2 hAt HA2 HT2 HLn hR1 ho1 o1 HB0 HLW
  go_wp2_with (go_at_call 79; refine HK.out.mono ?_; rintro e w3 ⟨rfl, h3, hg3⟩; replace h3 := hide h3; have HB3 : Hid (Below w.heap.size w w3) := hide (HB2.out.trans ((below_of_only hg3 hs2).mono (by omega))); have HN3 : Hid (Blk w3 w.heap.size 34 (dkC LA ln lc RA rn rc D)) := hide (HN2.out.grown hg3 (by intro e; injection e with e; omega)); have HZ3 : Hid (Blk w3 (w.heap.size + 1) 34 dk0) := hide (HZ2.out.grown hg3 (by intro e; injection e with e; omega)); have hs3 := hg3.size; clear hg3 HN2 HZ2 HB2 HK; clear h3; have c0 : w3.cell? ⟨w.heap.size, 0, none⟩ = some (.slice LA ln lc) := HN3.out.cell 0; have c1 : w3.cell? ⟨w.heap.size, 1, none⟩ = some (.int .i64 D.kd) := HN3.out.cell 1; have c2 : w3.cell? ⟨w.heap.size, 2, none⟩ = some (.float .f32 D.sh) := HN3.out.cell 2; have c3 : w3.cell? ⟨w.heap.size, 3, none⟩ = some (.float .f32 D.sc) := HN3.out.cell 3; have c4 : w3.cell? ⟨w.heap.size, 4, none⟩ = some (.int .i64 D.st) := HN3.out.cell 4; have c5 : w3.cell? ⟨w.heap.size, 5, none⟩ = some (.slice RA rn rc) := HN3.out.cell 5; have c6 : w3.cell? ⟨w.heap.size, 6, none⟩ = some (.int .i64 D.sz) := HN3.out.cell 6; have c7 : w3.cell? ⟨w.heap.size, 7, none⟩ = some (.int .i64 D.ac) := HN3.out.cell 7; have z0 : w3.cell? ⟨w.heap.size + 1, 0, none⟩ = some (.slice none 0 0) := HZ3.out.cell 0; have zf0 : w3.frozen? ⟨w.heap.size + 1, 0, none⟩ = false := HZ3.out.frozen 0; have z1 : w3.cell? ⟨w.heap.size + 1, 1, none⟩ = some (.int .i64 0) := HZ3.out.cell 1; have zf1 : w3.frozen? ⟨w.heap.size + 1, 1, none⟩ = false := HZ3.out.frozen 1; have z2 : w3.cell? ⟨w.heap.size + 1, 2, none⟩ = some (.float .f32 0) := HZ3.out.cell 2; have zf2 : w3.frozen? ⟨w.heap.size + 1, 2, none⟩ = false := HZ3.out.frozen 2; have z3 : w3.cell? ⟨w.heap.size + 1, 3, none⟩ = some (.float .f32 0) := HZ3.out.cell 3; have zf3 : w3.frozen? ⟨w.heap.size + 1, 3, none⟩ = false := HZ3.out.frozen 3; have z4 : w3.cell? ⟨w.heap.size + 1, 4, none⟩ = some (.int .i64 0) := HZ3.out.cell 4; have zf4 : w3.frozen? ⟨w.heap.size + 1, 4, none⟩ = false := HZ3.out.frozen 4; have z5 : w3.cell? ⟨w.heap.size + 1, 5, none⟩ = some (.slice none 0 0) := HZ3.out.cell 5; have zf5 : w3.frozen? ⟨w.heap.size + 1, 5, none⟩ = false := HZ3.out.frozen 5; have z6 : w3.cell? ⟨w.heap.size + 1, 6, none⟩ = some (.int .i64 0) := HZ3.out.cell 6; have zf6 : w3.frozen? ⟨w.heap.size + 1, 6, none⟩ = false := HZ3.out.frozen 6; have z7 : w3.cell? ⟨w.heap.size + 1, 7, none⟩ = some (.int .i64 0) := HZ3.out.cell 7; have zf7 : w3.frozen? ⟨w.heap.size + 1, 7, none⟩ = false := HZ3.out.frozen 7)
  go_wp2
  refine bodyPost_ret (results_row_tmp (P := Tryz.prog) rfl _ _ (w.heap.size + 1) 34 (dkC LA ln lc RA rn rc D) (0, 0) _ rfl (((((((((HZ3.out).set_ 0 _).set_ 1 _).set_ 2 _).set_ 3 _).set_ 4 _).set_ 5 _).set_ 6 _).set_ 7 _) Tryz.underlying34 rfl (by kernel_rfl)) rfl ?_
  obtain ⟨LA', ln', lc', RA', rn', rc', hvv, hR0⟩ := HV0.out
  injection hvv with hvv
  have e1 : Value.slice LA ln lc = Value.slice LA' ln' lc' := by have := congrArg (fun a : Array Value => a[0]?) hvv; simpa using this
  have e2 : Value.slice RA rn rc = Value.slice RA' rn' rc' := by have := congrArg (fun a : Array Value => a[5]?) hvv; simpa using this
  injection e1 with e1 e2' e3
  injection e2 with f1 f2 f3
  subst e1 e2' e3 f1 f2 f3
  exact ⟨_, rfl, ⟨_, _, _, _, _, _, rfl, ((((((((((hR0.below HB3.out (Nat.le_refl _)).far (p := ⟨w.heap.size + 1, 0, none⟩) (by simp) _).far (p := ⟨w.heap.size + 1, 1, none⟩) (by simp) _).far (p := ⟨w.heap.size + 1, 2, none⟩) (by simp) _).far (p := ⟨w.heap.size + 1, 3, none⟩) (by simp) _).far (p := ⟨w.heap.size + 1, 4, none⟩) (by simp) _).far (p := ⟨w.heap.size + 1, 5, none⟩) (by simp) _).far (p := ⟨w.heap.size + 1, 6, none⟩) (by simp) _).far (p := ⟨w.heap.size + 1, 7, none⟩) (by simp) _)).more (by simp [World.size_setCell]; have := HB3.out.size; omega)⟩, (Below.setCell (B := w.heap.size) (Below.setCell (B := w.heap.size) (Below.setCell (B := w.heap.size) (Below.setCell (B := w.heap.size) (Below.setCell (B := w.heap.size) (Below.setCell (B := w.heap.size) (Below.setCell (B := w.heap.size) (Below.setCell (B := w.heap.size) HB3.out (p := ⟨w.heap.size + 1, 0, none⟩) (by simp) _) (p := ⟨w.heap.size + 1, 1, none⟩) (by simp) _) (p := ⟨w.heap.size + 1, 2, none⟩) (by simp) _) (p := ⟨w.heap.size + 1, 3, none⟩) (by simp) _) (p := ⟨w.heap.size + 1, 4, none⟩) (by simp) _) (p := ⟨w.heap.size + 1, 5, none⟩) (by simp) _) (p := ⟨w.heap.size + 1, 6, none⟩) (by simp) _) (p := ⟨w.heap.size + 1, 7, none⟩) (by simp) _)⟩
end Go.Proofs.YtjmpldcnhjgpkaaGreatDoor
