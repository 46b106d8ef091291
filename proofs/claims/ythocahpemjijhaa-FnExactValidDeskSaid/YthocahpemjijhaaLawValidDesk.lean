/-
  The law FnExactValidDesk returns true for all arguments, and writes nothing that was there.
-/
import Derived.Test.YthocahpemjijhaaValidS
namespace Go.Proofs.Ythocahpemjijhaa
open Go.RowKit Fl Mem
set_option linter.unusedVariables false
set_option maxRecDepth 100000

theorem below_unal {w w' : World} {o : Obj} (h : Below (w.alloc o).heap.size (w.alloc o) w') : Below w.heap.size w w' := ((Below.refl _ _).alloc (Nat.le_refl _) o).trans (h.mono (by simp))
theorem below_undrew {w w' : World} (h : Below w.drew.heap.size w.drew w') : Below w.heap.size w w' := ⟨h.os, h.tape, h.output, h.size, h.block⟩

set_option maxHeartbeats 400000 in
theorem law_ValidDesk (LA RA : Option Addr) (ln lc rn rc sh sc : Nat) (kd st sz ac : Int) (xs : List (Nat × Bool)) (rs : List Nat) (w : World)
    (h1 : Reads w w.heap.size 2 LA ln (ll xs)) (h2 : Reads w w.heap.size 1 RA rn (fl .f32 rs)) (hn : ln ≤ 9223372036854775807) (hm : rn ≤ 9223372036854775807)
    (wx : ∀ a ∈ xs, Wf .f32 a.1) (wr : ∀ a ∈ rs, Wf .f32 a) (w1 : Wf .f32 sh) (w2 : Wf .f32 sc) :
    Calls Try.prog 11 #[deskV LA ln lc kd sh sc st RA rn rc sz ac] w fun e w' => e = .returned (.bool true) ∧ Below w.heap.size w w' := by
  go_enter Try.func11, Try.ntmps11
  go_wp2_with fail
  refine (l_szDesk (by omega) (by omega) hn hm).mono ?_
  rintro e v1 ⟨r1, rfl, hr1, hb⟩
  have A : Hid (Blk v1 w.heap.size 80 #[.slice LA ln lc, .int .i64 kd, .float .f32 sh, .float .f32 sc, .int .i64 st, .slice RA rn rc, .int .i64 sz, .int .i64 ac]) := hide ((Blk.new w _ _).below hb (by simp))
  have R1 := hide ((h1.alloc (Nat.le_refl _) _).below (hb.mono (by simp)))
  have R2 := hide ((h2.alloc (Nat.le_refl _) _).below (hb.mono (by simp)))
  have bel : Below w.heap.size w v1 := ((Below.refl w.heap.size w).alloc (Nat.le_refl _) _).trans (hb.mono (by simp))
  have z00 := hb.size
  simp only [World.size_alloc] at z00
  clear hb h1 h2
  rcases hr1 with hr1 | ⟨hr1, hq1⟩
  · go_wp2
    go_ret
    exact ⟨rfl, bel⟩
  have i1 : ¬ r1 < 0 := by omega
  have j1 : ln ≤ 1048576 := by omega
  have j2 : rn ≤ 1048576 := by omega
  clear hq1 hn hm
  have A0 : v1.cell? ⟨w.heap.size, 0, none⟩ = some (.slice LA ln lc) := A.out.cell 0
  have A1 : v1.cell? ⟨w.heap.size, 1, none⟩ = some (.int .i64 kd) := A.out.cell 1
  have A2 : v1.cell? ⟨w.heap.size, 2, none⟩ = some (.float .f32 sh) := A.out.cell 2
  have A3 : v1.cell? ⟨w.heap.size, 3, none⟩ = some (.float .f32 sc) := A.out.cell 3
  have A4 : v1.cell? ⟨w.heap.size, 4, none⟩ = some (.int .i64 st) := A.out.cell 4
  have A5 : v1.cell? ⟨w.heap.size, 5, none⟩ = some (.slice RA rn rc) := A.out.cell 5
  have A6 : v1.cell? ⟨w.heap.size, 6, none⟩ = some (.int .i64 sz) := A.out.cell 6
  have A7 : v1.cell? ⟨w.heap.size, 7, none⟩ = some (.int .i64 ac) := A.out.cell 7
  go_wp2_with fail
  refine (l_toDesk (xs := xs) (rs := rs) (B := w.heap.size) R1.out R2.out bel.size j1 j2).mono ?_
  rintro e xa ⟨ga, ka, rfl, hga, hka, hb⟩
  clear A0 A1 A2 A3 A4 A5 A6 A7
  replace A : Hid (Blk xa (w.heap.size) 80 #[.slice LA ln lc, .int .i64 kd, .float .f32 sh, .float .f32 sc, .int .i64 st, .slice RA rn rc, .int .i64 sz, .int .i64 ac]) := hide (blk_below A.out hb)
  replace R1 := hide (R1.out.below (hb.mono (by omega)))
  replace R2 := hide (R2.out.below (hb.mono (by omega)))
  have z0 := hb.size
  replace bel := bel.trans (hb.mono bel.size)
  clear hb
  go_wp2_with fail
  refine (s_ValidDesk (B := xa.heap.size) (xs := xs) (rs := rs) (Nat.le_refl _) (Reads.of_own hga) (Reads.of_own hka) (by omega) (by omega)).mono ?_
  rintro e xb ⟨rfl, hb⟩
  clear hga hka
  replace A : Hid (Blk xb (w.heap.size) 80 #[.slice LA ln lc, .int .i64 kd, .float .f32 sh, .float .f32 sc, .int .i64 st, .slice RA rn rc, .int .i64 sz, .int .i64 ac]) := hide (blk_below A.out hb)
  replace R1 := hide (R1.out.below (hb.mono (by omega)))
  replace R2 := hide (R2.out.below (hb.mono (by omega)))
  have z1 := hb.size
  replace bel := bel.trans (hb.mono bel.size)
  clear hb
  generalize hSD : deskOk xs kd sh sc st rs sz ac = SD at *
  have HSD := hide hSD
  clear hSD
  have A0 : xb.cell? ⟨w.heap.size, 0, none⟩ = some (.slice LA ln lc) := A.out.cell 0
  have A1 : xb.cell? ⟨w.heap.size, 1, none⟩ = some (.int .i64 kd) := A.out.cell 1
  have A2 : xb.cell? ⟨w.heap.size, 2, none⟩ = some (.float .f32 sh) := A.out.cell 2
  have A3 : xb.cell? ⟨w.heap.size, 3, none⟩ = some (.float .f32 sc) := A.out.cell 3
  have A4 : xb.cell? ⟨w.heap.size, 4, none⟩ = some (.int .i64 st) := A.out.cell 4
  have A5 : xb.cell? ⟨w.heap.size, 5, none⟩ = some (.slice RA rn rc) := A.out.cell 5
  have A6 : xb.cell? ⟨w.heap.size, 6, none⟩ = some (.int .i64 sz) := A.out.cell 6
  have A7 : xb.cell? ⟨w.heap.size, 7, none⟩ = some (.int .i64 ac) := A.out.cell 7
  go_wp2_with fail
  refine (l_toDesk (xs := xs) (rs := rs) (B := w.heap.size) R1.out R2.out bel.size j1 j2).mono ?_
  rintro e x0 ⟨g0, k0, rfl, hg0, hk0, hb⟩
  clear A0 A1 A2 A3 A4 A5 A6 A7
  replace hg0 := hide (own_up hg0 (show w.heap.size + 1 ≤ xb.heap.size by omega))
  replace hk0 := hide (own_up hk0 (show w.heap.size + 1 ≤ xb.heap.size by omega))
  replace A : Hid (Blk x0 (w.heap.size) 80 #[.slice LA ln lc, .int .i64 kd, .float .f32 sh, .float .f32 sc, .int .i64 st, .slice RA rn rc, .int .i64 sz, .int .i64 ac]) := hide (blk_below A.out hb)
  replace R1 := hide (R1.out.below (hb.mono (by omega)))
  replace R2 := hide (R2.out.below (hb.mono (by omega)))
  have z2 := hb.size
  replace bel := bel.trans (hb.mono bel.size)
  clear hb
  have lx0 : w.heap.size + 1 ≤ x0.heap.size := by omega
  go_wp2_with fail
  refine (i_ValidDesk (B := x0.heap.size) (xs := xs) (rs := rs) (by simp) ((Reads.of_own hg0.out).alloc (Nat.le_refl _) _) ((Reads.of_own hk0.out).alloc (Nat.le_refl _) _) (by omega) (by omega)).mono ?_
  rintro e y0 ⟨rfl, hb⟩
  rw [HSD.out]
  replace A : Hid (Blk y0 (w.heap.size) 80 #[.slice LA ln lc, .int .i64 kd, .float .f32 sh, .float .f32 sc, .int .i64 st, .slice RA rn rc, .int .i64 sz, .int .i64 ac]) := hide (blk_below (A.out.alloc (.cells #[.slice (some ⟨g0, 0, none⟩) ln ln, .int .i64 kd, .float .f32 sh, .float .f32 sc, .int .i64 st, .slice (some ⟨k0, 0, none⟩) rn rn, .int .i64 sz, .int .i64 ac] 87)) hb)
  have X : Hid (Blk y0 (x0.heap.size) 87 #[.slice (some ⟨g0, 0, none⟩) ln ln, .int .i64 kd, .float .f32 sh, .float .f32 sc, .int .i64 st, .slice (some ⟨k0, 0, none⟩) rn rn, .int .i64 sz, .int .i64 ac]) := hide (blk_below (Blk.new x0 _ _) hb)
  replace R1 := hide ((R1.out.alloc bel.size (.cells #[.slice (some ⟨g0, 0, none⟩) ln ln, .int .i64 kd, .float .f32 sh, .float .f32 sc, .int .i64 st, .slice (some ⟨k0, 0, none⟩) rn rn, .int .i64 sz, .int .i64 ac] 87)).below (hb.mono (by simp; omega)))
  replace R2 := hide ((R2.out.alloc bel.size (.cells #[.slice (some ⟨g0, 0, none⟩) ln ln, .int .i64 kd, .float .f32 sh, .float .f32 sc, .int .i64 st, .slice (some ⟨k0, 0, none⟩) rn rn, .int .i64 sz, .int .i64 ac] 87)).below (hb.mono (by simp; omega)))
  replace hg0 := hide (own_below (hg0.out.alloc (.cells #[.slice (some ⟨g0, 0, none⟩) ln ln, .int .i64 kd, .float .f32 sh, .float .f32 sc, .int .i64 st, .slice (some ⟨k0, 0, none⟩) rn rn, .int .i64 sz, .int .i64 ac] 87)) hb)
  replace hk0 := hide (own_below (hk0.out.alloc (.cells #[.slice (some ⟨g0, 0, none⟩) ln ln, .int .i64 kd, .float .f32 sh, .float .f32 sc, .int .i64 st, .slice (some ⟨k0, 0, none⟩) rn rn, .int .i64 sz, .int .i64 ac] 87)) hb)
  have z3 := hb.size
  simp only [World.size_alloc] at z3
  replace bel := bel.trans ((below_unal hb).mono bel.size)
  clear hb
  have ly : x0.heap.size + 1 ≤ y0.heap.size := by omega
  have hsd : (SD != SD) = false := by simp
  have X0 : y0.cell? ⟨x0.heap.size, 0, none⟩ = some (.slice (some ⟨g0, 0, none⟩) ln ln) := X.out.cell 0
  have X1 : y0.cell? ⟨x0.heap.size, 1, none⟩ = some (.int .i64 kd) := X.out.cell 1
  have X2 : y0.cell? ⟨x0.heap.size, 2, none⟩ = some (.float .f32 sh) := X.out.cell 2
  have X3 : y0.cell? ⟨x0.heap.size, 3, none⟩ = some (.float .f32 sc) := X.out.cell 3
  have X4 : y0.cell? ⟨x0.heap.size, 4, none⟩ = some (.int .i64 st) := X.out.cell 4
  have X5 : y0.cell? ⟨x0.heap.size, 5, none⟩ = some (.slice (some ⟨k0, 0, none⟩) rn rn) := X.out.cell 5
  have X6 : y0.cell? ⟨x0.heap.size, 6, none⟩ = some (.int .i64 sz) := X.out.cell 6
  have X7 : y0.cell? ⟨x0.heap.size, 7, none⟩ = some (.int .i64 ac) := X.out.cell 7
  have A0 : y0.cell? ⟨w.heap.size, 0, none⟩ = some (.slice LA ln lc) := A.out.cell 0
  have A1 : y0.cell? ⟨w.heap.size, 1, none⟩ = some (.int .i64 kd) := A.out.cell 1
  have A2 : y0.cell? ⟨w.heap.size, 2, none⟩ = some (.float .f32 sh) := A.out.cell 2
  have A3 : y0.cell? ⟨w.heap.size, 3, none⟩ = some (.float .f32 sc) := A.out.cell 3
  have A4 : y0.cell? ⟨w.heap.size, 4, none⟩ = some (.int .i64 st) := A.out.cell 4
  have A5 : y0.cell? ⟨w.heap.size, 5, none⟩ = some (.slice RA rn rc) := A.out.cell 5
  have A6 : y0.cell? ⟨w.heap.size, 6, none⟩ = some (.int .i64 sz) := A.out.cell 6
  have A7 : y0.cell? ⟨w.heap.size, 7, none⟩ = some (.int .i64 ac) := A.out.cell 7
  go_wp2
  go_region_held3 (fun w' => w'.cell? ⟨x0.heap.size, 0, none⟩ = some (.slice (some ⟨g0, 0, none⟩) ln ln) ∧ w'.cell? ⟨x0.heap.size, 1, none⟩ = some (.int .i64 kd) ∧ w'.cell? ⟨x0.heap.size, 2, none⟩ = some (.float .f32 sh) ∧ w'.cell? ⟨x0.heap.size, 3, none⟩ = some (.float .f32 sc) ∧ w'.cell? ⟨x0.heap.size, 4, none⟩ = some (.int .i64 st) ∧ w'.cell? ⟨x0.heap.size, 5, none⟩ = some (.slice (some ⟨k0, 0, none⟩) rn rn) ∧ w'.cell? ⟨x0.heap.size, 6, none⟩ = some (.int .i64 sz) ∧ w'.cell? ⟨x0.heap.size, 7, none⟩ = some (.int .i64 ac) ∧ w'.cell? ⟨w.heap.size, 0, none⟩ = some (.slice LA ln lc) ∧ w'.cell? ⟨w.heap.size, 1, none⟩ = some (.int .i64 kd) ∧ w'.cell? ⟨w.heap.size, 2, none⟩ = some (.float .f32 sh) ∧ w'.cell? ⟨w.heap.size, 3, none⟩ = some (.float .f32 sc) ∧ w'.cell? ⟨w.heap.size, 4, none⟩ = some (.int .i64 st) ∧ w'.cell? ⟨w.heap.size, 5, none⟩ = some (.slice RA rn rc) ∧ w'.cell? ⟨w.heap.size, 6, none⟩ = some (.int .i64 sz) ∧ w'.cell? ⟨w.heap.size, 7, none⟩ = some (.int .i64 ac)) (first | assumption | go_keep) (first | (have _t := TA; go_at_call 50; refine (eqDesk (B := p0.heap.size) (xs := xs) (rs := rs) (Nat.le_refl _) (Reads.of_own (own_below (w := y0.drew) hg0.out hba)) (Reads.of_own hgc) (Reads.of_own (own_below (w := y0.drew) hk0.out hba)) (Reads.of_own hkc) (by omega) (by omega) rfl rfl).mono ?_; rintro e q0 ⟨rfl, hbb⟩; have Xb := blk_below Xa hbb; have Bb := blk_below Ba hbb; have Kq0 : q0.cell? ⟨x0.heap.size, 0, none⟩ = some (.slice (some ⟨g0, 0, none⟩) ln ln) ∧ q0.cell? ⟨x0.heap.size, 1, none⟩ = some (.int .i64 kd) ∧ q0.cell? ⟨x0.heap.size, 2, none⟩ = some (.float .f32 sh) ∧ q0.cell? ⟨x0.heap.size, 3, none⟩ = some (.float .f32 sc) ∧ q0.cell? ⟨x0.heap.size, 4, none⟩ = some (.int .i64 st) ∧ q0.cell? ⟨x0.heap.size, 5, none⟩ = some (.slice (some ⟨k0, 0, none⟩) rn rn) ∧ q0.cell? ⟨x0.heap.size, 6, none⟩ = some (.int .i64 sz) ∧ q0.cell? ⟨x0.heap.size, 7, none⟩ = some (.int .i64 ac) ∧ q0.cell? ⟨w.heap.size, 0, none⟩ = some (.slice LA ln lc) ∧ q0.cell? ⟨w.heap.size, 1, none⟩ = some (.int .i64 kd) ∧ q0.cell? ⟨w.heap.size, 2, none⟩ = some (.float .f32 sh) ∧ q0.cell? ⟨w.heap.size, 3, none⟩ = some (.float .f32 sc) ∧ q0.cell? ⟨w.heap.size, 4, none⟩ = some (.int .i64 st) ∧ q0.cell? ⟨w.heap.size, 5, none⟩ = some (.slice RA rn rc) ∧ q0.cell? ⟨w.heap.size, 6, none⟩ = some (.int .i64 sz) ∧ q0.cell? ⟨w.heap.size, 7, none⟩ = some (.int .i64 ac) := ⟨Xb.cell 0, Xb.cell 1, Xb.cell 2, Xb.cell 3, Xb.cell 4, Xb.cell 5, Xb.cell 6, Xb.cell 7, Bb.cell 0, Bb.cell 1, Bb.cell 2, Bb.cell 3, Bb.cell 4, Bb.cell 5, Bb.cell 6, Bb.cell 7⟩) | (go_at_call 48; refine (l_toDesk (xs := xs) (rs := rs) (B := w.heap.size) R1.out.drew R2.out.drew bel.size j1 j2).mono ?_; rintro e p0 ⟨gc, kc, rfl, hgc, hkc, hba⟩; have TA : True := trivial; have Xa := blk_below (Blk.drew X.out) hba; have Ba := blk_below (Blk.drew A.out) hba; have Kp0 : p0.cell? ⟨x0.heap.size, 0, none⟩ = some (.slice (some ⟨g0, 0, none⟩) ln ln) ∧ p0.cell? ⟨x0.heap.size, 1, none⟩ = some (.int .i64 kd) ∧ p0.cell? ⟨x0.heap.size, 2, none⟩ = some (.float .f32 sh) ∧ p0.cell? ⟨x0.heap.size, 3, none⟩ = some (.float .f32 sc) ∧ p0.cell? ⟨x0.heap.size, 4, none⟩ = some (.int .i64 st) ∧ p0.cell? ⟨x0.heap.size, 5, none⟩ = some (.slice (some ⟨k0, 0, none⟩) rn rn) ∧ p0.cell? ⟨x0.heap.size, 6, none⟩ = some (.int .i64 sz) ∧ p0.cell? ⟨x0.heap.size, 7, none⟩ = some (.int .i64 ac) ∧ p0.cell? ⟨w.heap.size, 0, none⟩ = some (.slice LA ln lc) ∧ p0.cell? ⟨w.heap.size, 1, none⟩ = some (.int .i64 kd) ∧ p0.cell? ⟨w.heap.size, 2, none⟩ = some (.float .f32 sh) ∧ p0.cell? ⟨w.heap.size, 3, none⟩ = some (.float .f32 sc) ∧ p0.cell? ⟨w.heap.size, 4, none⟩ = some (.int .i64 st) ∧ p0.cell? ⟨w.heap.size, 5, none⟩ = some (.slice RA rn rc) ∧ p0.cell? ⟨w.heap.size, 6, none⟩ = some (.int .i64 sz) ∧ p0.cell? ⟨w.heap.size, 7, none⟩ = some (.int .i64 ac) := ⟨Xa.cell 0, Xa.cell 1, Xa.cell 2, Xa.cell 3, Xa.cell 4, Xa.cell 5, Xa.cell 6, Xa.cell 7, Ba.cell 0, Ba.cell 1, Ba.cell 2, Ba.cell 3, Ba.cell 4, Ba.cell 5, Ba.cell 6, Ba.cell 7⟩))
  have hb : Below y0.heap.size y0 q0 := below_undrew (hba.trans (hbb.mono hba.size))
  clear X0 X1 X2 X3 X4 X5 X6 X7 A0 A1 A2 A3 A4 A5 A6 A7 Kp0 Kq0 Xa Ba Xb Bb hba hbb hgc hkc TA
  replace A : Hid (Blk q0 (w.heap.size) 80 #[.slice LA ln lc, .int .i64 kd, .float .f32 sh, .float .f32 sc, .int .i64 st, .slice RA rn rc, .int .i64 sz, .int .i64 ac]) := hide (blk_below A.out hb)
  replace X : Hid (Blk q0 (x0.heap.size) 87 #[.slice (some ⟨g0, 0, none⟩) ln ln, .int .i64 kd, .float .f32 sh, .float .f32 sc, .int .i64 st, .slice (some ⟨k0, 0, none⟩) rn rn, .int .i64 sz, .int .i64 ac]) := hide (blk_below X.out hb)
  replace R1 := hide (R1.out.below (hb.mono (by omega)))
  replace R2 := hide (R2.out.below (hb.mono (by omega)))
  replace hg0 := hide (own_below hg0.out hb)
  replace hk0 := hide (own_below hk0.out hb)
  have z4 := hb.size
  replace bel := bel.trans (hb.mono bel.size)
  clear hb
  go_wp2
  go_ret
  exact ⟨rfl, bel⟩
end Go.Proofs.Ythocahpemjijhaa
