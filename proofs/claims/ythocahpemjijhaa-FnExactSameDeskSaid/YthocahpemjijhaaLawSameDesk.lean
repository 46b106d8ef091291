/-
  The law FnExactSameDesk returns true for all arguments, and writes nothing that was there.
-/
import Derived.Test.YthocahpemjijhaaSameS
namespace Go.Proofs.Ythocahpemjijhaa
open Go.RowKit Fl Mem
set_option linter.unusedVariables false
set_option maxRecDepth 100000

theorem below_undrew {w w' : World} (h : Below w.drew.heap.size w.drew w') : Below w.heap.size w w' := ⟨h.os, h.tape, h.output, h.size, h.block⟩
theorem below_unal {w w' : World} {o : Obj} (h : Below (w.alloc o).heap.size (w.alloc o) w') : Below w.heap.size w w' := ((Below.refl _ _).alloc (Nat.le_refl _) o).trans (h.mono (by simp))
theorem below_new' {w : World} (o : Obj) : Below w.heap.size w (w.alloc o) := (Below.refl _ _).alloc (Nat.le_refl _) o

set_option maxHeartbeats 400000 in
theorem law_SameDesk (LA LA' RA RA' : Option Addr) (ln lc ln' lc' rn rc rn' rc' sh sc sh' sc' : Nat) (kd st sz ac kd' st' sz' ac' : Int) (xs ys : List (Nat × Bool)) (rs rs' : List Nat) (w : World)
    (h1 : Reads w w.heap.size 2 LA ln (ll xs)) (h1' : Reads w w.heap.size 2 LA' ln' (ll ys)) (h2 : Reads w w.heap.size 1 RA rn (fl .f32 rs)) (h2' : Reads w w.heap.size 1 RA' rn' (fl .f32 rs')) (hn : ln ≤ 9223372036854775807) (hn' : ln' ≤ 9223372036854775807) (hm : rn ≤ 9223372036854775807) (hm' : rn' ≤ 9223372036854775807)
    (wx : ∀ a ∈ xs, Wf .f32 a.1) (wy : ∀ a ∈ ys, Wf .f32 a.1) (wr : ∀ a ∈ rs, Wf .f32 a) (wr' : ∀ a ∈ rs', Wf .f32 a) (w1 : Wf .f32 sh) (w2 : Wf .f32 sc) (w1' : Wf .f32 sh') (w2' : Wf .f32 sc') :
    Calls Try.prog 10 #[deskV LA ln lc kd sh sc st RA rn rc sz ac, deskV LA' ln' lc' kd' sh' sc' st' RA' rn' rc' sz' ac'] w fun e w' => e = .returned (.bool true) ∧ Below w.heap.size w w' := by
  have bel0 : Below w.heap.size w w := Below.refl _ _
  go_enter Try.func10, Try.ntmps10
  go_wp2_with fail
  refine (l_szDesk (by omega) (by omega) hn hm).mono ?_
  rintro e v1 ⟨r1, rfl, hr1, hb⟩
  have A : Hid (Blk v1 w.heap.size 80 #[.slice LA ln lc, .int .i64 kd, .float .f32 sh, .float .f32 sc, .int .i64 st, .slice RA rn rc, .int .i64 sz, .int .i64 ac]) := hide (((Blk.new w _ _).alloc _).below hb (by simp; omega))
  have C : Hid (Blk v1 (w.heap.size + 1) 80 #[.slice LA' ln' lc', .int .i64 kd', .float .f32 sh', .float .f32 sc', .int .i64 st', .slice RA' rn' rc', .int .i64 sz', .int .i64 ac']) := hide ((blk_new' (w.alloc _) (w.heap.size + 1) _ _ (by simp)).below hb (by simp))
  have R1 := hide (((h1.alloc (Nat.le_refl _) _).alloc (by simp) _).below (hb.mono (by simp; omega)))
  have R1' := hide (((h1'.alloc (Nat.le_refl _) _).alloc (by simp) _).below (hb.mono (by simp; omega)))
  have R2 := hide (((h2.alloc (Nat.le_refl _) _).alloc (by simp) _).below (hb.mono (by simp; omega)))
  have R2' := hide (((h2'.alloc (Nat.le_refl _) _).alloc (by simp) _).below (hb.mono (by simp; omega)))
  have bel : Below w.heap.size w v1 := (((Below.refl w.heap.size w).alloc (Nat.le_refl _) _).alloc (by simp) _).trans (hb.mono (by simp; omega))
  have z00 := hb.size
  simp only [World.size_alloc] at z00
  clear hb h1 h1' h2 h2' bel0
  rcases hr1 with hr1 | ⟨hr1, hq1⟩
  · go_wp2
    go_ret
    exact ⟨rfl, bel⟩
  have i1 : ¬ r1 < 0 := by omega
  have e1 : r1 ≤ 1048576 := by omega
  have j1 : ln ≤ 1048576 := by omega
  have j2 : rn ≤ 1048576 := by omega
  clear hq1 hn hm
  have C0 : v1.cell? ⟨w.heap.size + 1, 0, none⟩ = some (.slice LA' ln' lc') := C.out.cell 0
  have C1 : v1.cell? ⟨w.heap.size + 1, 1, none⟩ = some (.int .i64 kd') := C.out.cell 1
  have C2 : v1.cell? ⟨w.heap.size + 1, 2, none⟩ = some (.float .f32 sh') := C.out.cell 2
  have C3 : v1.cell? ⟨w.heap.size + 1, 3, none⟩ = some (.float .f32 sc') := C.out.cell 3
  have C4 : v1.cell? ⟨w.heap.size + 1, 4, none⟩ = some (.int .i64 st') := C.out.cell 4
  have C5 : v1.cell? ⟨w.heap.size + 1, 5, none⟩ = some (.slice RA' rn' rc') := C.out.cell 5
  have C6 : v1.cell? ⟨w.heap.size + 1, 6, none⟩ = some (.int .i64 sz') := C.out.cell 6
  have C7 : v1.cell? ⟨w.heap.size + 1, 7, none⟩ = some (.int .i64 ac') := C.out.cell 7
  go_wp2_with fail
  refine (l_szDesk hr1 e1 hn' hm').mono ?_
  rintro e v2 ⟨r2, rfl, hr2, hb⟩
  clear C0 C1 C2 C3 C4 C5 C6 C7
  replace A : Hid (Blk v2 (w.heap.size) 80 #[.slice LA ln lc, .int .i64 kd, .float .f32 sh, .float .f32 sc, .int .i64 st, .slice RA rn rc, .int .i64 sz, .int .i64 ac]) := hide (blk_below A.out hb)
  replace C : Hid (Blk v2 (w.heap.size + 1) 80 #[.slice LA' ln' lc', .int .i64 kd', .float .f32 sh', .float .f32 sc', .int .i64 st', .slice RA' rn' rc', .int .i64 sz', .int .i64 ac']) := hide (blk_below C.out hb)
  replace R1 := hide (R1.out.below (hb.mono (by omega)))
  replace R1' := hide (R1'.out.below (hb.mono (by omega)))
  replace R2 := hide (R2.out.below (hb.mono (by omega)))
  replace R2' := hide (R2'.out.below (hb.mono (by omega)))
  have z0 := hb.size
  replace bel := bel.trans (hb.mono bel.size)
  clear hb
  rcases hr2 with hr2 | ⟨hr2, hq2⟩
  · go_wp2
    go_ret
    exact ⟨rfl, bel⟩
  have i2 : ¬ r2 < 0 := by omega
  have j3 : ln' ≤ 1048576 := by omega
  have j4 : rn' ≤ 1048576 := by omega
  clear hq2 hn' hm'
  have hAA := bel.size
  clear hAA
  have A0 : v2.cell? ⟨w.heap.size, 0, none⟩ = some (.slice LA ln lc) := A.out.cell 0
  have A1 : v2.cell? ⟨w.heap.size, 1, none⟩ = some (.int .i64 kd) := A.out.cell 1
  have A2 : v2.cell? ⟨w.heap.size, 2, none⟩ = some (.float .f32 sh) := A.out.cell 2
  have A3 : v2.cell? ⟨w.heap.size, 3, none⟩ = some (.float .f32 sc) := A.out.cell 3
  have A4 : v2.cell? ⟨w.heap.size, 4, none⟩ = some (.int .i64 st) := A.out.cell 4
  have A5 : v2.cell? ⟨w.heap.size, 5, none⟩ = some (.slice RA rn rc) := A.out.cell 5
  have A6 : v2.cell? ⟨w.heap.size, 6, none⟩ = some (.int .i64 sz) := A.out.cell 6
  have A7 : v2.cell? ⟨w.heap.size, 7, none⟩ = some (.int .i64 ac) := A.out.cell 7
  have C0 : v2.cell? ⟨w.heap.size + 1, 0, none⟩ = some (.slice LA' ln' lc') := C.out.cell 0
  have C1 : v2.cell? ⟨w.heap.size + 1, 1, none⟩ = some (.int .i64 kd') := C.out.cell 1
  have C2 : v2.cell? ⟨w.heap.size + 1, 2, none⟩ = some (.float .f32 sh') := C.out.cell 2
  have C3 : v2.cell? ⟨w.heap.size + 1, 3, none⟩ = some (.float .f32 sc') := C.out.cell 3
  have C4 : v2.cell? ⟨w.heap.size + 1, 4, none⟩ = some (.int .i64 st') := C.out.cell 4
  have C5 : v2.cell? ⟨w.heap.size + 1, 5, none⟩ = some (.slice RA' rn' rc') := C.out.cell 5
  have C6 : v2.cell? ⟨w.heap.size + 1, 6, none⟩ = some (.int .i64 sz') := C.out.cell 6
  have C7 : v2.cell? ⟨w.heap.size + 1, 7, none⟩ = some (.int .i64 ac') := C.out.cell 7
  go_wp2
  go_region_held3 (fun w' => w'.cell? ⟨w.heap.size, 0, none⟩ = some (.slice LA ln lc) ∧ w'.cell? ⟨w.heap.size, 1, none⟩ = some (.int .i64 kd) ∧ w'.cell? ⟨w.heap.size, 2, none⟩ = some (.float .f32 sh) ∧ w'.cell? ⟨w.heap.size, 3, none⟩ = some (.float .f32 sc) ∧ w'.cell? ⟨w.heap.size, 4, none⟩ = some (.int .i64 st) ∧ w'.cell? ⟨w.heap.size, 5, none⟩ = some (.slice RA rn rc) ∧ w'.cell? ⟨w.heap.size, 6, none⟩ = some (.int .i64 sz) ∧ w'.cell? ⟨w.heap.size, 7, none⟩ = some (.int .i64 ac) ∧ w'.cell? ⟨w.heap.size + 1, 0, none⟩ = some (.slice LA' ln' lc') ∧ w'.cell? ⟨w.heap.size + 1, 1, none⟩ = some (.int .i64 kd') ∧ w'.cell? ⟨w.heap.size + 1, 2, none⟩ = some (.float .f32 sh') ∧ w'.cell? ⟨w.heap.size + 1, 3, none⟩ = some (.float .f32 sc') ∧ w'.cell? ⟨w.heap.size + 1, 4, none⟩ = some (.int .i64 st') ∧ w'.cell? ⟨w.heap.size + 1, 5, none⟩ = some (.slice RA' rn' rc') ∧ w'.cell? ⟨w.heap.size + 1, 6, none⟩ = some (.int .i64 sz') ∧ w'.cell? ⟨w.heap.size + 1, 7, none⟩ = some (.int .i64 ac')) (first | assumption | go_keep) (first | (have _t := TB; go_at_call 47; refine (s_SameDesk (B := wb.heap.size) (xs := xs) (ys := ys) (rs := rs) (rs' := rs') (Nat.le_refl _) (Reads.of_own (own_below hga hbb)) (Reads.of_own hgb) (Reads.of_own (own_below hka hbb)) (Reads.of_own hkb) (by omega) (by omega) (by omega) (by omega) wx wy wr wr' w1 w2 w1' w2').mono ?_; rintro e wc ⟨rfl, hbc⟩; have Ac := blk_below Ab hbc; have Cc := blk_below Cb hbc; have Kwc : wc.cell? ⟨w.heap.size, 0, none⟩ = some (.slice LA ln lc) ∧ wc.cell? ⟨w.heap.size, 1, none⟩ = some (.int .i64 kd) ∧ wc.cell? ⟨w.heap.size, 2, none⟩ = some (.float .f32 sh) ∧ wc.cell? ⟨w.heap.size, 3, none⟩ = some (.float .f32 sc) ∧ wc.cell? ⟨w.heap.size, 4, none⟩ = some (.int .i64 st) ∧ wc.cell? ⟨w.heap.size, 5, none⟩ = some (.slice RA rn rc) ∧ wc.cell? ⟨w.heap.size, 6, none⟩ = some (.int .i64 sz) ∧ wc.cell? ⟨w.heap.size, 7, none⟩ = some (.int .i64 ac) ∧ wc.cell? ⟨w.heap.size + 1, 0, none⟩ = some (.slice LA' ln' lc') ∧ wc.cell? ⟨w.heap.size + 1, 1, none⟩ = some (.int .i64 kd') ∧ wc.cell? ⟨w.heap.size + 1, 2, none⟩ = some (.float .f32 sh') ∧ wc.cell? ⟨w.heap.size + 1, 3, none⟩ = some (.float .f32 sc') ∧ wc.cell? ⟨w.heap.size + 1, 4, none⟩ = some (.int .i64 st') ∧ wc.cell? ⟨w.heap.size + 1, 5, none⟩ = some (.slice RA' rn' rc') ∧ wc.cell? ⟨w.heap.size + 1, 6, none⟩ = some (.int .i64 sz') ∧ wc.cell? ⟨w.heap.size + 1, 7, none⟩ = some (.int .i64 ac') := ⟨Ac.cell 0, Ac.cell 1, Ac.cell 2, Ac.cell 3, Ac.cell 4, Ac.cell 5, Ac.cell 6, Ac.cell 7, Cc.cell 0, Cc.cell 1, Cc.cell 2, Cc.cell 3, Cc.cell 4, Cc.cell 5, Cc.cell 6, Cc.cell 7⟩) | (have _t := TA; go_at_call 48; refine (l_toDesk (xs := ys) (rs := rs') (B := w.heap.size) R1b R2b bela j3 j4).mono ?_; rintro e wb ⟨gb, kb, rfl, hgb, hkb, hbb⟩; have TB : True := trivial; have Ab := blk_below Aa hbb; have Cb := blk_below Ca hbb; have Kwb : wb.cell? ⟨w.heap.size, 0, none⟩ = some (.slice LA ln lc) ∧ wb.cell? ⟨w.heap.size, 1, none⟩ = some (.int .i64 kd) ∧ wb.cell? ⟨w.heap.size, 2, none⟩ = some (.float .f32 sh) ∧ wb.cell? ⟨w.heap.size, 3, none⟩ = some (.float .f32 sc) ∧ wb.cell? ⟨w.heap.size, 4, none⟩ = some (.int .i64 st) ∧ wb.cell? ⟨w.heap.size, 5, none⟩ = some (.slice RA rn rc) ∧ wb.cell? ⟨w.heap.size, 6, none⟩ = some (.int .i64 sz) ∧ wb.cell? ⟨w.heap.size, 7, none⟩ = some (.int .i64 ac) ∧ wb.cell? ⟨w.heap.size + 1, 0, none⟩ = some (.slice LA' ln' lc') ∧ wb.cell? ⟨w.heap.size + 1, 1, none⟩ = some (.int .i64 kd') ∧ wb.cell? ⟨w.heap.size + 1, 2, none⟩ = some (.float .f32 sh') ∧ wb.cell? ⟨w.heap.size + 1, 3, none⟩ = some (.float .f32 sc') ∧ wb.cell? ⟨w.heap.size + 1, 4, none⟩ = some (.int .i64 st') ∧ wb.cell? ⟨w.heap.size + 1, 5, none⟩ = some (.slice RA' rn' rc') ∧ wb.cell? ⟨w.heap.size + 1, 6, none⟩ = some (.int .i64 sz') ∧ wb.cell? ⟨w.heap.size + 1, 7, none⟩ = some (.int .i64 ac') := ⟨Ab.cell 0, Ab.cell 1, Ab.cell 2, Ab.cell 3, Ab.cell 4, Ab.cell 5, Ab.cell 6, Ab.cell 7, Cb.cell 0, Cb.cell 1, Cb.cell 2, Cb.cell 3, Cb.cell 4, Cb.cell 5, Cb.cell 6, Cb.cell 7⟩) | (go_at_call 48; refine (l_toDesk (xs := xs) (rs := rs) (B := w.heap.size) R1.out.drew R2.out.drew bel.size j1 j2).mono ?_; rintro e wa ⟨ga, ka, rfl, hga, hka, hba⟩; have TA : True := trivial; have Aa := blk_below (Blk.drew A.out) hba; have Ca := blk_below (Blk.drew C.out) hba; have Kwa : wa.cell? ⟨w.heap.size, 0, none⟩ = some (.slice LA ln lc) ∧ wa.cell? ⟨w.heap.size, 1, none⟩ = some (.int .i64 kd) ∧ wa.cell? ⟨w.heap.size, 2, none⟩ = some (.float .f32 sh) ∧ wa.cell? ⟨w.heap.size, 3, none⟩ = some (.float .f32 sc) ∧ wa.cell? ⟨w.heap.size, 4, none⟩ = some (.int .i64 st) ∧ wa.cell? ⟨w.heap.size, 5, none⟩ = some (.slice RA rn rc) ∧ wa.cell? ⟨w.heap.size, 6, none⟩ = some (.int .i64 sz) ∧ wa.cell? ⟨w.heap.size, 7, none⟩ = some (.int .i64 ac) ∧ wa.cell? ⟨w.heap.size + 1, 0, none⟩ = some (.slice LA' ln' lc') ∧ wa.cell? ⟨w.heap.size + 1, 1, none⟩ = some (.int .i64 kd') ∧ wa.cell? ⟨w.heap.size + 1, 2, none⟩ = some (.float .f32 sh') ∧ wa.cell? ⟨w.heap.size + 1, 3, none⟩ = some (.float .f32 sc') ∧ wa.cell? ⟨w.heap.size + 1, 4, none⟩ = some (.int .i64 st') ∧ wa.cell? ⟨w.heap.size + 1, 5, none⟩ = some (.slice RA' rn' rc') ∧ wa.cell? ⟨w.heap.size + 1, 6, none⟩ = some (.int .i64 sz') ∧ wa.cell? ⟨w.heap.size + 1, 7, none⟩ = some (.int .i64 ac') := ⟨Aa.cell 0, Aa.cell 1, Aa.cell 2, Aa.cell 3, Aa.cell 4, Aa.cell 5, Aa.cell 6, Aa.cell 7, Ca.cell 0, Ca.cell 1, Ca.cell 2, Ca.cell 3, Ca.cell 4, Ca.cell 5, Ca.cell 6, Ca.cell 7⟩; have R1b := R1'.out.drew.below (hba.mono bel.size); have R2b := R2'.out.drew.below (hba.mono bel.size); have za : v2.heap.size ≤ wa.heap.size := hba.size; have bela : w.heap.size ≤ wa.heap.size := Nat.le_trans bel.size za))
  have hb : Below v2.heap.size v2 wc := below_undrew ((hba.trans (hbb.mono hba.size)).trans (hbc.mono (Nat.le_trans hba.size hbb.size)))
  clear A0 A1 A2 A3 A4 A5 A6 A7 C0 C1 C2 C3 C4 C5 C6 C7 Kwa Kwb Kwc Aa Ca Ab Cb Ac Cc R1b R2b hba hbb hbc hga hka hgb hkb TA TB za bela
  replace A : Hid (Blk wc (w.heap.size) 80 #[.slice LA ln lc, .int .i64 kd, .float .f32 sh, .float .f32 sc, .int .i64 st, .slice RA rn rc, .int .i64 sz, .int .i64 ac]) := hide (blk_below A.out hb)
  replace C : Hid (Blk wc (w.heap.size + 1) 80 #[.slice LA' ln' lc', .int .i64 kd', .float .f32 sh', .float .f32 sc', .int .i64 st', .slice RA' rn' rc', .int .i64 sz', .int .i64 ac']) := hide (blk_below C.out hb)
  replace R1 := hide (R1.out.below (hb.mono (by omega)))
  replace R1' := hide (R1'.out.below (hb.mono (by omega)))
  replace R2 := hide (R2.out.below (hb.mono (by omega)))
  replace R2' := hide (R2'.out.below (hb.mono (by omega)))
  have z1 := hb.size
  replace bel := bel.trans (hb.mono bel.size)
  clear hb
  generalize hSD : sameDk xs ys kd kd' sh sc sh' sc' st st' rs rs' sz ac sz' ac' = SD at *
  have HSD := hide hSD
  clear hSD
  have A0 : wc.cell? ⟨w.heap.size, 0, none⟩ = some (.slice LA ln lc) := A.out.cell 0
  have A1 : wc.cell? ⟨w.heap.size, 1, none⟩ = some (.int .i64 kd) := A.out.cell 1
  have A2 : wc.cell? ⟨w.heap.size, 2, none⟩ = some (.float .f32 sh) := A.out.cell 2
  have A3 : wc.cell? ⟨w.heap.size, 3, none⟩ = some (.float .f32 sc) := A.out.cell 3
  have A4 : wc.cell? ⟨w.heap.size, 4, none⟩ = some (.int .i64 st) := A.out.cell 4
  have A5 : wc.cell? ⟨w.heap.size, 5, none⟩ = some (.slice RA rn rc) := A.out.cell 5
  have A6 : wc.cell? ⟨w.heap.size, 6, none⟩ = some (.int .i64 sz) := A.out.cell 6
  have A7 : wc.cell? ⟨w.heap.size, 7, none⟩ = some (.int .i64 ac) := A.out.cell 7
  go_wp2_with fail
  refine (l_toDesk (xs := xs) (rs := rs) (B := w.heap.size) R1.out R2.out bel.size j1 j2).mono ?_
  rintro e x0 ⟨g0, k0, rfl, hg0, hk0, hb⟩
  clear A0 A1 A2 A3 A4 A5 A6 A7
  have sb0 := hb.size
  replace hg0 := hide (own_up hg0 (show w.heap.size + 2 ≤ wc.heap.size by omega))
  replace hk0 := hide (own_up hk0 (show w.heap.size + 2 ≤ wc.heap.size by omega))
  replace A : Hid (Blk x0 (w.heap.size) 80 #[.slice LA ln lc, .int .i64 kd, .float .f32 sh, .float .f32 sc, .int .i64 st, .slice RA rn rc, .int .i64 sz, .int .i64 ac]) := hide (blk_below A.out hb)
  replace C : Hid (Blk x0 (w.heap.size + 1) 80 #[.slice LA' ln' lc', .int .i64 kd', .float .f32 sh', .float .f32 sc', .int .i64 st', .slice RA' rn' rc', .int .i64 sz', .int .i64 ac']) := hide (blk_below C.out hb)
  replace R1 := hide (R1.out.below (hb.mono (by omega)))
  replace R1' := hide (R1'.out.below (hb.mono (by omega)))
  replace R2 := hide (R2.out.below (hb.mono (by omega)))
  replace R2' := hide (R2'.out.below (hb.mono (by omega)))
  have z2 := hb.size
  replace bel := bel.trans (hb.mono bel.size)
  clear hb
  have lx0 : w.heap.size + 2 ≤ x0.heap.size := by omega
  have C0 : x0.cell? ⟨w.heap.size + 1, 0, none⟩ = some (.slice LA' ln' lc') := C.out.cell 0
  have C1 : x0.cell? ⟨w.heap.size + 1, 1, none⟩ = some (.int .i64 kd') := C.out.cell 1
  have C2 : x0.cell? ⟨w.heap.size + 1, 2, none⟩ = some (.float .f32 sh') := C.out.cell 2
  have C3 : x0.cell? ⟨w.heap.size + 1, 3, none⟩ = some (.float .f32 sc') := C.out.cell 3
  have C4 : x0.cell? ⟨w.heap.size + 1, 4, none⟩ = some (.int .i64 st') := C.out.cell 4
  have C5 : x0.cell? ⟨w.heap.size + 1, 5, none⟩ = some (.slice RA' rn' rc') := C.out.cell 5
  have C6 : x0.cell? ⟨w.heap.size + 1, 6, none⟩ = some (.int .i64 sz') := C.out.cell 6
  have C7 : x0.cell? ⟨w.heap.size + 1, 7, none⟩ = some (.int .i64 ac') := C.out.cell 7
  have d1 : ¬ w.heap.size + 1 = x0.heap.size := by omega
  have d2 : w.heap.size + 1 < x0.heap.size := by omega
  go_wp2_with fail
  refine (l_toDesk (xs := ys) (rs := rs') (B := w.heap.size) (R1'.out.alloc bel.size _) (R2'.out.alloc bel.size _) (by simp; omega) j3 j4).mono ?_
  rintro e x1 ⟨g1, k1, rfl, hg1, hk1, hb⟩
  clear C0 C1 C2 C3 C4 C5 C6 C7 d1 d2
  replace hg1 := hide (own_up hg1 (show w.heap.size + 2 ≤ _ by simp; omega))
  replace hk1 := hide (own_up hk1 (show w.heap.size + 2 ≤ _ by simp; omega))
  replace A : Hid (Blk x1 (w.heap.size) 80 #[.slice LA ln lc, .int .i64 kd, .float .f32 sh, .float .f32 sc, .int .i64 st, .slice RA rn rc, .int .i64 sz, .int .i64 ac]) := hide (blk_below (A.out.alloc (.cells #[.slice (some ⟨g0, 0, none⟩) ln ln, .int .i64 kd, .float .f32 sh, .float .f32 sc, .int .i64 st, .slice (some ⟨k0, 0, none⟩) rn rn, .int .i64 sz, .int .i64 ac] 87)) hb)
  replace C : Hid (Blk x1 (w.heap.size + 1) 80 #[.slice LA' ln' lc', .int .i64 kd', .float .f32 sh', .float .f32 sc', .int .i64 st', .slice RA' rn' rc', .int .i64 sz', .int .i64 ac']) := hide (blk_below (C.out.alloc (.cells #[.slice (some ⟨g0, 0, none⟩) ln ln, .int .i64 kd, .float .f32 sh, .float .f32 sc, .int .i64 st, .slice (some ⟨k0, 0, none⟩) rn rn, .int .i64 sz, .int .i64 ac] 87)) hb)
  have X : Hid (Blk x1 (x0.heap.size) 87 #[.slice (some ⟨g0, 0, none⟩) ln ln, .int .i64 kd, .float .f32 sh, .float .f32 sc, .int .i64 st, .slice (some ⟨k0, 0, none⟩) rn rn, .int .i64 sz, .int .i64 ac]) := hide (blk_below (Blk.new x0 _ _) hb)
  replace R1 := hide ((R1.out.alloc bel.size (.cells #[.slice (some ⟨g0, 0, none⟩) ln ln, .int .i64 kd, .float .f32 sh, .float .f32 sc, .int .i64 st, .slice (some ⟨k0, 0, none⟩) rn rn, .int .i64 sz, .int .i64 ac] 87)).below (hb.mono (by simp; omega)))
  replace R1' := hide ((R1'.out.alloc bel.size (.cells #[.slice (some ⟨g0, 0, none⟩) ln ln, .int .i64 kd, .float .f32 sh, .float .f32 sc, .int .i64 st, .slice (some ⟨k0, 0, none⟩) rn rn, .int .i64 sz, .int .i64 ac] 87)).below (hb.mono (by simp; omega)))
  replace R2 := hide ((R2.out.alloc bel.size (.cells #[.slice (some ⟨g0, 0, none⟩) ln ln, .int .i64 kd, .float .f32 sh, .float .f32 sc, .int .i64 st, .slice (some ⟨k0, 0, none⟩) rn rn, .int .i64 sz, .int .i64 ac] 87)).below (hb.mono (by simp; omega)))
  replace R2' := hide ((R2'.out.alloc bel.size (.cells #[.slice (some ⟨g0, 0, none⟩) ln ln, .int .i64 kd, .float .f32 sh, .float .f32 sc, .int .i64 st, .slice (some ⟨k0, 0, none⟩) rn rn, .int .i64 sz, .int .i64 ac] 87)).below (hb.mono (by simp; omega)))
  replace hg0 := hide (own_below (hg0.out.alloc (.cells #[.slice (some ⟨g0, 0, none⟩) ln ln, .int .i64 kd, .float .f32 sh, .float .f32 sc, .int .i64 st, .slice (some ⟨k0, 0, none⟩) rn rn, .int .i64 sz, .int .i64 ac] 87)) hb)
  replace hk0 := hide (own_below (hk0.out.alloc (.cells #[.slice (some ⟨g0, 0, none⟩) ln ln, .int .i64 kd, .float .f32 sh, .float .f32 sc, .int .i64 st, .slice (some ⟨k0, 0, none⟩) rn rn, .int .i64 sz, .int .i64 ac] 87)) hb)
  have z3 := hb.size
  simp only [World.size_alloc] at z3
  replace bel := bel.trans ((below_unal hb).mono bel.size)
  clear hb
  have X0 : x1.cell? ⟨x0.heap.size, 0, none⟩ = some (.slice (some ⟨g0, 0, none⟩) ln ln) := X.out.cell 0
  have X1 : x1.cell? ⟨x0.heap.size, 1, none⟩ = some (.int .i64 kd) := X.out.cell 1
  have X2 : x1.cell? ⟨x0.heap.size, 2, none⟩ = some (.float .f32 sh) := X.out.cell 2
  have X3 : x1.cell? ⟨x0.heap.size, 3, none⟩ = some (.float .f32 sc) := X.out.cell 3
  have X4 : x1.cell? ⟨x0.heap.size, 4, none⟩ = some (.int .i64 st) := X.out.cell 4
  have X5 : x1.cell? ⟨x0.heap.size, 5, none⟩ = some (.slice (some ⟨k0, 0, none⟩) rn rn) := X.out.cell 5
  have X6 : x1.cell? ⟨x0.heap.size, 6, none⟩ = some (.int .i64 sz) := X.out.cell 6
  have X7 : x1.cell? ⟨x0.heap.size, 7, none⟩ = some (.int .i64 ac) := X.out.cell 7
  have lx1 : x0.heap.size + 1 ≤ x1.heap.size := by omega
  have d1 : ¬ x0.heap.size = x1.heap.size := by omega
  have d2 : x0.heap.size < x1.heap.size := by omega
  go_wp2_with fail
  refine (i_SameDesk (B := x1.heap.size) (xs := xs) (ys := ys) (rs := rs) (rs' := rs') (by simp) ((Reads.of_own hg0.out).alloc (Nat.le_refl _) _) ((Reads.of_own hg1.out).alloc (Nat.le_refl _) _) ((Reads.of_own hk0.out).alloc (Nat.le_refl _) _) ((Reads.of_own hk1.out).alloc (Nat.le_refl _) _) (by omega) (by omega) (by omega) (by omega) wx wy wr wr' w1 w2 w1' w2').mono ?_
  rintro e y0 ⟨rfl, hb⟩
  rw [HSD.out]
  clear X0 X1 X2 X3 X4 X5 X6 X7 d1 d2
  replace A : Hid (Blk y0 (w.heap.size) 80 #[.slice LA ln lc, .int .i64 kd, .float .f32 sh, .float .f32 sc, .int .i64 st, .slice RA rn rc, .int .i64 sz, .int .i64 ac]) := hide (blk_below (A.out.alloc (.cells #[.slice (some ⟨g1, 0, none⟩) ln' ln', .int .i64 kd', .float .f32 sh', .float .f32 sc', .int .i64 st', .slice (some ⟨k1, 0, none⟩) rn' rn', .int .i64 sz', .int .i64 ac'] 87)) hb)
  replace C : Hid (Blk y0 (w.heap.size + 1) 80 #[.slice LA' ln' lc', .int .i64 kd', .float .f32 sh', .float .f32 sc', .int .i64 st', .slice RA' rn' rc', .int .i64 sz', .int .i64 ac']) := hide (blk_below (C.out.alloc (.cells #[.slice (some ⟨g1, 0, none⟩) ln' ln', .int .i64 kd', .float .f32 sh', .float .f32 sc', .int .i64 st', .slice (some ⟨k1, 0, none⟩) rn' rn', .int .i64 sz', .int .i64 ac'] 87)) hb)
  replace X : Hid (Blk y0 (x0.heap.size) 87 #[.slice (some ⟨g0, 0, none⟩) ln ln, .int .i64 kd, .float .f32 sh, .float .f32 sc, .int .i64 st, .slice (some ⟨k0, 0, none⟩) rn rn, .int .i64 sz, .int .i64 ac]) := hide (blk_below (X.out.alloc (.cells #[.slice (some ⟨g1, 0, none⟩) ln' ln', .int .i64 kd', .float .f32 sh', .float .f32 sc', .int .i64 st', .slice (some ⟨k1, 0, none⟩) rn' rn', .int .i64 sz', .int .i64 ac'] 87)) hb)
  have Y : Hid (Blk y0 (x1.heap.size) 87 #[.slice (some ⟨g1, 0, none⟩) ln' ln', .int .i64 kd', .float .f32 sh', .float .f32 sc', .int .i64 st', .slice (some ⟨k1, 0, none⟩) rn' rn', .int .i64 sz', .int .i64 ac']) := hide (blk_below (Blk.new x1 _ _) hb)
  replace R1 := hide ((R1.out.alloc bel.size (.cells #[.slice (some ⟨g1, 0, none⟩) ln' ln', .int .i64 kd', .float .f32 sh', .float .f32 sc', .int .i64 st', .slice (some ⟨k1, 0, none⟩) rn' rn', .int .i64 sz', .int .i64 ac'] 87)).below (hb.mono (by simp; omega)))
  replace R1' := hide ((R1'.out.alloc bel.size (.cells #[.slice (some ⟨g1, 0, none⟩) ln' ln', .int .i64 kd', .float .f32 sh', .float .f32 sc', .int .i64 st', .slice (some ⟨k1, 0, none⟩) rn' rn', .int .i64 sz', .int .i64 ac'] 87)).below (hb.mono (by simp; omega)))
  replace R2 := hide ((R2.out.alloc bel.size (.cells #[.slice (some ⟨g1, 0, none⟩) ln' ln', .int .i64 kd', .float .f32 sh', .float .f32 sc', .int .i64 st', .slice (some ⟨k1, 0, none⟩) rn' rn', .int .i64 sz', .int .i64 ac'] 87)).below (hb.mono (by simp; omega)))
  replace R2' := hide ((R2'.out.alloc bel.size (.cells #[.slice (some ⟨g1, 0, none⟩) ln' ln', .int .i64 kd', .float .f32 sh', .float .f32 sc', .int .i64 st', .slice (some ⟨k1, 0, none⟩) rn' rn', .int .i64 sz', .int .i64 ac'] 87)).below (hb.mono (by simp; omega)))
  replace hg0 := hide (own_below (hg0.out.alloc (.cells #[.slice (some ⟨g1, 0, none⟩) ln' ln', .int .i64 kd', .float .f32 sh', .float .f32 sc', .int .i64 st', .slice (some ⟨k1, 0, none⟩) rn' rn', .int .i64 sz', .int .i64 ac'] 87)) hb)
  replace hk0 := hide (own_below (hk0.out.alloc (.cells #[.slice (some ⟨g1, 0, none⟩) ln' ln', .int .i64 kd', .float .f32 sh', .float .f32 sc', .int .i64 st', .slice (some ⟨k1, 0, none⟩) rn' rn', .int .i64 sz', .int .i64 ac'] 87)) hb)
  replace hg1 := hide (own_below (hg1.out.alloc (.cells #[.slice (some ⟨g1, 0, none⟩) ln' ln', .int .i64 kd', .float .f32 sh', .float .f32 sc', .int .i64 st', .slice (some ⟨k1, 0, none⟩) rn' rn', .int .i64 sz', .int .i64 ac'] 87)) hb)
  replace hk1 := hide (own_below (hk1.out.alloc (.cells #[.slice (some ⟨g1, 0, none⟩) ln' ln', .int .i64 kd', .float .f32 sh', .float .f32 sc', .int .i64 st', .slice (some ⟨k1, 0, none⟩) rn' rn', .int .i64 sz', .int .i64 ac'] 87)) hb)
  have z4 := hb.size
  simp only [World.size_alloc] at z4
  replace bel := bel.trans ((below_unal hb).mono bel.size)
  clear hb
  have ly : x1.heap.size + 1 ≤ y0.heap.size := by omega
  have hsd : (!(SD == SD)) = false := by simp
  have X0 : y0.cell? ⟨x0.heap.size, 0, none⟩ = some (.slice (some ⟨g0, 0, none⟩) ln ln) := X.out.cell 0
  have X1 : y0.cell? ⟨x0.heap.size, 1, none⟩ = some (.int .i64 kd) := X.out.cell 1
  have X2 : y0.cell? ⟨x0.heap.size, 2, none⟩ = some (.float .f32 sh) := X.out.cell 2
  have X3 : y0.cell? ⟨x0.heap.size, 3, none⟩ = some (.float .f32 sc) := X.out.cell 3
  have X4 : y0.cell? ⟨x0.heap.size, 4, none⟩ = some (.int .i64 st) := X.out.cell 4
  have X5 : y0.cell? ⟨x0.heap.size, 5, none⟩ = some (.slice (some ⟨k0, 0, none⟩) rn rn) := X.out.cell 5
  have X6 : y0.cell? ⟨x0.heap.size, 6, none⟩ = some (.int .i64 sz) := X.out.cell 6
  have X7 : y0.cell? ⟨x0.heap.size, 7, none⟩ = some (.int .i64 ac) := X.out.cell 7
  have A0 : y0.cell? ⟨w.heap.size, 0, none⟩ = some (.slice LA ln lc) := A.out.cell 0
  have A1 : y0.cell? ⟨w.heap.size, 1, none⟩ = some (.int .i64 kd) := A.out.cell 1
  have A2 : y0.cell? ⟨w.heap.size, 2, none⟩ = some (.float .f32 sh) := A.out.cell 2
  have A3 : y0.cell? ⟨w.heap.size, 3, none⟩ = some (.float .f32 sc) := A.out.cell 3
  have A4 : y0.cell? ⟨w.heap.size, 4, none⟩ = some (.int .i64 st) := A.out.cell 4
  have A5 : y0.cell? ⟨w.heap.size, 5, none⟩ = some (.slice RA rn rc) := A.out.cell 5
  have A6 : y0.cell? ⟨w.heap.size, 6, none⟩ = some (.int .i64 sz) := A.out.cell 6
  have A7 : y0.cell? ⟨w.heap.size, 7, none⟩ = some (.int .i64 ac) := A.out.cell 7
  go_wp2
  go_region_held3 (fun w' => w'.cell? ⟨x0.heap.size, 0, none⟩ = some (.slice (some ⟨g0, 0, none⟩) ln ln) ∧ w'.cell? ⟨x0.heap.size, 1, none⟩ = some (.int .i64 kd) ∧ w'.cell? ⟨x0.heap.size, 2, none⟩ = some (.float .f32 sh) ∧ w'.cell? ⟨x0.heap.size, 3, none⟩ = some (.float .f32 sc) ∧ w'.cell? ⟨x0.heap.size, 4, none⟩ = some (.int .i64 st) ∧ w'.cell? ⟨x0.heap.size, 5, none⟩ = some (.slice (some ⟨k0, 0, none⟩) rn rn) ∧ w'.cell? ⟨x0.heap.size, 6, none⟩ = some (.int .i64 sz) ∧ w'.cell? ⟨x0.heap.size, 7, none⟩ = some (.int .i64 ac) ∧ w'.cell? ⟨w.heap.size, 0, none⟩ = some (.slice LA ln lc) ∧ w'.cell? ⟨w.heap.size, 1, none⟩ = some (.int .i64 kd) ∧ w'.cell? ⟨w.heap.size, 2, none⟩ = some (.float .f32 sh) ∧ w'.cell? ⟨w.heap.size, 3, none⟩ = some (.float .f32 sc) ∧ w'.cell? ⟨w.heap.size, 4, none⟩ = some (.int .i64 st) ∧ w'.cell? ⟨w.heap.size, 5, none⟩ = some (.slice RA rn rc) ∧ w'.cell? ⟨w.heap.size, 6, none⟩ = some (.int .i64 sz) ∧ w'.cell? ⟨w.heap.size, 7, none⟩ = some (.int .i64 ac)) (first | assumption | go_keep) (first | (have _t := TA; go_at_call 50; refine (eqDesk (B := p0.heap.size) (xs := xs) (rs := rs) (Nat.le_refl _) (Reads.of_own (own_below (w := y0.drew) hg0.out hba)) (Reads.of_own hgc) (Reads.of_own (own_below (w := y0.drew) hk0.out hba)) (Reads.of_own hkc) (by omega) (by omega) rfl rfl).mono ?_; rintro e q0 ⟨rfl, hbb⟩; have Xb := blk_below Xa hbb; have Bb := blk_below Ba hbb; have Kq0 : q0.cell? ⟨x0.heap.size, 0, none⟩ = some (.slice (some ⟨g0, 0, none⟩) ln ln) ∧ q0.cell? ⟨x0.heap.size, 1, none⟩ = some (.int .i64 kd) ∧ q0.cell? ⟨x0.heap.size, 2, none⟩ = some (.float .f32 sh) ∧ q0.cell? ⟨x0.heap.size, 3, none⟩ = some (.float .f32 sc) ∧ q0.cell? ⟨x0.heap.size, 4, none⟩ = some (.int .i64 st) ∧ q0.cell? ⟨x0.heap.size, 5, none⟩ = some (.slice (some ⟨k0, 0, none⟩) rn rn) ∧ q0.cell? ⟨x0.heap.size, 6, none⟩ = some (.int .i64 sz) ∧ q0.cell? ⟨x0.heap.size, 7, none⟩ = some (.int .i64 ac) ∧ q0.cell? ⟨w.heap.size, 0, none⟩ = some (.slice LA ln lc) ∧ q0.cell? ⟨w.heap.size, 1, none⟩ = some (.int .i64 kd) ∧ q0.cell? ⟨w.heap.size, 2, none⟩ = some (.float .f32 sh) ∧ q0.cell? ⟨w.heap.size, 3, none⟩ = some (.float .f32 sc) ∧ q0.cell? ⟨w.heap.size, 4, none⟩ = some (.int .i64 st) ∧ q0.cell? ⟨w.heap.size, 5, none⟩ = some (.slice RA rn rc) ∧ q0.cell? ⟨w.heap.size, 6, none⟩ = some (.int .i64 sz) ∧ q0.cell? ⟨w.heap.size, 7, none⟩ = some (.int .i64 ac) := ⟨Xb.cell 0, Xb.cell 1, Xb.cell 2, Xb.cell 3, Xb.cell 4, Xb.cell 5, Xb.cell 6, Xb.cell 7, Bb.cell 0, Bb.cell 1, Bb.cell 2, Bb.cell 3, Bb.cell 4, Bb.cell 5, Bb.cell 6, Bb.cell 7⟩) | (go_at_call 48; refine (l_toDesk (xs := xs) (rs := rs) (B := w.heap.size) R1.out.drew R2.out.drew bel.size j1 j2).mono ?_; rintro e p0 ⟨gc, kc, rfl, hgc, hkc, hba⟩; have TA : True := trivial; have Xa := blk_below (Blk.drew X.out) hba; have Ba := blk_below (Blk.drew A.out) hba; have Kp0 : p0.cell? ⟨x0.heap.size, 0, none⟩ = some (.slice (some ⟨g0, 0, none⟩) ln ln) ∧ p0.cell? ⟨x0.heap.size, 1, none⟩ = some (.int .i64 kd) ∧ p0.cell? ⟨x0.heap.size, 2, none⟩ = some (.float .f32 sh) ∧ p0.cell? ⟨x0.heap.size, 3, none⟩ = some (.float .f32 sc) ∧ p0.cell? ⟨x0.heap.size, 4, none⟩ = some (.int .i64 st) ∧ p0.cell? ⟨x0.heap.size, 5, none⟩ = some (.slice (some ⟨k0, 0, none⟩) rn rn) ∧ p0.cell? ⟨x0.heap.size, 6, none⟩ = some (.int .i64 sz) ∧ p0.cell? ⟨x0.heap.size, 7, none⟩ = some (.int .i64 ac) ∧ p0.cell? ⟨w.heap.size, 0, none⟩ = some (.slice LA ln lc) ∧ p0.cell? ⟨w.heap.size, 1, none⟩ = some (.int .i64 kd) ∧ p0.cell? ⟨w.heap.size, 2, none⟩ = some (.float .f32 sh) ∧ p0.cell? ⟨w.heap.size, 3, none⟩ = some (.float .f32 sc) ∧ p0.cell? ⟨w.heap.size, 4, none⟩ = some (.int .i64 st) ∧ p0.cell? ⟨w.heap.size, 5, none⟩ = some (.slice RA rn rc) ∧ p0.cell? ⟨w.heap.size, 6, none⟩ = some (.int .i64 sz) ∧ p0.cell? ⟨w.heap.size, 7, none⟩ = some (.int .i64 ac) := ⟨Xa.cell 0, Xa.cell 1, Xa.cell 2, Xa.cell 3, Xa.cell 4, Xa.cell 5, Xa.cell 6, Xa.cell 7, Ba.cell 0, Ba.cell 1, Ba.cell 2, Ba.cell 3, Ba.cell 4, Ba.cell 5, Ba.cell 6, Ba.cell 7⟩))
  have hb : Below y0.heap.size y0 q0 := below_undrew (hba.trans (hbb.mono hba.size))
  clear X0 X1 X2 X3 X4 X5 X6 X7 A0 A1 A2 A3 A4 A5 A6 A7 Kp0 Kq0 Xa Ba Xb Bb hba hbb hgc hkc TA
  replace A : Hid (Blk q0 (w.heap.size) 80 #[.slice LA ln lc, .int .i64 kd, .float .f32 sh, .float .f32 sc, .int .i64 st, .slice RA rn rc, .int .i64 sz, .int .i64 ac]) := hide (blk_below A.out hb)
  replace C : Hid (Blk q0 (w.heap.size + 1) 80 #[.slice LA' ln' lc', .int .i64 kd', .float .f32 sh', .float .f32 sc', .int .i64 st', .slice RA' rn' rc', .int .i64 sz', .int .i64 ac']) := hide (blk_below C.out hb)
  replace X : Hid (Blk q0 (x0.heap.size) 87 #[.slice (some ⟨g0, 0, none⟩) ln ln, .int .i64 kd, .float .f32 sh, .float .f32 sc, .int .i64 st, .slice (some ⟨k0, 0, none⟩) rn rn, .int .i64 sz, .int .i64 ac]) := hide (blk_below X.out hb)
  replace Y : Hid (Blk q0 (x1.heap.size) 87 #[.slice (some ⟨g1, 0, none⟩) ln' ln', .int .i64 kd', .float .f32 sh', .float .f32 sc', .int .i64 st', .slice (some ⟨k1, 0, none⟩) rn' rn', .int .i64 sz', .int .i64 ac']) := hide (blk_below Y.out hb)
  replace R1 := hide (R1.out.below (hb.mono (by omega)))
  replace R1' := hide (R1'.out.below (hb.mono (by omega)))
  replace R2 := hide (R2.out.below (hb.mono (by omega)))
  replace R2' := hide (R2'.out.below (hb.mono (by omega)))
  replace hg0 := hide (own_below hg0.out hb)
  replace hk0 := hide (own_below hk0.out hb)
  replace hg1 := hide (own_below hg1.out hb)
  replace hk1 := hide (own_below hk1.out hb)
  have z5 := hb.size
  replace bel := bel.trans (hb.mono bel.size)
  clear hb
  have Y0 : q0.cell? ⟨x1.heap.size, 0, none⟩ = some (.slice (some ⟨g1, 0, none⟩) ln' ln') := Y.out.cell 0
  have Y1 : q0.cell? ⟨x1.heap.size, 1, none⟩ = some (.int .i64 kd') := Y.out.cell 1
  have Y2 : q0.cell? ⟨x1.heap.size, 2, none⟩ = some (.float .f32 sh') := Y.out.cell 2
  have Y3 : q0.cell? ⟨x1.heap.size, 3, none⟩ = some (.float .f32 sc') := Y.out.cell 3
  have Y4 : q0.cell? ⟨x1.heap.size, 4, none⟩ = some (.int .i64 st') := Y.out.cell 4
  have Y5 : q0.cell? ⟨x1.heap.size, 5, none⟩ = some (.slice (some ⟨k1, 0, none⟩) rn' rn') := Y.out.cell 5
  have Y6 : q0.cell? ⟨x1.heap.size, 6, none⟩ = some (.int .i64 sz') := Y.out.cell 6
  have Y7 : q0.cell? ⟨x1.heap.size, 7, none⟩ = some (.int .i64 ac') := Y.out.cell 7
  have C0 : q0.cell? ⟨w.heap.size + 1, 0, none⟩ = some (.slice LA' ln' lc') := C.out.cell 0
  have C1 : q0.cell? ⟨w.heap.size + 1, 1, none⟩ = some (.int .i64 kd') := C.out.cell 1
  have C2 : q0.cell? ⟨w.heap.size + 1, 2, none⟩ = some (.float .f32 sh') := C.out.cell 2
  have C3 : q0.cell? ⟨w.heap.size + 1, 3, none⟩ = some (.float .f32 sc') := C.out.cell 3
  have C4 : q0.cell? ⟨w.heap.size + 1, 4, none⟩ = some (.int .i64 st') := C.out.cell 4
  have C5 : q0.cell? ⟨w.heap.size + 1, 5, none⟩ = some (.slice RA' rn' rc') := C.out.cell 5
  have C6 : q0.cell? ⟨w.heap.size + 1, 6, none⟩ = some (.int .i64 sz') := C.out.cell 6
  have C7 : q0.cell? ⟨w.heap.size + 1, 7, none⟩ = some (.int .i64 ac') := C.out.cell 7
  go_wp2
  go_region_held3 (fun w' => w'.cell? ⟨x1.heap.size, 0, none⟩ = some (.slice (some ⟨g1, 0, none⟩) ln' ln') ∧ w'.cell? ⟨x1.heap.size, 1, none⟩ = some (.int .i64 kd') ∧ w'.cell? ⟨x1.heap.size, 2, none⟩ = some (.float .f32 sh') ∧ w'.cell? ⟨x1.heap.size, 3, none⟩ = some (.float .f32 sc') ∧ w'.cell? ⟨x1.heap.size, 4, none⟩ = some (.int .i64 st') ∧ w'.cell? ⟨x1.heap.size, 5, none⟩ = some (.slice (some ⟨k1, 0, none⟩) rn' rn') ∧ w'.cell? ⟨x1.heap.size, 6, none⟩ = some (.int .i64 sz') ∧ w'.cell? ⟨x1.heap.size, 7, none⟩ = some (.int .i64 ac') ∧ w'.cell? ⟨w.heap.size + 1, 0, none⟩ = some (.slice LA' ln' lc') ∧ w'.cell? ⟨w.heap.size + 1, 1, none⟩ = some (.int .i64 kd') ∧ w'.cell? ⟨w.heap.size + 1, 2, none⟩ = some (.float .f32 sh') ∧ w'.cell? ⟨w.heap.size + 1, 3, none⟩ = some (.float .f32 sc') ∧ w'.cell? ⟨w.heap.size + 1, 4, none⟩ = some (.int .i64 st') ∧ w'.cell? ⟨w.heap.size + 1, 5, none⟩ = some (.slice RA' rn' rc') ∧ w'.cell? ⟨w.heap.size + 1, 6, none⟩ = some (.int .i64 sz') ∧ w'.cell? ⟨w.heap.size + 1, 7, none⟩ = some (.int .i64 ac')) (first | assumption | go_keep) (first | (have _t := TA; go_at_call 50; refine (eqDesk (B := p1.heap.size) (xs := ys) (rs := rs') (Nat.le_refl _) (Reads.of_own (own_below (w := q0.drew) hg1.out hba)) (Reads.of_own hgc) (Reads.of_own (own_below (w := q0.drew) hk1.out hba)) (Reads.of_own hkc) (by omega) (by omega) rfl rfl).mono ?_; rintro e q1 ⟨rfl, hbb⟩; have Xb := blk_below Xa hbb; have Bb := blk_below Ba hbb; have Kq1 : q1.cell? ⟨x1.heap.size, 0, none⟩ = some (.slice (some ⟨g1, 0, none⟩) ln' ln') ∧ q1.cell? ⟨x1.heap.size, 1, none⟩ = some (.int .i64 kd') ∧ q1.cell? ⟨x1.heap.size, 2, none⟩ = some (.float .f32 sh') ∧ q1.cell? ⟨x1.heap.size, 3, none⟩ = some (.float .f32 sc') ∧ q1.cell? ⟨x1.heap.size, 4, none⟩ = some (.int .i64 st') ∧ q1.cell? ⟨x1.heap.size, 5, none⟩ = some (.slice (some ⟨k1, 0, none⟩) rn' rn') ∧ q1.cell? ⟨x1.heap.size, 6, none⟩ = some (.int .i64 sz') ∧ q1.cell? ⟨x1.heap.size, 7, none⟩ = some (.int .i64 ac') ∧ q1.cell? ⟨w.heap.size + 1, 0, none⟩ = some (.slice LA' ln' lc') ∧ q1.cell? ⟨w.heap.size + 1, 1, none⟩ = some (.int .i64 kd') ∧ q1.cell? ⟨w.heap.size + 1, 2, none⟩ = some (.float .f32 sh') ∧ q1.cell? ⟨w.heap.size + 1, 3, none⟩ = some (.float .f32 sc') ∧ q1.cell? ⟨w.heap.size + 1, 4, none⟩ = some (.int .i64 st') ∧ q1.cell? ⟨w.heap.size + 1, 5, none⟩ = some (.slice RA' rn' rc') ∧ q1.cell? ⟨w.heap.size + 1, 6, none⟩ = some (.int .i64 sz') ∧ q1.cell? ⟨w.heap.size + 1, 7, none⟩ = some (.int .i64 ac') := ⟨Xb.cell 0, Xb.cell 1, Xb.cell 2, Xb.cell 3, Xb.cell 4, Xb.cell 5, Xb.cell 6, Xb.cell 7, Bb.cell 0, Bb.cell 1, Bb.cell 2, Bb.cell 3, Bb.cell 4, Bb.cell 5, Bb.cell 6, Bb.cell 7⟩) | (go_at_call 48; refine (l_toDesk (xs := ys) (rs := rs') (B := w.heap.size) R1'.out.drew R2'.out.drew bel.size j3 j4).mono ?_; rintro e p1 ⟨gc, kc, rfl, hgc, hkc, hba⟩; have TA : True := trivial; have Xa := blk_below (Blk.drew Y.out) hba; have Ba := blk_below (Blk.drew C.out) hba; have Kp1 : p1.cell? ⟨x1.heap.size, 0, none⟩ = some (.slice (some ⟨g1, 0, none⟩) ln' ln') ∧ p1.cell? ⟨x1.heap.size, 1, none⟩ = some (.int .i64 kd') ∧ p1.cell? ⟨x1.heap.size, 2, none⟩ = some (.float .f32 sh') ∧ p1.cell? ⟨x1.heap.size, 3, none⟩ = some (.float .f32 sc') ∧ p1.cell? ⟨x1.heap.size, 4, none⟩ = some (.int .i64 st') ∧ p1.cell? ⟨x1.heap.size, 5, none⟩ = some (.slice (some ⟨k1, 0, none⟩) rn' rn') ∧ p1.cell? ⟨x1.heap.size, 6, none⟩ = some (.int .i64 sz') ∧ p1.cell? ⟨x1.heap.size, 7, none⟩ = some (.int .i64 ac') ∧ p1.cell? ⟨w.heap.size + 1, 0, none⟩ = some (.slice LA' ln' lc') ∧ p1.cell? ⟨w.heap.size + 1, 1, none⟩ = some (.int .i64 kd') ∧ p1.cell? ⟨w.heap.size + 1, 2, none⟩ = some (.float .f32 sh') ∧ p1.cell? ⟨w.heap.size + 1, 3, none⟩ = some (.float .f32 sc') ∧ p1.cell? ⟨w.heap.size + 1, 4, none⟩ = some (.int .i64 st') ∧ p1.cell? ⟨w.heap.size + 1, 5, none⟩ = some (.slice RA' rn' rc') ∧ p1.cell? ⟨w.heap.size + 1, 6, none⟩ = some (.int .i64 sz') ∧ p1.cell? ⟨w.heap.size + 1, 7, none⟩ = some (.int .i64 ac') := ⟨Xa.cell 0, Xa.cell 1, Xa.cell 2, Xa.cell 3, Xa.cell 4, Xa.cell 5, Xa.cell 6, Xa.cell 7, Ba.cell 0, Ba.cell 1, Ba.cell 2, Ba.cell 3, Ba.cell 4, Ba.cell 5, Ba.cell 6, Ba.cell 7⟩))
  have hb : Below q0.heap.size q0 q1 := below_undrew (hba.trans (hbb.mono hba.size))
  clear Y0 Y1 Y2 Y3 Y4 Y5 Y6 Y7 C0 C1 C2 C3 C4 C5 C6 C7 Kp1 Kq1 Xa Ba Xb Bb hba hbb hgc hkc TA
  replace A : Hid (Blk q1 (w.heap.size) 80 #[.slice LA ln lc, .int .i64 kd, .float .f32 sh, .float .f32 sc, .int .i64 st, .slice RA rn rc, .int .i64 sz, .int .i64 ac]) := hide (blk_below A.out hb)
  replace C : Hid (Blk q1 (w.heap.size + 1) 80 #[.slice LA' ln' lc', .int .i64 kd', .float .f32 sh', .float .f32 sc', .int .i64 st', .slice RA' rn' rc', .int .i64 sz', .int .i64 ac']) := hide (blk_below C.out hb)
  replace X : Hid (Blk q1 (x0.heap.size) 87 #[.slice (some ⟨g0, 0, none⟩) ln ln, .int .i64 kd, .float .f32 sh, .float .f32 sc, .int .i64 st, .slice (some ⟨k0, 0, none⟩) rn rn, .int .i64 sz, .int .i64 ac]) := hide (blk_below X.out hb)
  replace Y : Hid (Blk q1 (x1.heap.size) 87 #[.slice (some ⟨g1, 0, none⟩) ln' ln', .int .i64 kd', .float .f32 sh', .float .f32 sc', .int .i64 st', .slice (some ⟨k1, 0, none⟩) rn' rn', .int .i64 sz', .int .i64 ac']) := hide (blk_below Y.out hb)
  replace R1 := hide (R1.out.below (hb.mono (by omega)))
  replace R1' := hide (R1'.out.below (hb.mono (by omega)))
  replace R2 := hide (R2.out.below (hb.mono (by omega)))
  replace R2' := hide (R2'.out.below (hb.mono (by omega)))
  replace hg0 := hide (own_below hg0.out hb)
  replace hk0 := hide (own_below hk0.out hb)
  replace hg1 := hide (own_below hg1.out hb)
  replace hk1 := hide (own_below hk1.out hb)
  have z6 := hb.size
  replace bel := bel.trans (hb.mono bel.size)
  clear hb
  go_wp2
  go_ret
  exact ⟨rfl, bel⟩
end Go.Proofs.Ythocahpemjijhaa
