/-
  ReadLaw: the rest of the ways through a list of two numbers.
-/
import Derived.Test.YtjmpldcnhjgpkaaGreatDoorReadL
import Derived.Test.YtjmpldcnhjgpkaaGreatDoorBrg
import Derived.Test.YtjmpldcnhjgpkaaGreatDoorGaF
import Derived.Test.YtjmpldcnhjgpkaaGreatDoorSeqB
import Derived.Test.YtjmpldcnhjgpkaaGreatDoorProg
import Derived.Test.YtjmpldcnhjgpkaaGreatDoorHelp
import Derived.Deep.RegionHeld3
import Derived.BigQuiet
import Derived.IntWalk
namespace Go.Proofs.YtjmpldcnhjgpkaaGreatDoor
open Go.RowKit Mem Fl Go.Shelf
set_option linter.unusedVariables false
set_option maxRecDepth 100000

set_option maxHeartbeats 2000000 in
theorem i_ReadLaw_yes {t : ByteArray} {n : Int} {x y : Nat} {bm bs : Int} {w : World} (hs : t.size ≤ 1048576) (hm : w.cell? ⟨renCutF.g 1, 0, none⟩ = some (.int .i64 bm)) (hm2 : w.cell? ⟨renSplit.g 1, 0, none⟩ = some (.int .i64 bs)) (he : Errs w)
    (htab : Lib.TabIs Tryz.prog w "internal/strconv.uint64pow10" .u64 Lib.pow10Tab) (ht : w.cell? ⟨4, 15, none⟩ = some (.int .u8 4)) (h : headV t = some (n, [x, y])) (hl : lawOk n x y = true) :
    Calls Tryz.prog 147 #[.string t] w fun e w' => e = .returned (.tuple #[.agg (lawA n x y), .bool true]) ∧ Below w.heap.size w w' := by
  have b0 : Below w.heap.size w (w.alloc (.cells (lawA 0 0 0) 27)) := (Below.refl _ _).alloc (Nat.le_refl _) _
  have HH := hide (i_readHeaded (w := w.alloc (.cells (lawA 0 0 0) 27)) hs ((b0.cell (p := ⟨renCutF.g 1, 0, none⟩) (Go.Clock.block_lt hm)).trans hm) ((b0.cell (p := ⟨renSplit.g 1, 0, none⟩) (Go.Clock.block_lt hm2)).trans hm2) (he.below b0) (pow_kept htab b0) ((b0.cell (p := ⟨4, 15, none⟩) (Go.Clock.block_lt ht)).trans ht))
  rw [h] at HH
  clear b0 hm hm2 he htab ht
  go_enter Tryz.func147, Tryz.ntmps147
  go_wp2_with fail
  refine HH.out.mono ?_
  rintro e w1 ⟨⟨n', v, rfl, rfl, ho, _⟩, hb⟩
  simp only [Option.isSome_some]
  obtain ⟨g, c, rfl⟩ := own_addr ho (by simp)
  have c0 : w1.cell? ⟨g, 0, none⟩ = some (.float .f32 x) := (own_cell ho (i := 0) rfl).1
  have c1 : w1.cell? ⟨g, 1, none⟩ = some (.float .f32 y) := (own_cell ho (i := 1) rfl).1
  have hg := (ho.lt g rfl).2
  have hgn : g ≠ w.heap.size := by have := (ho.lt g rfl).1; simp at this; omega
  have hgn' : ¬ w.heap.size = g := fun e => hgn e.symm
  clear ho
  have blkB := (Blk.new w 27 (lawA 0 0 0)).below hb (by simp)
  have bel1 : Below w.heap.size w w1 := ((Below.refl _ _).alloc (Nat.le_refl _) _).trans (hb.mono (by simp))
  clear hb HH
  go_wp2_with fail
  go_region_held3 (fun w' => w'.cell? ⟨g, 0, none⟩ = some (.float .f32 x) ∧ w'.cell? ⟨g, 1, none⟩ = some (.float .f32 y)) (first | assumption | go_keep)
    (first
      | (go_at_call 175; refine (i_ifLaw_yes hl).mono ?_; rintro e w2 ⟨rfl, hb20⟩; have hb2 : Below w1.heap.size w1 w2 := ⟨hb20.os, hb20.tape, hb20.output, hb20.size, hb20.block⟩; clear hb20; have K2 : w2.cell? ⟨g, 0, none⟩ = some (.float .f32 x) ∧ w2.cell? ⟨g, 1, none⟩ = some (.float .f32 y) := ⟨(hb2.cell (p := ⟨g, 0, none⟩) hg).trans c0, (hb2.cell (p := ⟨g, 1, none⟩) hg).trans c1⟩; have blk2 := blkB.below hb2 blkB.lt; have bel2 := bel1.trans (hb2.mono bel1.size); have d0 := blk2.cell 0; have d1 := blk2.cell 1; have d2 := blk2.cell 2; have f0 := blk2.frozen 0; have f1 := blk2.frozen 1; have f2 := blk2.frozen 2; clear hb2))
  go_wp2
  refine bodyPost_ret (results_row_tmp (P := Tryz.prog) rfl _ _ w.heap.size 27 (lawA n' x y) (0, 0) _ rfl (((blk2.set_ 0 _).set_ 1 _).set_ 2 _) Tryz.underlying27 rfl (by kernel_rfl)) rfl ?_
  exact ⟨rfl, ((bel2.setCell (Nat.le_refl _) _).setCell (Nat.le_refl _) _).setCell (Nat.le_refl _) _⟩
set_option maxHeartbeats 2000000 in
theorem i_ReadLaw_no {t : ByteArray} {n : Int} {x y : Nat} {bm bs : Int} {w : World} (hs : t.size ≤ 1048576) (hm : w.cell? ⟨renCutF.g 1, 0, none⟩ = some (.int .i64 bm)) (hm2 : w.cell? ⟨renSplit.g 1, 0, none⟩ = some (.int .i64 bs)) (he : Errs w)
    (htab : Lib.TabIs Tryz.prog w "internal/strconv.uint64pow10" .u64 Lib.pow10Tab) (ht : w.cell? ⟨4, 15, none⟩ = some (.int .u8 4)) (h : headV t = some (n, [x, y])) (hl : lawOk n x y = false) :
    Calls Tryz.prog 147 #[.string t] w fun e w' => e = .returned (.tuple #[.agg (lawA 0 0 0), .bool false]) ∧ Below w.heap.size w w' := by
  have b0 : Below w.heap.size w (w.alloc (.cells (lawA 0 0 0) 27)) := (Below.refl _ _).alloc (Nat.le_refl _) _
  have HH := hide (i_readHeaded (w := w.alloc (.cells (lawA 0 0 0) 27)) hs ((b0.cell (p := ⟨renCutF.g 1, 0, none⟩) (Go.Clock.block_lt hm)).trans hm) ((b0.cell (p := ⟨renSplit.g 1, 0, none⟩) (Go.Clock.block_lt hm2)).trans hm2) (he.below b0) (pow_kept htab b0) ((b0.cell (p := ⟨4, 15, none⟩) (Go.Clock.block_lt ht)).trans ht))
  rw [h] at HH
  clear b0 hm hm2 he htab ht
  go_enter Tryz.func147, Tryz.ntmps147
  go_wp2_with fail
  refine HH.out.mono ?_
  rintro e w1 ⟨⟨n', v, rfl, rfl, ho, _⟩, hb⟩
  simp only [Option.isSome_some]
  obtain ⟨g, c, rfl⟩ := own_addr ho (by simp)
  have c0 : w1.cell? ⟨g, 0, none⟩ = some (.float .f32 x) := (own_cell ho (i := 0) rfl).1
  have c1 : w1.cell? ⟨g, 1, none⟩ = some (.float .f32 y) := (own_cell ho (i := 1) rfl).1
  have hg := (ho.lt g rfl).2
  have hgn : g ≠ w.heap.size := by have := (ho.lt g rfl).1; simp at this; omega
  have hgn' : ¬ w.heap.size = g := fun e => hgn e.symm
  clear ho
  have blkB := (Blk.new w 27 (lawA 0 0 0)).below hb (by simp)
  have bel1 : Below w.heap.size w w1 := ((Below.refl _ _).alloc (Nat.le_refl _) _).trans (hb.mono (by simp))
  clear hb HH
  go_wp2_with fail
  go_region_held3 (fun w' => w'.cell? ⟨g, 0, none⟩ = some (.float .f32 x) ∧ w'.cell? ⟨g, 1, none⟩ = some (.float .f32 y)) (first | assumption | go_keep)
    (first
      | (go_at_call 175; refine (i_ifLaw_no hl).mono ?_; rintro e w2 ⟨rfl, hb20⟩; have hb2 : Below w1.heap.size w1 w2 := ⟨hb20.os, hb20.tape, hb20.output, hb20.size, hb20.block⟩; clear hb20; have K2 : w2.cell? ⟨g, 0, none⟩ = some (.float .f32 x) ∧ w2.cell? ⟨g, 1, none⟩ = some (.float .f32 y) := ⟨(hb2.cell (p := ⟨g, 0, none⟩) hg).trans c0, (hb2.cell (p := ⟨g, 1, none⟩) hg).trans c1⟩; have blk2 := blkB.below hb2 blkB.lt; have bel2 := bel1.trans (hb2.mono bel1.size); have d0 := blk2.cell 0; have d1 := blk2.cell 1; have d2 := blk2.cell 2; have f0 := blk2.frozen 0; have f1 := blk2.frozen 1; have f2 := blk2.frozen 2; clear hb2))
  go_wp2
  refine bodyPost_ret (results_row_tmp (P := Tryz.prog) rfl _ _ w.heap.size 27 (lawA 0 0 0) (0, 0) _ rfl (((blk2.set_ 0 _).set_ 1 _).set_ 2 _) Tryz.underlying27 rfl (by kernel_rfl)) rfl ?_
  exact ⟨rfl, ((bel2.setCell (Nat.le_refl _) _).setCell (Nat.le_refl _) _).setCell (Nat.le_refl _) _⟩
end Go.Proofs.YtjmpldcnhjgpkaaGreatDoor

/-
  ReadLaw: both sides, joined; and the law.
-/
namespace Go.Proofs.YtjmpldcnhjgpkaaGreatDoor
open Go.RowKit Mem Fl Go.Shelf
set_option linter.unusedVariables false
set_option maxRecDepth 100000

theorem lawV_two {t : ByteArray} {n : Int} {x y : Nat} (h : headV t = some (n, [x, y])) : lawV t = if lawOk n x y = true then some (n, x, y) else none := by
  unfold lawV; rw [h]; rfl
theorem i_ReadLaw {t : ByteArray} {bm bs : Int} {w : World} (hs : t.size ≤ 1048576) (hm : w.cell? ⟨renCutF.g 1, 0, none⟩ = some (.int .i64 bm)) (hm2 : w.cell? ⟨renSplit.g 1, 0, none⟩ = some (.int .i64 bs)) (he : Errs w)
    (htab : Lib.TabIs Tryz.prog w "internal/strconv.uint64pow10" .u64 Lib.pow10Tab) (ht : w.cell? ⟨4, 15, none⟩ = some (.int .u8 4)) :
    Calls Tryz.prog 147 #[.string t] w fun e w' => e = .returned (lawRes (lawV t)) ∧ Below w.heap.size w w' := by
  cases h : headV t with
  | none => rw [lawV_none h]; exact i_ReadLaw_none hs hm hm2 he htab ht h
  | some p =>
    obtain ⟨n, xs⟩ := p
    by_cases hl : xs.length = 2
    · match xs, hl with
      | [x, y], _ =>
        rw [lawV_two h]
        cases ho : lawOk n x y with
        | true => exact i_ReadLaw_yes hs hm hm2 he htab ht h ho
        | false => exact i_ReadLaw_no hs hm hm2 he htab ht h ho
    · rw [lawV_len h hl]; exact i_ReadLaw_len hs hm hm2 he htab ht h hl
theorem lawRes_is (o : Option (Int × Nat × Nat)) : ∃ (n : Int) (x y : Nat) (b : Bool), lawRes o = .tuple #[.agg (lawA n x y), .bool b] := by
  cases o with
  | none => exact ⟨_, _, _, _, rfl⟩
  | some p => exact ⟨_, _, _, _, rfl⟩
end Go.Proofs.YtjmpldcnhjgpkaaGreatDoor

/-
  The exponential of 32 bits: plain law. What is at most 60 has a finite one that is not below 0.
-/
namespace Go.Proofs.YtjmpldcnhjgpkaaGreatDoor.Fl
open Go.RowKit
set_option linter.unusedVariables false
set_option maxRecDepth 100000

def exT (x : Nat) : Nat := fb .quo .f64 (wide x) 4643211215818981376
def exP (t : Nat) : Nat → Nat
  | 0 => 4607182418800017408
  | j + 1 => fb .add .f64 4607182418800017408 (fb .quo .f64 (fb .mul .f64 t (exP t j)) (floatOfInt .f64 (12 - (j : Int))))
def exS (p : Nat) : Nat → Nat
  | 0 => p
  | j + 1 => fb .mul .f64 (exS p j) (exS p j)
def exW (x : Nat) : Nat := exS (exP (exT x) 12) 8
namespace Ex
theorem u64 : uu .f64 = 1 / 9007199254740992 := by decide +kernel
theorem lp64 : p2 (FloatKind.f64.format.leastPlace - 1) ≤ 1 / 100000000000000000000 := by decide +kernel
theorem lp0 : 0 ≤ p2 (FloatKind.f64.format.leastPlace - 1) := p2_nn _
theorem big64 : (1000000000000000000000000000000000000000 : Rat) ≤ big .f64 := by decide +kernel
theorem big32 : (100000000000000000000000000000000000000 : Rat) ≤ big .f32 := by decide +kernel
theorem one64 : fin .f64 4607182418800017408 = true ∧ fv .f64 4607182418800017408 = 1 := by decide +kernel
theorem c256 : fin .f64 4643211215818981376 = true ∧ fv .f64 4643211215818981376 = 256 := by decide +kernel
theorem quo_rng {x K A B : Rat} (hK : 1 ≤ K) (hA : 0 ≤ A) (hB : 0 ≤ B) (h1 : -A ≤ x) (h2 : x ≤ B) : -A ≤ x / K ∧ x / K ≤ B := by
  have k0 : 0 < K := by grind
  have hv : x / K * K = x := Rat.div_mul_cancel (Rat.ne_of_gt k0)
  have a := Rat.mul_nonneg hA (show 0 ≤ K - 1 by grind)
  have b := Rat.mul_nonneg hB (show 0 ≤ K - 1 by grind)
  exact ⟨Rat.le_of_mul_le_mul_right (c := K) (by rw [hv]; grind) k0, Rat.le_of_mul_le_mul_right (c := K) (by rw [hv]; grind) k0⟩
theorem mul_rng {t p M A B : Rat} (hp0 : 0 ≤ p) (hp : p ≤ M) (hA : 0 ≤ A) (hB : 0 ≤ B) (h1 : -A ≤ t * M) (h2 : t * M ≤ B) : -A ≤ t * p ∧ t * p ≤ B := by
  rcases Rat.le_total (a := 0) (b := t) with h | h
  · have a := Rat.mul_nonneg h hp0
    have b := Rat.mul_nonneg h (show 0 ≤ M - p by grind)
    constructor <;> grind
  · have a := Rat.mul_nonneg (show 0 ≤ -t by grind) hp0
    have b := Rat.mul_nonneg (show 0 ≤ -t by grind) (show 0 ≤ M - p by grind)
    constructor <;> grind
theorem exP_rng {t : Nat} {M : Rat} (ht : fin .f64 t = true) (hM : M ≤ 2) (h0 : 0 ≤ M - 1 - 1 / 1000) (h1 : -(8 / 10) ≤ fv .f64 t * M) (h2 : fv .f64 t * M ≤ M - 1 - 1 / 1000) : ∀ j, j ≤ 12 → fin .f64 (exP t j) = true ∧ 0 ≤ fv .f64 (exP t j) ∧ fv .f64 (exP t j) ≤ M
  | 0, _ => by
    simp only [exP]
    rw [one64.2]
    exact ⟨one64.1, by decide +kernel, by grind⟩
  | j + 1, hj => by
    obtain ⟨a, b, c⟩ := exP_rng ht hM h0 h1 h2 j (by omega)
    obtain ⟨m1, m2⟩ := mul_rng (A := 8 / 10) (B := M - 1 - 1 / 1000) b c (by decide +kernel) h0 h1 h2
    obtain ⟨k1, k2⟩ := re_int (k := .f64) (n := 12 - (j : Int)) (by have : FloatKind.f64.format.fractionBits = 52 := by decide +kernel
                                                                    rw [this]; omega)
    have k3 : (1 : Rat) ≤ ((12 - (j : Int) : Int) : Rat) := by
      have := Rat.intCast_le_intCast.2 (show (1 : Int) ≤ 12 - (j : Int) by omega)
      exact this
    rw [← k2] at k3
    have hb := big64
    have hl := lp64
    have hl0 := lp0
    obtain ⟨x1, x2⟩ := re_mul ht a (by grind) (by grind)
    have x3 := x2 1 (by grind) (by grind)
    rw [u64] at x3
    obtain ⟨X, hX⟩ : ∃ X, fb .mul .f64 t (exP t j) = X := ⟨_, rfl⟩
    obtain ⟨K, hK⟩ : ∃ K, floatOfInt .f64 (12 - (j : Int)) = K := ⟨_, rfl⟩
    simp only [exP]
    rw [hX] at x1 x3 ⊢
    rw [hK] at k1 k3 ⊢
    obtain ⟨q1, q2⟩ := quo_rng (x := fv .f64 X) (A := 801 / 1000) (B := M - 1 - 9 / 10000) k3 (by decide +kernel) (by grind) (by grind) (by grind)
    obtain ⟨r1, r2⟩ := re_quo x1 k1 (by grind) (by grind) (by grind)
    have r3 := r2 1 (by grind) (by grind)
    rw [u64] at r3
    obtain ⟨Y, hY⟩ : ∃ Y, fb .quo .f64 X K = Y := ⟨_, rfl⟩
    obtain ⟨Z, hZ⟩ : ∃ Z, fv .f64 X / fv .f64 K = Z := ⟨_, rfl⟩
    rw [hZ] at q1 q2 r3
    rw [hY] at r1 r3 ⊢
    have y1 : -(81 / 100) ≤ fv .f64 Y := by grind
    have y2 : fv .f64 Y ≤ M - 1 - 8 / 10000 := by grind
    clear r3 r2 q1 q2 x3 x2 m1 m2 hZ
    obtain ⟨o1, o2⟩ := one64
    obtain ⟨s1, s2⟩ := re_add o1 r1 (by rw [o2]; grind) (by rw [o2]; grind)
    have s3 := s2 2 (by rw [o2]; grind) (by rw [o2]; grind)
    rw [u64, o2] at s3
    exact ⟨s1, by grind, by grind⟩
def sqB : Nat → Rat
  | 0 => 131 / 100
  | 1 => 172 / 100
  | 2 => 296 / 100
  | 3 => 88 / 10
  | 4 => 78
  | 5 => 6100
  | 6 => 38000000
  | 7 => 1500000000000000
  | _ => 2300000000000000000000000000000
theorem sqB_step : ∀ j : Nat, j < 8 → sqB j * sqB j + 1 / 9007199254740992 * (sqB j * sqB j) + 1 / 100000000000000000000 ≤ sqB (j + 1) ∧ sqB j * sqB j ≤ 2300000000000000000000000000000 ∧ 0 ≤ sqB j := by decide +kernel
theorem exS_rng {p : Nat} (hp : fin .f64 p = true) (h0 : 0 ≤ fv .f64 p) (h1 : fv .f64 p ≤ 131 / 100) : ∀ j, j ≤ 8 → fin .f64 (exS p j) = true ∧ 0 ≤ fv .f64 (exS p j) ∧ fv .f64 (exS p j) ≤ sqB j
  | 0, _ => ⟨hp, h0, h1⟩
  | j + 1, hj => by
    obtain ⟨a, b, c⟩ := exS_rng hp h0 h1 j (by omega)
    obtain ⟨s1, s2, s3⟩ := sqB_step j (by omega)
    simp only [exS]
    obtain ⟨Z, hZ⟩ : ∃ Z, exS p j = Z := ⟨_, rfl⟩
    rw [hZ] at a b c ⊢
    have hb := big64
    have hl := lp64
    have hl0 := lp0
    have m := sq_le b c
    have m0 := Rat.mul_nonneg b b
    have n := re_mul_nn a a b b (by grind)
    obtain ⟨x1, x2⟩ := re_mul a a (by grind) (by grind)
    have x3 := x2 (sqB j * sqB j) m (by grind)
    rw [u64] at x3
    exact ⟨x1, n, by grind⟩
end Ex
/-- The exponential of what lies between -200 and 60. -/
theorem exp_told {x : Nat} (hx : fin .f32 x = true) (h1 : -200 ≤ fv .f32 x) (h2 : fv .f32 x ≤ 60) :
    fin .f64 (exW x) = true ∧ narOk (exW x) ∧ fin .f32 (nar (exW x)) = true ∧ 0 ≤ fv .f32 (nar (exW x)) ∧ fv .f32 (nar (exW x)) ≤ 3000000000000000000000000000000 := by
  obtain ⟨w1, w2⟩ := re_wide hx
  obtain ⟨c1, c2⟩ := Ex.c256
  have hb := Ex.big64
  have hl := Ex.lp64
  have hl0 := Ex.lp0
  have e1 : fv .f32 x / 256 = fv .f32 x * (1 / 256) := by grind
  obtain ⟨q1, q2⟩ := re_quo w1 c1 (by rw [c2]; decide +kernel) (by rw [w2, c2, e1]; grind) (by rw [w2, c2, e1]; grind)
  have q3 := q2 1 (by rw [w2, c2, e1]; grind) (by rw [w2, c2, e1]; grind)
  rw [w2, c2, e1, Ex.u64] at q3
  have hT : fb .quo .f64 (wide x) 4643211215818981376 = exT x := rfl
  rw [hT] at q1 q3
  obtain ⟨T, hT2⟩ : ∃ T, exT x = T := ⟨_, rfl⟩
  rw [hT2] at q1 q3
  have p : fin .f64 (exP T 12) = true ∧ 0 ≤ fv .f64 (exP T 12) ∧ fv .f64 (exP T 12) ≤ 131 / 100 := by
    rcases Rat.le_total (a := 0) (b := fv .f32 x) with h | h
    · exact Ex.exP_rng (M := 131 / 100) q1 (by decide +kernel) (by decide +kernel) (by grind) (by grind) 12 (Nat.le_refl _)
    · obtain ⟨a, b, c⟩ := Ex.exP_rng (M := 101 / 100) q1 (by decide +kernel) (by decide +kernel) (by grind) (by grind) 12 (Nat.le_refl _)
      exact ⟨a, b, by grind⟩
  obtain ⟨s1, s2, s3⟩ := Ex.exS_rng p.1 p.2.1 p.2.2 8 (Nat.le_refl _)
  have s4 : fv .f64 (exS (exP T 12) 8) ≤ 2300000000000000000000000000000 := s3
  have e2 : exW x = exS (exP T 12) 8 := by unfold exW; rw [hT2]
  rw [e2]
  obtain ⟨Z, hZ⟩ : ∃ Z, exS (exP T 12) 8 = Z := ⟨_, rfl⟩
  rw [hZ] at s1 s2 s4 ⊢
  have hb2 := Ex.big32
  obtain ⟨n1, n2, n3⟩ := re_nar s1 (by grind) (by grind)
  have n4 := n3 2300000000000000000000000000000 s4 (by grind)
  have u32 : uu .f32 = 1 / 16777216 := by decide +kernel
  have l32 : p2 (-150) ≤ 1 := by decide +kernel
  rw [u32] at n4
  exact ⟨s1, n1, n2, nar_nn s1 s2 (by grind), by grind⟩
def expN (x : Nat) : Nat := if fv .f32 x < -200 then 0 else nar (exW x)
theorem expN_told {x : Nat} (hx : fin .f32 x = true) (h2 : fv .f32 x ≤ 60) : fin .f32 (expN x) = true ∧ 0 ≤ fv .f32 (expN x) ∧ fv .f32 (expN x) ≤ 3000000000000000000000000000000 := by
  unfold expN
  split
  · decide +kernel
  · obtain ⟨a, b, c, d, e⟩ := exp_told hx (by grind) h2
    exact ⟨c, d, e⟩
end Go.Proofs.YtjmpldcnhjgpkaaGreatDoor.Fl

/-
  Logarithms of what lies between 1/128 and 16, powers, and the share of a law that outlives a time: plain law.
-/
namespace Go.Proofs.YtjmpldcnhjgpkaaGreatDoor.Fl
open Go.RowKit
set_option linter.unusedVariables false
set_option maxRecDepth 100000
namespace Ex
theorem sqle {x M : Rat} (h1 : x ≤ M) (h2 : -x ≤ M) : x * x ≤ M * M := by
  have := Rat.mul_nonneg (show 0 ≤ M - x by grind) (show 0 ≤ M + x by grind); grind
theorem sqnn (a : Rat) : 0 ≤ a * a := by
  rcases Rat.le_total (a := 0) (b := a) with h | h
  · exact Rat.mul_nonneg h h
  · have := Rat.mul_nonneg (show 0 ≤ -a by grind) (show 0 ≤ -a by grind); grind
theorem finrung {r : Nat} (h : r < 9218868437227405312) : fin .f64 r = true := (fin_iff _ _).2 ⟨_, _, _, read_pos (k := .f64) (by rw [d64_inf]; exact h)⟩
theorem fvmono {a b : Nat} (h : a ≤ b) (hb : b < 9218868437227405312) : fv .f64 a ≤ fv .f64 b := by
  have ho := gt_pos (k := .f64) (c := a) (q := b) (by rw [d64_inf]; omega) (by rw [d64_inf]; exact hb)
  rw [ord_gt (finrung (by omega)) (finrung hb)] at ho
  have : decide (b < a) = false := by simp; omega
  rw [this] at ho
  have := of_decide_eq_false ho
  grind
theorem fvup {a b : Nat} (h : fv .f64 a < fv .f64 b) (ha : a < 9218868437227405312) : a ≤ b := by
  rcases Nat.lt_or_ge b a with h1 | h1
  · have := fvmono (Nat.le_of_lt h1) ha
    grind
  · exact h1
theorem divabs {x y M : Rat} (hy : 0 < y) (h1 : x ≤ M * y) (h2 : -x ≤ M * y) : x / y ≤ M ∧ -(x / y) ≤ M := by
  have hv : x / y * y = x := Rat.div_mul_cancel (Rat.ne_of_gt hy)
  exact ⟨Rat.le_of_mul_le_mul_right (c := y) (by rw [hv]; exact h1) hy, Rat.le_of_mul_le_mul_right (c := y) (by rw [Rat.neg_mul, hv]; exact h2) hy⟩
theorem cends : fin .f64 4607182418800017408 = true ∧ fv .f64 4607182418800017408 = 1 ∧ 7 / 10 ≤ fv .f64 4604930618986332160 ∧ fv .f64 4609434218613702656 ≤ 16 / 10 ∧ fin .f64 4611686018427387904 = true ∧ fv .f64 4611686018427387904 = 2 ∧ fin .f64 ln2 = true ∧ fv .f64 ln2 ≤ 1 ∧ 0 ≤ fv .f64 ln2 := by decide +kernel
theorem logSs {c : Nat} (h1 : 4604930618986332160 ≤ c) (h2 : c < 4609434218613702656) : fin .f64 (logS c) = true ∧ fv .f64 (logS c) ≤ 1 / 2 ∧ -fv .f64 (logS c) ≤ 1 / 2 := by
  obtain ⟨o1, o2, e1, e2, _⟩ := cends
  have fc := finrung (show c < 9218868437227405312 by omega)
  have g1 := fvmono h1 (by omega)
  have g2 := fvmono (Nat.le_of_lt h2) (by decide)
  have hb := big64
  obtain ⟨a1, a2⟩ := re_sub fc o1 (by grind) (by grind)
  have a3 := a2 1 (by grind) (by grind)
  obtain ⟨b1, b2⟩ := re_add fc o1 (by grind) (by grind)
  have b3 := b2 3 (by grind) (by grind)
  rw [u64, o2] at a3 b3
  have hl := lp64
  have hpos : 0 < fv .f64 (fb .add .f64 c 4607182418800017408) := by grind
  obtain ⟨q1, q2⟩ := divabs (x := fv .f64 (fb .sub .f64 c 4607182418800017408)) (y := fv .f64 (fb .add .f64 c 4607182418800017408)) (M := 4 / 10) hpos (by grind) (by grind)
  obtain ⟨r1, r2⟩ := re_quo a1 b1 (Rat.ne_of_gt hpos) (by grind) (by grind)
  have r3 := r2 (4 / 10) q1 q2
  rw [u64] at r3
  unfold logS
  exact ⟨r1, by grind, by grind⟩
theorem kqtab : ∀ j : Nat, j < 13 → fin .f64 (fb .quo .f64 4607182418800017408 (floatOfInt .f64 (25 - 2 * (j : Int)))) = true ∧ fv .f64 (fb .quo .f64 4607182418800017408 (floatOfInt .f64 (25 - 2 * (j : Int)))) ≤ 1 ∧ 0 ≤ fv .f64 (fb .quo .f64 4607182418800017408 (floatOfInt .f64 (25 - 2 * (j : Int)))) := by decide +kernel
theorem logQs {u : Nat} (hu : fin .f64 u = true) (h1 : fv .f64 u ≤ 1 / 2) (h2 : -fv .f64 u ≤ 1 / 2) : ∀ j, j ≤ 13 → fin .f64 (logQ u j) = true ∧ fv .f64 (logQ u j) ≤ 3 ∧ -fv .f64 (logQ u j) ≤ 3
  | 0, _ => by
    have : fin .f64 0 = true ∧ fv .f64 0 = 0 := by decide +kernel
    simp only [logQ]
    rw [this.2]
    exact ⟨this.1, by decide +kernel, by decide +kernel⟩
  | j + 1, hj => by
    obtain ⟨a, b, c⟩ := logQs hu h1 h2 j (by omega)
    obtain ⟨k1, k2, k3⟩ := kqtab j (by omega)
    have p1 := Rat.mul_nonneg (show 0 ≤ 1 / 2 - fv .f64 u by grind) (show 0 ≤ 3 + fv .f64 (logQ u j) by grind)
    have p2 := Rat.mul_nonneg (show 0 ≤ 1 / 2 + fv .f64 u by grind) (show 0 ≤ 3 - fv .f64 (logQ u j) by grind)
    have p3 := Rat.mul_nonneg (show 0 ≤ 1 / 2 - fv .f64 u by grind) (show 0 ≤ 3 - fv .f64 (logQ u j) by grind)
    have p4 := Rat.mul_nonneg (show 0 ≤ 1 / 2 + fv .f64 u by grind) (show 0 ≤ 3 + fv .f64 (logQ u j) by grind)
    have m1 : fv .f64 u * fv .f64 (logQ u j) ≤ 3 / 2 := by grind
    have m2 : -(fv .f64 u * fv .f64 (logQ u j)) ≤ 3 / 2 := by grind
    clear p1 p2 p3 p4
    have hb := big64
    have hl := lp64
    obtain ⟨x1, x2⟩ := re_mul hu a (by grind) (by grind)
    have x3 := x2 (3 / 2) m1 m2
    rw [u64] at x3
    obtain ⟨y1, y2⟩ := re_add k1 x1 (by grind) (by grind)
    have y3 := y2 3 (by grind) (by grind)
    rw [u64] at y3
    simp only [logQ]
    exact ⟨y1, by grind, by grind⟩
theorem redcc (r : Nat) : 4604930618986332160 ≤ redR r ∧ redR r < 4609434218613702656 := by
  unfold redR
  have a := Int.emod_lt_of_pos ((r : Int) - 4604930618986332160) (show (0 : Int) < 4503599627370496 by decide)
  have b := Int.emod_nonneg ((r : Int) - 4604930618986332160) (show (4503599627370496 : Int) ≠ 0 by decide)
  omega
/-- Logarithms of what lies between 1/128 and 16. -/
theorem logVm {r : Nat} (h1 : 4575657221408423936 ≤ r) (h2 : r ≤ pw 4) : fin .f64 (logV r) = true ∧ fv .f64 (logV r) ≤ 12 ∧ -fv .f64 (logV r) ≤ 12 := by
  obtain ⟨c1, c2⟩ := redcc r
  obtain ⟨s1, s2, s3⟩ := logSs c1 c2
  have he1 : -7 ≤ redE r := by unfold redE; omega
  have he2 : redE r ≤ 7 := by unfold redE pw at *; omega
  obtain ⟨S, hS⟩ : ∃ S, logS (redR r) = S := ⟨_, rfl⟩
  unfold logV
  rw [hS] at s1 s2 s3 ⊢
  have hb := big64
  have hl := lp64
  have q1 := sqle s2 s3
  have q2 := sqnn (fv .f64 S)
  obtain ⟨u1, u2⟩ := re_mul s1 s1 (by grind) (by grind)
  have u3 := u2 (1 / 4) (by grind) (by grind)
  rw [u64] at u3
  obtain ⟨v1, v2, v3⟩ := logQs u1 (by grind) (by grind) 13 (Nat.le_refl _)
  obtain ⟨Q, hQ⟩ : ∃ Q, logQ (fb .mul .f64 S S) 13 = Q := ⟨_, rfl⟩
  rw [hQ] at v1 v2 v3 ⊢
  have p1 := Rat.mul_nonneg (show 0 ≤ 1 / 2 - fv .f64 S by grind) (show 0 ≤ 3 + fv .f64 Q by grind)
  have p2 := Rat.mul_nonneg (show 0 ≤ 1 / 2 + fv .f64 S by grind) (show 0 ≤ 3 - fv .f64 Q by grind)
  have p3 := Rat.mul_nonneg (show 0 ≤ 1 / 2 - fv .f64 S by grind) (show 0 ≤ 3 - fv .f64 Q by grind)
  have p4 := Rat.mul_nonneg (show 0 ≤ 1 / 2 + fv .f64 S by grind) (show 0 ≤ 3 + fv .f64 Q by grind)
  have m1 : fv .f64 S * fv .f64 Q ≤ 3 / 2 := by grind
  have m2 : -(fv .f64 S * fv .f64 Q) ≤ 3 / 2 := by grind
  clear p1 p2 p3 p4 u1 u2 u3 q1 q2 s2 s3 v2 v3
  obtain ⟨x1, x2⟩ := re_mul s1 v1 (by grind) (by grind)
  have x3 := x2 (3 / 2) m1 m2
  rw [u64] at x3
  obtain ⟨_, _, _, _, t1, t2, l1, l2, l3⟩ := cends
  obtain ⟨y1, y2⟩ := re_mul t1 x1 (by rw [t2]; grind) (by rw [t2]; grind)
  have y3 := y2 4 (by rw [t2]; grind) (by rw [t2]; grind)
  rw [u64, t2] at y3
  obtain ⟨i1, i2⟩ := re_int (k := .f64) (n := redE r) (by rw [d64_fb]; omega)
  have i3 : ((redE r : Int) : Rat) ≤ 7 := by
    have := Rat.intCast_le_intCast.2 he2; exact this
  have i4 : -((redE r : Int) : Rat) ≤ 7 := by
    have := Rat.intCast_le_intCast.2 (show -7 ≤ redE r by omega)
    have e : ((-7 : Int) : Rat) = -7 := rfl
    rw [e] at this; grind
  rw [← i2] at i3 i4
  have p1 := Rat.mul_nonneg (show 0 ≤ 7 - fv .f64 (floatOfInt .f64 (redE r)) by grind) l3
  have p2 := Rat.mul_nonneg (show 0 ≤ 7 + fv .f64 (floatOfInt .f64 (redE r)) by grind) l3
  have n1 : fv .f64 (floatOfInt .f64 (redE r)) * fv .f64 ln2 ≤ 7 := by grind
  have n2 : -(fv .f64 (floatOfInt .f64 (redE r)) * fv .f64 ln2) ≤ 7 := by grind
  obtain ⟨z1, z2⟩ := re_mul i1 l1 (by grind) (by grind)
  have z3 := z2 7 n1 n2
  rw [u64] at z3
  obtain ⟨w1, w2⟩ := re_add y1 z1 (by grind) (by grind)
  have w3 := w2 20 (by grind) (by grind)
  rw [u64] at w3
  exact ⟨w1, by grind, by grind⟩
theorem ends : fv .f64 4575657221408423936 = 1 / 128 ∧ fv .f64 (pw 4) = 16 ∧ 4575657221408423936 < 9218868437227405312 ∧ pw 4 < 9218868437227405312 := by decide +kernel
theorem f00 : fv .f32 0 = 0 ∧ fin .f32 0 = true := by decide +kernel
theorem sgp {s : Bool} {m : Nat} {i : Int} (hm : m ≠ 0) (h : 0 < sg s * ((m : Rat) * p2 i)) : s = false := by
  cases s with
  | false => rfl
  | true =>
    exfalso
    have h1 : 0 ≤ (m : Rat) * p2 i := Rat.mul_nonneg Rat.natCast_nonneg (p2_nn i)
    have h2 : sg true = -1 := rfl
    rw [h2] at h
    grind
theorem nnfv {x : Nat} (hw : Wf .f32 x) (hf : fin .f32 x = true) (h0 : 0 < fv .f32 x) : Nn x ∧ x ≠ 0 := by
  obtain ⟨s, m, i, rx, _, _⟩ := fin_read hf
  have hv := fv_num rx
  have hm : m ≠ 0 := by
    rintro rfl
    rw [hv] at h0
    have : sg s * (((0 : Nat) : Rat) * p2 i) = 0 := by
      have e : ((0 : Nat) : Rat) = 0 := rfl
      rw [e]; grind
    rw [this] at h0
    exact absurd h0 (by decide)
  have hs := sgp (s := s) (m := m) (i := i) hm (by rw [← hv]; exact h0)
  subst hs
  refine ⟨nn_of hw rx, ?_⟩
  rintro rfl
  rw [f00.1] at h0
  exact absurd h0 (by decide)
theorem u32 : uu .f32 = 1 / 16777216 := by decide +kernel
theorem l32 : p2 (-150) ≤ 1 / 1000000000 := by decide +kernel
theorem l32b : p2 (FloatKind.f32.format.leastPlace - 1) ≤ 1 / 1000000000 ∧ 0 ≤ p2 (FloatKind.f32.format.leastPlace - 1) := ⟨by decide +kernel, p2_nn _⟩
/-- The logarithm of 32 bits. -/
theorem logNm {x : Nat} (hw : Wf .f32 x) (hf : fin .f32 x = true) (h1 : 1 / 128 < fv .f32 x) (h2 : fv .f32 x < 16) : x ≤ 2139095040 ∧ x ≠ 0 ∧ fin .f32 (logN x) = true ∧ fv .f32 (logN x) ≤ 13 ∧ -fv .f32 (logN x) ≤ 13 := by
  obtain ⟨n1, n2⟩ := nnfv hw hf (by grind)
  obtain ⟨w1, w2⟩ := re_wide hf
  obtain ⟨w3, w4⟩ := wide_pos n1 n2
  obtain ⟨e1, e2, e3, e4⟩ := ends
  obtain ⟨a, b, c⟩ := logVm (r := wide x) (fvup (by rw [e1, w2]; exact h1) e3) (fvup (by rw [e2, w2]; exact h2) w4)
  have hb := big32
  have hL := logN_num n1
  obtain ⟨L, hL2⟩ : ∃ L, logV (wide x) = L := ⟨_, rfl⟩
  rw [hL2] at a b c hL
  clear hL2 w1 w2 w3 w4 e1 e2 e3 e4
  obtain ⟨m1, m2, m3⟩ := re_nar a (by grind) (by grind)
  have m4 := m3 12 b c
  have hl := l32
  rw [u32] at m4
  rw [hL]
  exact ⟨by unfold Nn at n1; omega, n2, m2, by grind, by grind⟩
end Ex
def powN (x y : Nat) : Nat := expN (fb .mul .f32 y (logN x))
/-- A power of what lies between 1/128 and 16, to at most 3. -/
theorem powN_told {x y : Nat} (hw : Wf .f32 x) (hf : fin .f32 x = true) (h1 : 1 / 128 < fv .f32 x) (h2 : fv .f32 x < 16) (hy : fin .f32 y = true) (y0 : 0 ≤ fv .f32 y) (y3 : fv .f32 y ≤ 3) :
    fin .f32 (fb .mul .f32 y (logN x)) = true ∧ fv .f32 (fb .mul .f32 y (logN x)) ≤ 60 ∧ fin .f32 (powN x y) = true ∧ 0 ≤ fv .f32 (powN x y) ∧ fv .f32 (powN x y) ≤ 3000000000000000000000000000000 := by
  obtain ⟨_, _, a, b, c⟩ := Ex.logNm hw hf h1 h2
  have p1 := Rat.mul_nonneg y0 (show 0 ≤ 13 - fv .f32 (logN x) by grind)
  have p2 := Rat.mul_nonneg y0 (show 0 ≤ 13 + fv .f32 (logN x) by grind)
  have hb := Ex.big32
  obtain ⟨x1, x2⟩ := re_mul hy a (by grind) (by grind)
  have x3 := x2 39 (by grind) (by grind)
  have hl := Ex.l32b
  rw [Ex.u32] at x3
  have x4 : fv .f32 (fb .mul .f32 y (logN x)) ≤ 60 := by grind
  exact ⟨x1, x4, expN_told x1 x4⟩
/-- The share that outlives a time. -/
def survX (sc t : Nat) : Nat := fb .quo .f32 t sc
def survN (kd : Int) (sh sc t : Nat) : Nat :=
  if kd = 0 then expN (fb .sub .f32 0 (survX sc t)) else if kd = 1 then expN (fb .sub .f32 0 (powN (survX sc t) sh)) else if kd = 2 then fb .quo .f32 1065353216 (fb .add .f32 1065353216 (powN (survX sc t) sh))
  else if 1 < fv .f32 (survX sc t) then 0 else fb .sub .f32 1065353216 (survX sc t)
theorem one32 : fin .f32 1065353216 = true ∧ fv .f32 1065353216 = 1 := by decide +kernel
/-- What the law asks of a law of life and a time. -/
structure LawD (kd : Int) (sh sc t : Nat) : Prop where
  k0 : 0 ≤ kd
  k3 : kd ≤ 3
  hf : fin .f32 sh = true
  h0 : 1 / 2 ≤ fv .f32 sh
  h3 : fv .f32 sh ≤ 3
  cf : fin .f32 sc = true
  c0 : 1 / 2 ≤ fv .f32 sc
  c1 : fv .f32 sc ≤ 16
  tf : fin .f32 t = true
  t0 : 1 / 4 ≤ fv .f32 t
  t4 : fv .f32 t ≤ 4
theorem LawD.quo {kd : Int} {sh sc t : Nat} (h : LawD kd sh sc t) : fin .f32 (survX sc t) = true ∧ 1 / 128 < fv .f32 (survX sc t) ∧ fv .f32 (survX sc t) < 16 := by
  obtain ⟨k0, k3, hf, h0, h3, cf, c0, c1, tf, t0, t4⟩ := h
  have hb := Ex.big32
  have cp : 0 < fv .f32 sc := by grind
  have hv : fv .f32 t / fv .f32 sc * fv .f32 sc = fv .f32 t := Rat.div_mul_cancel (Rat.ne_of_gt cp)
  have q1 : fv .f32 t / fv .f32 sc ≤ 8 := Rat.le_of_mul_le_mul_right (c := fv .f32 sc) (by rw [hv]; grind) cp
  have q2 : 1 / 64 ≤ fv .f32 t / fv .f32 sc := Rat.le_of_mul_le_mul_right (c := fv .f32 sc) (by rw [hv]; grind) cp
  obtain ⟨a, b⟩ := re_quo tf cf (Rat.ne_of_gt cp) (by grind) (by grind)
  have b2 := b 8 q1 (by grind)
  have hl := Ex.l32b
  rw [Ex.u32] at b2
  unfold survX
  exact ⟨a, by grind, by grind⟩
/-- The arguments of each way are as they must be; the share is finite. -/
theorem LawD.told {kd : Int} {sh sc t : Nat} (h : LawD kd sh sc t) :
    (fin .f32 (fb .sub .f32 0 (survX sc t)) = true ∧ fv .f32 (fb .sub .f32 0 (survX sc t)) ≤ 60) ∧ (fin .f32 (fb .sub .f32 0 (powN (survX sc t) sh)) = true ∧ fv .f32 (fb .sub .f32 0 (powN (survX sc t) sh)) ≤ 60) ∧
    fin .f32 (fb .add .f32 1065353216 (powN (survX sc t) sh)) = true ∧ fin .f32 (fb .quo .f32 1065353216 (fb .add .f32 1065353216 (powN (survX sc t) sh))) = true ∧ fin .f32 (fb .sub .f32 1065353216 (survX sc t)) = true ∧ fin .f32 (survN kd sh sc t) = true := by
  obtain ⟨x1, x2, x3⟩ := h.quo
  have hX : survX sc t = fb .quo .f32 t sc := rfl
  have wx : Wf .f32 (survX sc t) := by rw [hX]; exact wf_fb _ _ _ _
  obtain ⟨_, _, p1, p2, p3⟩ := powN_told wx x1 x2 x3 h.hf (by have := h.h0; grind) h.h3
  have hb := Ex.big32
  have hl := Ex.l32b
  obtain ⟨z0, z1⟩ := Ex.f00
  obtain ⟨o1, o2⟩ := one32
  obtain ⟨P, hP⟩ : ∃ P, powN (survX sc t) sh = P := ⟨_, rfl⟩
  obtain ⟨X, hX2⟩ : ∃ X, survX sc t = X := ⟨_, rfl⟩
  unfold survN
  rw [hP] at p1 p2 p3 ⊢
  rw [hX2] at x1 x2 x3 ⊢
  obtain ⟨a1, a2⟩ := re_sub z1 x1 (by rw [z0]; grind) (by rw [z0]; grind)
  have a3 := a2 16 (by rw [z0]; grind) (by rw [z0]; grind)
  rw [Ex.u32, z0] at a3
  have a4 : fv .f32 (fb .sub .f32 0 X) ≤ 60 := by grind
  obtain ⟨b1, b2⟩ := re_sub z1 p1 (by rw [z0]; grind) (by rw [z0]; grind)
  have b3 := b2 (fv .f32 P) (by rw [z0]; grind) (by rw [z0]; grind)
  rw [Ex.u32, z0] at b3
  have b4 : fv .f32 (fb .sub .f32 0 P) ≤ 60 := by grind
  obtain ⟨c1, c2⟩ := re_add o1 p1 (by rw [o2]; grind) (by rw [o2]; grind)
  have c3 := c2 (1 + fv .f32 P) (by rw [o2]; grind) (by rw [o2]; grind)
  rw [Ex.u32, o2] at c3
  have c4 : 1 / 2 ≤ fv .f32 (fb .add .f32 1065353216 P) := by grind
  obtain ⟨S, hS⟩ : ∃ S, fb .add .f32 1065353216 P = S := ⟨_, rfl⟩
  rw [hS] at c1 c4 ⊢
  obtain ⟨q1, q2⟩ := Ex.divabs (x := 1) (y := fv .f32 S) (M := 2) (by grind) (by grind) (by grind)
  obtain ⟨d1, _⟩ := re_quo o1 c1 (by grind) (by rw [o2]; grind) (by rw [o2]; grind)
  obtain ⟨e1, _⟩ := re_sub o1 x1 (by rw [o2]; grind) (by rw [o2]; grind)
  refine ⟨⟨a1, a4⟩, ⟨b1, b4⟩, c1, d1, e1, ?_⟩
  split
  · exact (expN_told a1 a4).1
  split
  · exact (expN_told b1 b4).1
  split
  · exact d1
  split
  · exact z1
  · exact e1
end Go.Proofs.YtjmpldcnhjgpkaaGreatDoor.Fl

/-
  Sets of parts: the plain numbers and what is known of them.
-/
namespace Go.Proofs.YtjmpldcnhjgpkaaGreatDoor

def chTo (n : Nat) : Nat → Nat
  | 0 => 1
  | k + 1 => chTo n k * (n - k) / (k + 1)
/-- How many sets of k of n things there are. -/
def ch (n k : Int) : Nat := if k < 0 ∨ n < k then 0 else chTo n.toNat k.toNat
def chI (n k : Int) : Int := (ch n k : Nat)
def accT (lot bad size : Int) : Nat → Nat
  | 0 => 0
  | k + 1 => accT lot bad size k + ch bad k * ch (lot - bad) (size - k)
/-- How many sets of parts have at most 'a' bad ones. -/
def acc (lot bad size a : Int) : Nat := accT lot bad size (a + 1).toNat
def accI (lot bad size a : Int) : Int := (acc lot bad size a : Nat)

def chkB : Bool := (List.range 41).all fun n => (List.range (n + 1)).all fun k => decide (chTo n k ≤ 2 ^ n) && decide (chTo n k * (n - k) ≤ 2 ^ 46) && decide (1 ≤ chTo n k)
theorem chkB_t : chkB = true := by decide +kernel
theorem chTo_bd {n k : Nat} (h : n ≤ 40) (hk : k ≤ n) : chTo n k ≤ 2 ^ n ∧ chTo n k * (n - k) ≤ 2 ^ 46 ∧ 1 ≤ chTo n k := by
  have h1 := chkB_t
  unfold chkB at h1
  have h2 := List.all_eq_true.1 h1 n (List.mem_range.2 (by omega))
  have h3 := List.all_eq_true.1 h2 k (List.mem_range.2 (by omega))
  simp only [Bool.and_eq_true, decide_eq_true_eq] at h3
  exact ⟨h3.1.1, h3.1.2, h3.2⟩
theorem ch_no {n k : Int} (h : k < 0 ∨ n < k) : ch n k = 0 := by unfold ch; rw [if_pos h]
theorem ch_yes {n k : Nat} (h : k ≤ n) : ch n k = chTo n k := by unfold ch; rw [if_neg (by omega)]; simp
theorem ch_le {n : Nat} (h : n ≤ 40) (k : Int) : ch n k ≤ 2 ^ n := by
  by_cases hk : k < 0 ∨ (n : Int) < k
  · rw [ch_no hk]; exact Nat.zero_le _
  · obtain ⟨q, rfl⟩ := Int.eq_ofNat_of_zero_le (show 0 ≤ k by omega)
    rw [ch_yes (by omega)]
    exact (chTo_bd h (by omega)).1
theorem ch_pos {n k : Nat} (h : n ≤ 40) (hk : k ≤ n) : 1 ≤ ch n k := by rw [ch_yes hk]; exact (chTo_bd h hk).2.2
theorem prod_le {lot bad : Nat} (h : lot ≤ 40) (hb : bad ≤ lot) (k j : Int) : ch bad k * ch ((lot : Int) - bad) j ≤ 1099511627776 := by
  have e : ((lot : Int) - bad) = ((lot - bad : Nat) : Int) := by omega
  rw [e]
  have h1 := Nat.mul_le_mul (ch_le (n := bad) (by omega) k) (ch_le (n := lot - bad) (by omega) j)
  rw [← Nat.pow_add, show bad + (lot - bad) = lot by omega] at h1
  exact Nat.le_trans h1 (Nat.le_trans (Nat.pow_le_pow_right (by decide) h) (by decide))
theorem accT_le {lot bad : Nat} (h : lot ≤ 40) (hb : bad ≤ lot) (size : Int) (k : Nat) : accT lot bad size k ≤ k * 1099511627776 := by
  induction k with
  | zero => simp [accT]
  | succ k ih =>
    have := prod_le h hb k (size - k)
    rw [accT]; omega
theorem chI_nn (n k : Int) : 0 ≤ chI n k := by unfold chI; omega
theorem chI_le {n : Int} (h0 : 0 ≤ n) (h : n ≤ 40) (k : Int) : chI n k ≤ 1099511627776 := by
  obtain ⟨q, rfl⟩ := Int.eq_ofNat_of_zero_le h0
  have h1 := ch_le (n := q) (by omega) k
  have h2 : 2 ^ q ≤ 2 ^ 40 := Nat.pow_le_pow_right (by decide) (by omega)
  unfold chI
  omega
theorem prodI {lot bad : Int} (h : lot ≤ 40) (h0 : 0 ≤ bad) (hb : bad ≤ lot) (k j : Int) : 0 ≤ chI bad k * chI (lot - bad) j ∧ chI bad k * chI (lot - bad) j ≤ 1099511627776 := by
  obtain ⟨b, rfl⟩ := Int.eq_ofNat_of_zero_le h0
  obtain ⟨l, rfl⟩ := Int.eq_ofNat_of_zero_le (show 0 ≤ lot by omega)
  have h1 := prod_le (lot := l) (bad := b) (by omega) (by omega) k j
  unfold chI
  rw [← Int.natCast_mul]
  omega
theorem accI_nn (l b s a : Int) : 0 ≤ accI l b s a := by unfold accI; omega
theorem accI_le {lot bad : Int} (h : lot ≤ 40) (h0 : 0 ≤ bad) (hb : bad ≤ lot) (size : Int) {a : Int} (ha : a ≤ 40) : accI lot bad size a ≤ 45079976738816 := by
  obtain ⟨b, rfl⟩ := Int.eq_ofNat_of_zero_le h0
  obtain ⟨l, rfl⟩ := Int.eq_ofNat_of_zero_le (show 0 ≤ lot by omega)
  have h1 := accT_le (lot := l) (bad := b) (by omega) (by omega) size (a + 1).toNat
  unfold accI acc
  omega
end Go.Proofs.YtjmpldcnhjgpkaaGreatDoor

/-
  Sets of parts, plans and lots: the program's walks (the same as XPln's and XPlanT's, without what they import).
-/
namespace Go.Proofs.YtjmpldcnhjgpkaaGreatDoor
open Go.RowKit Mem
set_option linter.unusedVariables false
set_option maxRecDepth 100000

theorem chI_noC {n k : Int} (h : k < 0 ∨ n < k) : chI n k = 0 := by unfold chI; rw [ch_no h]; rfl
theorem ret_i64C {a b : Int} (h : a = b) : Ending.returned (.int .i64 a) = .returned (.int .i64 b) := by rw [h]
set_option maxHeartbeats 1000000 in
theorem i_chooseC {n k : Int} {w : World} (hn : n ≤ 40) : Calls Tryz.prog 57 #[.int .i64 n, .int .i64 k] w fun e w' => e = .returned (.int .i64 (chI n k)) ∧ w' = w := by
  by_cases hk : k < 0
  · have HE := hide (chI_noC (n := n) (.inl hk))
    go_enter Tryz.func57, Tryz.ntmps57
    go_wp2
    go_ret
    exact ⟨by rw [HE.out]; rfl, rfl⟩
  · by_cases hkn : n < k
    · have HE := hide (chI_noC (.inr hkn))
      go_enter Tryz.func57, Tryz.ntmps57
      go_wp2
      go_ret
      exact ⟨by rw [HE.out]; rfl, rfl⟩
    · obtain ⟨K, rfl⟩ := Int.eq_ofNat_of_zero_le (show 0 ≤ k by omega)
      obtain ⟨N, rfl⟩ := Int.eq_ofNat_of_zero_le (show 0 ≤ n by omega)
      have hKN : K ≤ N := by omega
      have hN : N ≤ 40 := by omega
      have HE : Hid (chI N K = (chTo N K : Nat)) := hide (by unfold chI; rw [ch_yes hKN])
      go_enter Tryz.func57, Tryz.ntmps57
      go_wp2
      go_loopw [5, 15] (fun out i wr => ∃ j c : Nat, j ≤ K ∧ i = .int .i64 j ∧ out = .int .i64 (c : Int) ∧ Hid (c = chTo N j) ∧ wr = w) (fun _ i _ => K - (intOf i).toNat)
      case atStart => exact ⟨0, 1, Nat.zero_le _, rfl, rfl, hide rfl, rfl⟩
      case round =>
        obtain ⟨j, c, hj, rfl, rfl, hc, rfl⟩ := hrel
        by_cases hjk : j < K
        · obtain ⟨b1, b2, b3⟩ := chTo_bd hN (k := j) (by omega)
          rw [← hc.out] at b2 b3
          have hP : ((c : Int) * ((N : Int) - (j : Int))) = ((c * (N - j) : Nat) : Int) := by rw [Int.natCast_mul]; congr 1; omega
          have p1 : 0 ≤ (c : Int) * ((N : Int) - (j : Int)) := by rw [hP]; omega
          have p2 : (c : Int) * ((N : Int) - (j : Int)) ≤ 70368744177664 := by rw [hP]; omega
          have HS : Hid ((c : Int) * ((N : Int) - (j : Int)) / ((j : Int) + 1) = ((chTo N (j + 1) : Nat) : Int)) := hide (by rw [hP, chTo, ← hc.out]; rfl)
          clear hP b1 b2
          go_wp2
          go_roundw
          case rel => exact ⟨j + 1, chTo N (j + 1), by omega, by go_num, by rw [HS.out], hide rfl, trivial⟩
          case measure => (simp [intOf]; try omega)
        · obtain rfl : j = K := by omega
          go_wp2
          go_ret
          exact ⟨by rw [HE.out, ← hc.out]; rfl, rfl⟩
def planOkTC (sz ac : Int) : Bool := inB sz 1 40 && inB ac 0 sz
set_option maxHeartbeats 1000000 in
theorem i_ValidPlanTC {a b : Int} {w : World} : Calls Tryz.prog 33 #[.agg #[.int .i64 a, .int .i64 b]] w fun e w' => e = .returned (.bool (planOkTC a b)) ∧ Below w.heap.size w w' := by
  cases h1 : inB a 1 40 with
  | false =>
    go_enter Tryz.func33, Tryz.ntmps33
    go_wp2_with (go_at_call 54; refine (i_within _ _ _ _).mono ?_; rintro e w' ⟨rfl, rfl⟩)
    go_ret
    exact ⟨ret_bool (by unfold planOkTC; rw [h1]; rfl), (by repeat (first | exact Below.refl _ _ | exact below_drewN (by assumption) _ | refine below_drewN ?_ _ | refine Below.alloc ?_ (by first | (simp; done) | (simp; omega)) _ | assumption))⟩
  | true =>
    go_enter Tryz.func33, Tryz.ntmps33
    go_wp2_with (go_at_call 54; refine (i_within _ _ _ _).mono ?_; rintro e w' ⟨rfl, rfl⟩)
    go_ret
    exact ⟨ret_bool (by unfold planOkTC; rw [h1]; rfl), (by repeat (first | exact Below.refl _ _ | exact below_drewN (by assumption) _ | refine below_drewN ?_ _ | refine Below.alloc ?_ (by first | (simp; done) | (simp; omega)) _ | assumption))⟩
def lotOkC (lot sz ac : Int) : Bool := inB lot 1 40 && planOkTC sz ac && decide (sz ≤ lot)
theorem lotOk_rngC {lot sz ac : Int} (h : lotOkC lot sz ac = true) : 1 ≤ lot ∧ lot ≤ 40 ∧ 1 ≤ sz ∧ sz ≤ lot ∧ 0 ≤ ac ∧ ac ≤ sz := by
  unfold lotOkC planOkTC inB at h
  simp at h; omega
set_option maxHeartbeats 1000000 in
theorem i_isLotC {lot sz ac : Int} {w : World} (h : lotOkC lot sz ac = true) : Calls Tryz.prog 53 #[.int .i64 lot, .agg #[.int .i64 sz, .int .i64 ac]] w fun e w' => e = .returned (.bool true) ∧ Below w.heap.size w w' := by
  obtain ⟨r1, r2, r3, r4, r5, r6⟩ := lotOk_rngC h
  have h1 : inB lot 1 40 = true := by unfold inB; simp; omega
  have h2 : planOkTC sz ac = true := by unfold planOkTC inB; simp; omega
  go_enter Tryz.func53, Tryz.ntmps53
  go_wp2_with fail
  refine (i_within _ _ _ _).mono ?_
  rintro e w1 ⟨rfl, rfl⟩
  rw [h1]
  go_wp2_with fail
  refine i_ValidPlanTC.mono ?_
  rintro e w2 ⟨rfl, hb⟩
  rw [h2]
  have blk := (Blk.new w 32 #[.int .i64 sz, .int .i64 ac]).below hb (by simp)
  have bel := ((Below.refl w.heap.size w).alloc (Nat.le_refl _) (.cells #[.int .i64 sz, .int .i64 ac] 32)).trans (hb.mono (by simp))
  have c0 := blk.cell 0
  have c1 := blk.cell 1
  go_wp2
  go_ret
  exact ⟨rfl, bel⟩
end Go.Proofs.YtjmpldcnhjgpkaaGreatDoor
