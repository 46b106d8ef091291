/-
  ReadChain: the program's walk.
-/
import Derived.Test.YtnpccnhamohnkaaGreatDoorHeadI
import Derived.Test.YtnpccnhamohnkaaGreatDoorValidS
namespace Go.Proofs.YtnpccnhamohnkaaGreatDoor
open Go.RowKit Mem Fl Go.Shelf
set_option linter.unusedVariables false
set_option maxRecDepth 100000

/-- The chain with a text. -/
def chainV (t : ByteArray) : Option (Int × List Nat) := (headV t).bind fun p => if chainOk p.1 p.2 = true then some p else none
theorem chainV_none {t : ByteArray} (h : headV t = none) : chainV t = none := by unfold chainV; rw [h]; rfl
theorem chainV_some {t : ByteArray} {n : Int} {xs : List Nat} (h : headV t = some (n, xs)) : chainV t = if chainOk n xs = true then some (n, xs) else none := by
  unfold chainV; rw [h]; rfl
theorem allN_len : ∀ (l : List ByteArray) (xs : List Nat), allN l = some xs → xs.length = l.length := by
  intro l
  induction l with
  | nil => intro xs h; simp only [allN, Option.some.injEq] at h; subst h; rfl
  | cons a l ih =>
    intro xs h
    simp only [allN] at h
    cases ha : readN a with
    | none => rw [ha] at h; cases h
    | some x =>
      rw [ha] at h
      cases hb : allN l with
      | none => rw [hb] at h; cases h
      | some ys => rw [hb] at h; simp at h; subst h; simp [ih ys hb]
theorem numsV_max {s : ByteArray} {xs : List Nat} (h : numsV s = some xs) : xs.length ≤ 256 := by
  unfold numsV at h
  split at h
  · cases h; simp
  · split at h
    · rw [allN_len _ _ h]; assumption
    · cases h
theorem headV_max {t : ByteArray} {n : Int} {xs : List Nat} (h : headV t = some (n, xs)) : xs.length ≤ 256 := by
  unfold headV at h
  split at h
  · next A B e =>
    cases ha : valV A with
    | none => rw [ha] at h; cases h
    | some m =>
      cases hb : numsV B with
      | none => rw [ha, hb] at h; cases h
      | some ys => rw [ha, hb] at h; simp at h; rw [← h.2]; exact numsV_max hb
  · cases h
def chN (o : Option (Int × List Nat)) : Int := (o.map (·.1)).getD 0
def chL (o : Option (Int × List Nat)) : List Nat := (o.map (·.2)).getD []
theorem chL_max (t : ByteArray) : (chL (chainV t)).length ≤ 256 := by
  cases h : headV t with
  | none => rw [chainV_none h]; simp [chL]
  | some p =>
    obtain ⟨n, xs⟩ := p
    rw [chainV_some h]
    split
    · exact headV_max h
    · simp [chL]
/-- What a chain that is read looks like. -/
def CRd (base : Nat) (o : Option (Int × List Nat)) (e : Ending) (w' : World) : Prop := ∃ (n : Int) (A : Option Addr) (ln c : Nat), e = .returned (.tuple #[.agg #[.int .i64 n, .slice A ln c], .bool o.isSome]) ∧ w'.ownsRow base 37 1 (.slice A ln c) ln (fl .f32 (chL o)) ∧ n = chN o ∧ ln = (chL o).length
theorem CRd.no {base : Nat} {o : Option (Int × List Nat)} {w' : World} (h : o = none) : CRd base o (.returned (.tuple #[.agg #[.int .i64 0, .slice none 0 0], .bool false])) w' := by
  subst h; exact ⟨_, _, _, _, rfl, own_nil _ _ _ _, rfl, rfl⟩
theorem CRd.yes {base : Nat} {o : Option (Int × List Nat)} {n : Int} {A : Option Addr} {c : Nat} {xs : List Nat} {w' : World} (h : o = some (n, xs)) (ho : w'.ownsRow base 37 1 (.slice A xs.length c) xs.length (fl .f32 xs)) : CRd base o (.returned (.tuple #[.agg #[.int .i64 n, .slice A xs.length c], .bool true])) w' := by
  subst h; exact ⟨_, _, _, _, rfl, ho, rfl, rfl⟩
abbrev chA (n : Int) (v : Value) : Array Value := #[.int .i64 n, v]
abbrev ch0 : Array Value := #[.int .i64 0, .slice none 0 0]
set_option maxHeartbeats 1000000 in
theorem i_ReadChain_none {t : ByteArray} {bm bs : Int} {w : World} (hs : t.size ≤ 1048576) (hm : w.cell? ⟨renCutF.g 1, 0, none⟩ = some (.int .i64 bm)) (hm2 : w.cell? ⟨renSplit.g 1, 0, none⟩ = some (.int .i64 bs)) (he : Errs w)
    (htab : Lib.TabIs Tryz.prog w "internal/strconv.uint64pow10" .u64 Lib.pow10Tab) (ht : w.cell? ⟨8, 15, none⟩ = some (.int .u8 4)) (h : headV t = none) :
    Calls Tryz.prog 9 #[.string t] w fun e w' => CRd w.heap.size (chainV t) e w' ∧ Below w.heap.size w w' := by
  have HR := hide (chainV_none h)
  have b0 : Below w.heap.size w (w.alloc (.cells ch0 24)) := (Below.refl _ _).alloc (Nat.le_refl _) _
  have HH := hide (i_readHeaded (w := w.alloc (.cells ch0 24)) hs ((b0.cell (p := ⟨renCutF.g 1, 0, none⟩) (Go.Clock.block_lt hm)).trans hm) ((b0.cell (p := ⟨renSplit.g 1, 0, none⟩) (Go.Clock.block_lt hm2)).trans hm2) (he.below b0) (pow_kept htab b0) ((b0.cell (p := ⟨8, 15, none⟩) (Go.Clock.block_lt ht)).trans ht))
  rw [h] at HH
  clear b0 hm hm2 he htab ht
  go_enter Tryz.func9, Tryz.ntmps9
  go_wp2_with fail
  refine HH.out.mono ?_
  rintro e w1 ⟨⟨n, v, rfl, vA, vn, vc, rfl⟩, hb⟩
  simp only [Option.isSome_none]
  have blkB := (Blk.new w 24 ch0).below hb (by simp)
  have bel1 : Below w.heap.size w w1 := ((Below.refl _ _).alloc (Nat.le_refl _) _).trans (hb.mono (by simp))
  replace blkB := blkB.alloc (.cells (chA n (.slice vA vn vc)) 24)
  replace bel1 := bel1.alloc bel1.size (.cells (chA n (.slice vA vn vc)) 24)
  have d0 := blkB.cell 0
  have d1 := blkB.cell 1
  have f0 := blkB.frozen 0
  have f1 := blkB.frozen 1
  clear hb HH
  go_wp2
  refine bodyPost_ret (results_row_tmp (P := Tryz.prog) rfl _ _ w.heap.size 24 ch0 (0, 0) _ rfl ((blkB.set_ 0 _).set_ 1 _) Tryz.underlying24 rfl (by kernel_rfl)) rfl ?_
  exact ⟨CRd.no HR.out, (bel1.setCell (Nat.le_refl _) _).setCell (Nat.le_refl _) _⟩
set_option maxHeartbeats 1000000 in
theorem i_ReadChain_some {t : ByteArray} {n : Int} {xs : List Nat} {bm bs : Int} {w : World} (hs : t.size ≤ 1048576) (hm : w.cell? ⟨renCutF.g 1, 0, none⟩ = some (.int .i64 bm)) (hm2 : w.cell? ⟨renSplit.g 1, 0, none⟩ = some (.int .i64 bs)) (he : Errs w)
    (htab : Lib.TabIs Tryz.prog w "internal/strconv.uint64pow10" .u64 Lib.pow10Tab) (ht : w.cell? ⟨8, 15, none⟩ = some (.int .u8 4)) (h : headV t = some (n, xs)) :
    Calls Tryz.prog 9 #[.string t] w fun e w' => CRd w.heap.size (chainV t) e w' ∧ Below w.heap.size w w' := by
  have HR := hide (chainV_some h)
  have hmx := headV_max h
  have b0 : Below w.heap.size w (w.alloc (.cells ch0 24)) := (Below.refl _ _).alloc (Nat.le_refl _) _
  have HH := hide (i_readHeaded (w := w.alloc (.cells ch0 24)) hs ((b0.cell (p := ⟨renCutF.g 1, 0, none⟩) (Go.Clock.block_lt hm)).trans hm) ((b0.cell (p := ⟨renSplit.g 1, 0, none⟩) (Go.Clock.block_lt hm2)).trans hm2) (he.below b0) (pow_kept htab b0) ((b0.cell (p := ⟨8, 15, none⟩) (Go.Clock.block_lt ht)).trans ht))
  rw [h] at HH
  clear b0 hm hm2 he htab ht
  go_enter Tryz.func9, Tryz.ntmps9
  go_wp2_with fail
  refine HH.out.mono ?_
  rintro e w1 ⟨⟨n', v, rfl, rfl, ho, _⟩, hb⟩
  simp only [Option.isSome_some]
  obtain ⟨A, c, rfl⟩ := own_shape ho
  have blkB := (Blk.new w 24 ch0).below hb (by simp)
  have bel1 : Below w.heap.size w w1 := ((Below.refl _ _).alloc (Nat.le_refl _) _).trans (hb.mono (by simp))
  have hr := (Reads.of_own ho).alloc (Nat.le_refl _) (.cells (chA n' (.slice A xs.length c)) 24)
  replace blkB := blkB.alloc (.cells (chA n' (.slice A xs.length c)) 24)
  have blkC := Blk.new w1 24 (chA n' (.slice A xs.length c))
  replace bel1 := bel1.alloc bel1.size (.cells (chA n' (.slice A xs.length c)) 24)
  have ho1 := ho.alloc (.cells (chA n' (.slice A xs.length c)) 24)
  clear hb HH ho
  go_wp2_with fail
  refine (i_ValidChain hr (by simp) (by omega)).mono ?_
  rintro e w2 ⟨rfl, hb2⟩
  have hwl := bel1.size
  replace bel1 := bel1.trans (hb2.mono bel1.size)
  replace ho1 := own_below ho1 hb2
  replace blkC := blkC.below hb2 blkC.lt
  have blkB := blkB.below hb2 blkB.lt
  have e0 := blkC.cell 0
  have e1 := blkC.cell 1
  have d0 := blkB.cell 0
  have d1 := blkB.cell 1
  have f0 := blkB.frozen 0
  have f1 := blkB.frozen 1
  clear hb2 hr blkC
  cases hc : chainOk n' xs with
  | false =>
    rw [hc] at HR
    go_wp2
    refine bodyPost_ret (results_row_tmp (P := Tryz.prog) rfl _ _ w.heap.size 24 ch0 (0, 0) _ rfl ((blkB.set_ 0 _).set_ 1 _) Tryz.underlying24 rfl (by kernel_rfl)) rfl ?_
    exact ⟨CRd.no HR.out, (bel1.setCell (Nat.le_refl _) _).setCell (Nat.le_refl _) _⟩
  | true =>
    rw [hc] at HR
    go_wp2
    refine bodyPost_ret (results_row_tmp (P := Tryz.prog) rfl _ _ w.heap.size 24 (chA n' (.slice A xs.length c)) (0, 0) _ rfl ((blkB.set_ 0 _).set_ 1 _) Tryz.underlying24 rfl (by kernel_rfl)) rfl ?_
    exact ⟨CRd.yes HR.out (own_base (ownsRow_setCell_below (ownsRow_setCell_below ho1 (a := ⟨w.heap.size, 0, none⟩) (by simp) _) (a := ⟨w.heap.size, 1, none⟩) (by simp) _) (by simp)), (bel1.setCell (Nat.le_refl _) _).setCell (Nat.le_refl _) _⟩
end Go.Proofs.YtnpccnhamohnkaaGreatDoor
