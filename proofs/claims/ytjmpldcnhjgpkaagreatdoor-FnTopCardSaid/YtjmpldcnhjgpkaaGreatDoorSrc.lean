/-
  Contracts of TurnMean: the reference's.
-/
import Derived.Test.YtjmpldcnhjgpkaaGreatDoorChP
import Derived.Test.YtjmpldcnhjgpkaaGreatDoorSeqB
import Derived.RegionTactic
import Derived.BigRegion
import Derived.Laws.BitsAllLaws
import Derived.IntWalk
namespace Go.Proofs.YtjmpldcnhjgpkaaGreatDoor
open Go.RowKit Fl Mem
set_option linter.unusedVariables false

/-- The numbers before place k whose places have the remainder r. -/
def pickTo (xs : List Nat) (p r k : Nat) : List Nat := ((List.range k).filter fun i => i % p == r).map fun i => xs.getD i 0
theorem pickTo_zero (xs : List Nat) (p r : Nat) : pickTo xs p r 0 = [] := rfl
theorem pickTo_yes {xs : List Nat} {p r k x : Nat} (hx : xs[k]? = some x) (h : k % p = r) : pickTo xs p r (k + 1) = pickTo xs p r k ++ [x] := by
  unfold pickTo
  rw [List.range_succ, List.filter_append, List.map_append]
  simp [h, hx]
theorem pickTo_no {xs : List Nat} {p r k : Nat} (h : k % p ≠ r) : pickTo xs p r (k + 1) = pickTo xs p r k := by
  unfold pickTo
  rw [List.range_succ, List.filter_append, List.map_append]
  simp [h]
/-- Between two places of one remainder there is none. -/
theorem pickTo_same {xs : List Nat} {p r i : Nat} (hp : 0 < p) (hi : i % p = r) : ∀ j, j < p → pickTo xs p r (i + 1 + j) = pickTo xs p r (i + 1) := by
  intro j
  induction j with
  | zero => intro _; rfl
  | succ j ih =>
    intro hj
    rw [← Nat.add_assoc, pickTo_no, ih (by omega)]
    intro h
    have h1 : (i + 1 + j) % p = (i % p + (1 + j)) % p := by rw [Nat.add_assoc, Nat.add_mod, Nat.mod_eq_of_lt (show 1 + j < p by omega)]
    rw [h1, hi] at h
    have hr : r < p := by rw [← hi]; exact Nat.mod_lt _ hp
    rcases Nat.lt_or_ge (r + (1 + j)) p with h2 | h2
    · rw [Nat.mod_eq_of_lt h2] at h; omega
    · rw [Nat.mod_eq_sub_mod h2, Nat.mod_eq_of_lt (by omega)] at h; omega
theorem pickTo_end {xs : List Nat} {p r n i : Nat} (hp : 0 < p) (hi : i % p = r) (h1 : n ≤ i) (h2 : i < n + p) (h3 : p ≤ i) : pickTo xs p r i = pickTo xs p r n := by
  have hi' : (i - p) % p = r := by rw [← hi, ← Nat.mod_eq_sub_mod h3]
  have e1 := pickTo_same (xs := xs) hp hi' (p - 1) (by omega)
  have e2 := pickTo_same (xs := xs) hp hi' (n - (i - p) - 1) (by omega)
  rw [show i - p + 1 + (p - 1) = i by omega] at e1
  rw [show i - p + 1 + (n - (i - p) - 1) = n by omega] at e2
  rw [e1, e2]
theorem pickTo_next {xs : List Nat} {p r i x : Nat} (hp : 0 < p) (hi : i % p = r) (hx : xs[i]? = some x) : pickTo xs p r (i + p) = pickTo xs p r i ++ [x] := by
  have e1 := pickTo_same (xs := xs) hp hi (p - 1) (by omega)
  rw [show i + 1 + (p - 1) = i + p by omega] at e1
  rw [e1, pickTo_yes hx hi]
theorem pickTo_start {xs : List Nat} {p r : Nat} : ∀ k, k ≤ r → r < p → pickTo xs p r k = [] := by
  intro k
  induction k with
  | zero => intro _ _; rfl
  | succ k ih =>
    intro h1 h2
    rw [pickTo_no (by rw [Nat.mod_eq_of_lt (by omega)]; omega), ih (by omega) h2]
theorem pickTo_len (xs : List Nat) (p r k : Nat) : (pickTo xs p r k).length ≤ k := by
  unfold pickTo
  rw [List.length_map]
  have := List.length_filter_le (fun i => i % p == r) (List.range k)
  simpa using this

/-- What TurnMean returns. -/
def turnL (xs : List Nat) (p : Nat) : List Nat := (List.range p).map fun r => fmean (pickTo xs p r xs.length)
theorem turnL_take {xs : List Nat} {p r : Nat} (h : r < p) : (turnL xs p).take (r + 1) = (turnL xs p).take r ++ [fmean (pickTo xs p r xs.length)] :=
  take_eq (by unfold turnL; simp [h])
theorem turnL_len (xs : List Nat) (p : Nat) : (turnL xs p).length = p := by simp [turnL]
def turnOk (xs : List Nat) (p : Int) : Bool := isSig xs && inB p 1 (xs.length : Int) && (turnL xs p.toNat).all (fin .f32)
def turnR (xs : List Nat) (p : Int) : List Nat := if turnOk xs p = true then turnL xs p.toNat else []
theorem turnR_no {xs : List Nat} {p : Int} (h : turnOk xs p = false) : turnR xs p = [] := by unfold turnR; rw [h]; rfl
theorem turnR_le (xs : List Nat) (p : Int) : (turnR xs p).length ≤ 1000 := by
  unfold turnR
  split
  · rename_i h
    unfold turnOk at h
    simp only [Bool.and_eq_true] at h
    have h1 := (isSig_len h.1.1).2
    have h2 := inB_iff.1 h.1.2
    rw [turnL_len]
    omega
  · simp
end Go.Proofs.YtjmpldcnhjgpkaaGreatDoor
namespace Go.Proofs.YtjmpldcnhjgpkaaGreatDoor
open Go.RowKit Fl Mem
set_option linter.unusedVariables false
set_option maxRecDepth 100000


end Go.Proofs.YtjmpldcnhjgpkaaGreatDoor
namespace Go.Proofs.YtjmpldcnhjgpkaaGreatDoor
open Go.RowKit Fl Mem
set_option linter.unusedVariables false
set_option maxRecDepth 100000

/-- The sums and the counts behind k numbers. -/
def sumsAt (xs : List Nat) (p k : Nat) : List Nat := (List.range p).map fun r => fsum (pickTo xs p r k)
def countsAt (xs : List Nat) (p k : Nat) : List Nat := (List.range p).map fun r => (pickTo xs p r k).length

theorem sumsAt_len (xs : List Nat) (p k : Nat) : (sumsAt xs p k).length = p := by simp [sumsAt]
theorem sumsAt_at {xs : List Nat} {p k r : Nat} (h : r < p) : (sumsAt xs p k)[r]? = some (fsum (pickTo xs p r k)) := by simp [sumsAt, h]
theorem countsAt_at {xs : List Nat} {p k r : Nat} (h : r < p) : (countsAt xs p k)[r]? = some (pickTo xs p r k).length := by simp [countsAt, h]
theorem sumsAt_succ {xs : List Nat} {p k x : Nat} (hp : 0 < p) (hx : xs[k]? = some x) : sumsAt xs p (k + 1) = (sumsAt xs p k).set (k % p) (fb .add .f32 (fsum (pickTo xs p (k % p) k)) x) := by
  have hr := Nat.mod_lt k hp
  apply List.ext_getElem?
  intro i
  rcases Nat.lt_or_ge i p with hi | hi
  · rw [sumsAt_at hi, List.getElem?_set, sumsAt_at hi]
    by_cases he : k % p = i
    · rw [if_pos he, if_pos (by rw [sumsAt_len]; omega), he, pickTo_yes hx he, fsum_snoc]
    · rw [if_neg he, pickTo_no he]
  · rw [List.getElem?_eq_none (by rw [sumsAt_len]; omega), List.getElem?_eq_none (by rw [List.length_set, sumsAt_len]; omega)]
theorem countsAt_succ {xs : List Nat} {p k x : Nat} (hp : 0 < p) (hx : xs[k]? = some x) : countsAt xs p (k + 1) = (countsAt xs p k).set (k % p) ((pickTo xs p (k % p) k).length + 1) := by
  have hr := Nat.mod_lt k hp
  have hl : ∀ k, (countsAt xs p k).length = p := by intro k; simp [countsAt]
  apply List.ext_getElem?
  intro i
  rcases Nat.lt_or_ge i p with hi | hi
  · rw [countsAt_at hi, List.getElem?_set, countsAt_at hi]
    by_cases he : k % p = i
    · rw [if_pos he, if_pos (by rw [hl]; omega), he, pickTo_yes hx he, List.length_append]; rfl
    · rw [if_neg he, pickTo_no he]
  · rw [List.getElem?_eq_none (by rw [hl]; omega), List.getElem?_eq_none (by rw [List.length_set, hl]; omega)]
theorem at_cn {zs ys : List Nat} {i z y : Nat} (h : zs.map (cn .f32) = ys) (hz : zs[i]? = some z) (hy : ys[i]? = some y) : cn .f32 z = y := by
  rw [← h, List.getElem?_map, hz] at hy
  injection hy
theorem blk_setF {α : Type} (F : α → Value) {w : World} {g : Nat} {t : TypeId} {xs : List α} {k : Nat} {y : α} (h : Blk w g t (xs.map F).toArray) : Blk (w.setCell ⟨g, k, none⟩ (F y)) g t ((xs.set k y).map F).toArray := by
  have := h.set_ k (F y)
  rwa [show ((xs.map F).toArray.setIfInBounds k (F y)) = ((xs.set k y).map F).toArray by simp [List.map_set]] at this

end Go.Proofs.YtjmpldcnhjgpkaaGreatDoor

/-
  Contracts of the source of choices: a number below some number, lists of small numbers.
-/
namespace Go.Proofs.YtjmpldcnhjgpkaaGreatDoor
open Go.RowKit Fl Mem
set_option linter.unusedVariables false
set_option maxRecDepth 100000

/-- The source in block g reads the bytes of a slice; q are read. -/
def SrcAt (w : World) (g : Nat) (A : Option Addr) (n c q : Nat) (s : Int) : Prop := Blk w g 117 #[.slice A n c, .int .i64 (q : Int), .int .u64 s]

theorem s_l00From {A : Option Addr} {n c : Nat} {w : World} : Calls Tryz.prog 27 #[.slice A n c] w fun e w' => e = .returned (.pointer (some ⟨w.heap.size, 0, none⟩)) ∧ w' = w.alloc (.cells #[.slice A n c, .int .i64 0, .int .u64 0] 117) := by
  go_enter Tryz.func27, Tryz.ntmps27
  go_wp2
  go_ret
  exact ⟨rfl, rfl⟩

theorem src_byte {w : World} {B n k : Nat} {A : Option Addr} {xs : List Int} (h : Reads w B 1 A n (xs.map (Value.int .u8))) (hx : ∀ a ∈ xs, (Lit.int .u8 a).wf = true) (hk : k < n) :
    ∃ ad x, A = some ad ∧ ad.block < B ∧ w.cell? (ad.add k) = some (.int .u8 x) ∧ 0 ≤ x ∧ x ≤ 255 := by
  obtain ⟨ad, x, e, hb, hx2, hc⟩ := h.map_at hk
  refine ⟨ad, x, e, hb, hc, ?_⟩
  have := hx x (List.mem_of_getElem? hx2)
  have h1 : IntKind.min .u8 = 0 := by decide
  have h2 : IntKind.max .u8 = 255 := by decide
  simp only [Lit.wf, Bool.and_eq_true, decide_eq_true_eq, h1, h2] at this
  exact this

theorem u64_range (x : Int) : 0 ≤ IntKind.u64.wrap x ∧ IntKind.u64.wrap x < 18446744073709551616 := by
  have h : IntKind.u64.wrap x = x % 18446744073709551616 := rfl
  rw [h]
  omega
theorem low_byte (x : Int) (h0 : 0 ≤ x) (h1 : x < 18446744073709551616) : 0 ≤ wrap64 (bits .and .u64 x 255) ∧ wrap64 (bits .and .u64 x 255) ≤ 255 := by
  rw [u64_and x 255 h0 h1 (by omega) (by omega)]
  have h : x.toNat &&& (255 : Int).toNat ≤ 255 := Nat.and_le_right
  rw [IntWalk.wrap64_in _ (by omega)]
  omega

set_option maxHeartbeats 1000000 in
theorem s_next {A : Option Addr} {n c g q B : Nat} {s : Int} {xs : List Int} {w : World} (hb : SrcAt w g A n c q s) (h : Reads w B 1 A n (xs.map (Value.int .u8))) (hB : B ≤ g) (hx : ∀ a ∈ xs, (Lit.int .u8 a).wf = true)
    (hn : n ≤ 1048576) (hq : q ≤ 1048576) :
    Calls Tryz.prog 100 #[.pointer (some ⟨g, 0, none⟩)] w fun e w' => ∃ v s' : Int, e = .returned (.int .i64 v) ∧ 0 ≤ v ∧ v ≤ 255 ∧ SrcAt w' g A n c (q + 1) s' ∧ w.grownBy w' (some g) := by
  have c0 : w.cell? ⟨g, 0, none⟩ = some (.slice A n c) := hb.cell 0
  have c1 : w.cell? ⟨g, 1, none⟩ = some (.int .i64 (q : Int)) := hb.cell 1
  have c2 : w.cell? ⟨g, 2, none⟩ = some (.int .u64 s) := hb.cell 2
  have f1 : w.frozen? ⟨g, 1, none⟩ = false := hb.frozen 1
  have f2 : w.frozen? ⟨g, 2, none⟩ = false := hb.frozen 2
  have Hb := hide hb
  clear hb
  by_cases hlt : q < n
  · obtain ⟨ad, x, rfl, hab, hc, hx0, hx1⟩ := src_byte h hx hlt
    have h1 : (0 : Int) ≤ (q : Int) := by omega
    have h2 : (q : Int) < (n : Int) := by omega
    go_enter Tryz.func100, Tryz.ntmps100
    go_wp2
    go_quiet (fail)
    go_wp2
    go_quiet (fail)
    go_wp2
    go_quiet (fail)
    go_wp2
    go_ret
    refine ⟨_, IntKind.u64.wrap (IntKind.u64.wrap (IntKind.u64.wrap (s * 6364136223846793005) + x) + 1442695040888963407), rfl, hx0, hx1, ?_, ?_⟩
    · exact ((((Hb.out.drewN _).set_ 1 _).set_ 2 _).drewN _)
    · exact only_drewN (only_setCell (g := g) (only_setCell (g := g) (only_drewN (World.grownBy.refl _ _) _) (.inl rfl) _) (.inl rfl) _) _
  · have h2 : ¬ (q : Int) < (n : Int) := by omega
    go_enter Tryz.func100, Tryz.ntmps100
    go_wp2
    go_quiet (fail)
    go_wp2
    go_quiet (fail)
    go_wp2
    obtain ⟨v1, v2⟩ := low_byte (IntKind.u64.wrap (IntKind.u64.wrap (IntKind.u64.wrap (s * 6364136223846793005)) + 1442695040888963407) / 1099511627776) (Int.ediv_nonneg (u64_range _).1 (by omega)) (by have := u64_range (IntKind.u64.wrap (IntKind.u64.wrap (s * 6364136223846793005)) + 1442695040888963407); omega)
    go_ret
    refine ⟨_, IntKind.u64.wrap (IntKind.u64.wrap (IntKind.u64.wrap (s * 6364136223846793005)) + 1442695040888963407), rfl, v1, v2, ?_, ?_⟩
    · exact ((((Hb.out.drewN _).set_ 1 _).set_ 2 _).drewN _)
    · exact only_drewN (only_setCell (g := g) (only_setCell (g := g) (only_drewN (World.grownBy.refl _ _) _) (.inl rfl) _) (.inl rfl) _) _

theorem only_trans {a b c : World} {row : Option Nat} (h : a.grownBy b row) (k : b.grownBy c row) : a.grownBy c row :=
  ⟨k.os.trans h.os, k.tape.trans h.tape, k.output.trans h.output, Nat.le_trans h.size k.size, fun i hi hne => (k.block i (Nat.lt_of_lt_of_le hi h.size) hne).trans (h.block i hi hne)⟩
theorem only_below {a b c : World} {row : Option Nat} {B : Nat} (h : a.grownBy b row) (k : Below B b c) (hB : a.heap.size ≤ B) : a.grownBy c row :=
  ⟨k.os.trans h.os, k.tape.trans h.tape, k.output.trans h.output, Nat.le_trans h.size k.size, fun i hi hne => (k.block i (by omega)).trans (h.block i hi hne)⟩
theorem snoc_fl {w : World} {b : Nat} {t : TypeId} {v : Value} {k z : Nat} {zs : List Nat} (h : w.ownsRow b t 1 v k (fl .f32 zs ++ [.float .f32 z])) : w.ownsRow b t 1 v k (fl .f32 (zs ++ [z])) := by
  rw [fl, List.map_append]; exact h
theorem below_new {w c : World} {o : Obj} (h : (w.alloc o).grownBy c (some w.heap.size)) : Below w.heap.size w c :=
  ((Below.refl _ _).alloc (Nat.le_refl _) o).grown h (by simp) (fun k hk => by injection hk with hk; omega)
theorem SrcAt.apart {w : World} {g : Nat} {A : Option Addr} {n c q : Nat} {s : Int} (h : SrcAt w g A n c q s) : g < w.heap.size := h.lt
set_option maxHeartbeats 1000000 in
theorem s_pick {A : Option Addr} {n c g q B : Nat} {s m : Int} {xs : List Int} {w : World} (hb : SrcAt w g A n c q s) (h : Reads w B 1 A n (xs.map (Value.int .u8))) (hB : B ≤ g) (hx : ∀ a ∈ xs, (Lit.int .u8 a).wf = true)
    (hn : n ≤ 1048576) (hq : q ≤ 1048576) (hm : 1 < m) (hm2 : m ≤ 200) :
    Calls Tryz.prog 65 #[.pointer (some ⟨g, 0, none⟩), .int .i64 m] w fun e w' => ∃ v s' : Int, e = .returned (.int .i64 v) ∧ 0 ≤ v ∧ v < m ∧ SrcAt w' g A n c (q + 1) s' ∧ w.grownBy w' (some g) := by
  go_enter Tryz.func65, Tryz.ntmps65
  go_wp2_with (go_at_call 100; refine (s_next hb h hB hx hn hq).mono ?_; rintro e w' ⟨v, s', rfl, v1, v2, hb', hg⟩)
  go_ret
  refine ⟨_, s', rfl, ?_, ?_, hb', hg⟩
  · exact Int.emod_nonneg _ (by omega)
  · exact Int.emod_lt_of_pos _ (by omega)

/-- The small numbers: quarters from -4 to 4. -/
def qF (k : Nat) : Nat := fb .quo .f32 (floatOfInt .f32 ((k : Int) - 16)) 1082130432
theorem qF_num : ∀ k : Nat, k < 33 → isNan .f32 (qF k) = false ∧ fin .f32 (qF k) = true := by decide +kernel
theorem flR_num {op : BinOp} {k : FloatKind} {x y : Nat} (h : isNan k (fb op k x y) = false) (w : World) : flR op k x y w = fb op k x y := by
  have h1 := cn_flR op k x y w
  rw [← cn_num h] at h1
  exact (eq_of_cn h1.symm h).symm

theorem flN_num {op : BinOp} {k : FloatKind} {x y : Nat} (h : isNan k (fb op k x y) = false) : flN op k x y = 0 := by
  unfold flN
  cases hf : floatBits op k x y with
  | some r => rfl
  | none =>
    unfold fb at h
    rw [hf, Option.getD_none, cn_nan (isNan_nanOf k), isNan_nanOf] at h
    cases h
theorem own_far {w : World} {base g : Nat} {e : TypeId} {size n : Nat} {v : Value} {xs : List Value} (h : w.ownsRow base e size v n xs) (hg : g < base) : v.ownBlock = none ∨ v.ownBlock ≠ some g := by
  cases hv : v.ownBlock with
  | none => exact .inl rfl
  | some k =>
    refine .inr (fun he => ?_)
    injection he with he
    have := (h.lt k hv).1
    omega

/-- Each number of a list is one of m told ones. -/
def Of (F : Nat → Nat) (m : Nat) (zs : List Nat) : Prop := ∀ z ∈ zs, ∃ k, k < m ∧ z = F k

end Go.Proofs.YtjmpldcnhjgpkaaGreatDoor
