/-
  The chances of a sequence test: the plain law.
-/
import Derived.Test.YteabfkgbakoljaaSeqI
import Derived.Test.YteabfkgbakoljaaMean
import Derived.Test.YteabfkgbakoljaaHelq
import Derived.Test.YteabfkgbakoljaaConv
import Derived.RegionTactic
import Derived.BigRegion
import Derived.Deep.RegionWith
import Derived.Test.YteabfkgbakoljaaPhZ
import Derived.Laws.ComplexArith
namespace Go.Proofs.Yteabfkgbakoljaa
open Go.RowKit Mem Fl
set_option linter.unusedVariables false
set_option maxRecDepth 100000

def chA (sh : Nat) (c : List Nat) (j : Nat) (t : List Nat) : List Nat := t.set j (fb .add .f32 (t.getD j 0) (fb .mul .f32 (c.getD j 0) (fb .sub .f32 1065353216 sh)))
def chB (sh : Nat) (c : List Nat) (j : Nat) (t : List Nat) : List Nat := t.set (j + 1) (fb .add .f32 (t.getD (j + 1) 0) (fb .mul .f32 (c.getD j 0) sh))
def chNext (sh : Nat) (c : List Nat) : Nat → List Nat
  | 0 => List.replicate (c.length + 1) 0
  | j + 1 => chB sh c j (chA sh c j (chNext sh c j))
def chSum (up dn : Nat) (N : Int) (k : Nat) : Nat := fb .add .f32 (fb .mul .f32 (floatOfInt .f32 (k : Int)) up) (fb .mul .f32 (floatOfInt .f32 (N - (k : Int))) dn)
def eIx (e : Int) : Nat := if e = -1 then 0 else 1
def chPut (e : Int) (k : Nat) (p : List Nat × List Nat) : List Nat × List Nat := if e = 0 then p else (p.1.set k 0, p.2.set (eIx e) (fb .add .f32 (p.2.getD (eIx e) 0) (p.1.getD k 0)))
def chEnd (A B up dn : Nat) (N : Int) (nx o : List Nat) : Nat → List Nat × List Nat
  | 0 => (nx, o)
  | k + 1 => chPut (seqEnd A B (chSum up dn N k)) k (chEnd A B up dn N nx o k)
def chTot (c o : List Nat) : List Nat := o.set 2 (fb .add .f32 (o.getD 2 0) (fsum c))
def chSt (A B up dn sh : Nat) : Nat → List Nat × List Nat
  | 0 => ([1065353216], [0, 0, 0])
  | n + 1 => chEnd A B up dn ((n + 1 : Nat) : Int) (chNext sh (chSt A B up dn sh n).1 (chSt A B up dn sh n).1.length) (chTot (chSt A B up dn sh n).1 (chSt A B up dn sh n).2) ((chSt A B up dn sh n).1.length + 1)
theorem chNext_len (sh : Nat) (c : List Nat) : ∀ j, (chNext sh c j).length = c.length + 1
  | 0 => by simp [chNext]
  | j + 1 => by simp only [chNext, chA, chB, List.length_set]; exact chNext_len sh c j
theorem chPut_len {e : Int} {k : Nat} {p : List Nat × List Nat} : (chPut e k p).1.length = p.1.length ∧ (chPut e k p).2.length = p.2.length := by
  unfold chPut; split <;> simp
theorem chEnd_len (A B up dn : Nat) (N : Int) (nx o : List Nat) : ∀ k, (chEnd A B up dn N nx o k).1.length = nx.length ∧ (chEnd A B up dn N nx o k).2.length = o.length
  | 0 => ⟨rfl, rfl⟩
  | k + 1 => by
    have h := chEnd_len A B up dn N nx o k
    have h2 := @chPut_len (seqEnd A B (chSum up dn N k)) k (chEnd A B up dn N nx o k)
    simp only [chEnd]
    exact ⟨h2.1.trans h.1, h2.2.trans h.2⟩
theorem chSt_len (A B up dn sh : Nat) : ∀ n, (chSt A B up dn sh n).1.length = n + 1 ∧ (chSt A B up dn sh n).2.length = 3
  | 0 => ⟨rfl, rfl⟩
  | n + 1 => by
    have h := chSt_len A B up dn sh n
    have h2 := chEnd_len A B up dn ((n + 1 : Nat) : Int) (chNext sh (chSt A B up dn sh n).1 (chSt A B up dn sh n).1.length) (chTot (chSt A B up dn sh n).1 (chSt A B up dn sh n).2) ((chSt A B up dn sh n).1.length + 1)
    simp only [chSt]
    refine ⟨h2.1.trans ?_, h2.2.trans ?_⟩
    · rw [chNext_len, h.1]
    · unfold chTot; rw [List.length_set, h.2]
theorem am1 (a b o s : Nat) (w1 w2 w3 : World) : cn .f32 (flR .add .f32 a (flR .mul .f32 b (flR .sub .f32 o s w1) w2) w3) = fb .add .f32 (cn .f32 a) (fb .mul .f32 (cn .f32 b) (fb .sub .f32 o s)) := by
  rw [cn_flR, ← fb_cn, cn_flR, ← fb_cn .mul, cn_flR]
theorem am2 (a b s : Nat) (w2 w3 : World) : cn .f32 (flR .add .f32 a (flR .mul .f32 b s w2) w3) = fb .add .f32 (cn .f32 a) (fb .mul .f32 (cn .f32 b) s) := by
  rw [cn_flR, ← fb_cn, cn_flR, fb_cnl .mul .f32 b s]
theorem sm1 {K J u d up dn : Nat} (hu : cn .f32 u = up) (hd : cn .f32 d = dn) (w1 w2 w3 : World) : cn .f32 (flR .add .f32 (flR .mul .f32 K u w1) (flR .mul .f32 J d w2) w3) = fb .add .f32 (fb .mul .f32 K up) (fb .mul .f32 J dn) := by
  rw [cn_flR, ← fb_cn, cn_flR, cn_flR, ← hu, ← hd, fb_cnr, fb_cnr]
/-- The words of a told list. -/
theorem told_at {zs T : List Nat} {i z : Nat} (h : zs.map (cn .f32) = T) (hz : zs[i]? = some z) : cn .f32 z = T.getD i 0 := by
  rw [← h, List.getD_eq_getElem?_getD, List.getElem?_map, hz]; rfl
theorem told_set {zs T : List Nat} {i z y : Nat} (h : zs.map (cn .f32) = T) (hz : cn .f32 z = y) : (zs.set i z).map (cn .f32) = T.set i y := by rw [List.map_set, h, hz]
theorem told_lenC {zs T : List Nat} (h : zs.map (cn .f32) = T) : zs.length = T.length := by rw [← h, List.length_map]
theorem told_fsum {zs T : List Nat} (h : zs.map (cn .f32) = T) : fsum zs = fsum T := fsum_cn (by rw [← h, List.map_map]; congr 1; funext x; simp [cn_cn])
theorem told_rep (n : Nat) : (List.replicate n 0).map (cn .f32) = List.replicate n 0 := by rw [List.map_replicate, cn_zero]
theorem chPut_no {e : Int} {k : Nat} {p : List Nat × List Nat} (h : e = 0) : chPut e k p = p := if_pos h
theorem chPut_yes {e : Int} {k : Nat} {p : List Nat × List Nat} (h : e ≠ 0) : chPut e k p = (p.1.set k 0, p.2.set (eIx e) (fb .add .f32 (p.2.getD (eIx e) 0) (p.1.getD k 0))) := if_neg h
theorem seqEnd_cases (A B s : Nat) : seqEnd A B s = 0 ∨ seqEnd A B s = -1 ∨ seqEnd A B s = 1 := by
  unfold seqEnd
  split
  · exact .inr (.inl rfl)
  · split
    · exact .inr (.inr rfl)
    · exact .inl rfl
theorem i_ends_told {a b c d s A B S : Nat} {E : Int} {w : World} (hs : cn .f32 s = S) (ha : cn .f32 a = A) (hb : cn .f32 b = B) (hE : seqEnd A B S = E) : Calls Try.prog 71 #[.agg (sqA a b c d), .float .f32 s] w fun e w' => e = .returned (.int .i64 E) ∧ Below w.heap.size w w' := by
  refine i_ends.mono ?_
  rintro e w' ⟨rfl, h⟩
  exact ⟨by rw [← hE, ← hs, ← ha, ← hb, seqEnd_cn], h⟩
theorem one_told : [1065353216].map (cn .f32) = [1065353216] := by decide +kernel
theorem zero3_told : [0, 0, 0].map (cn .f32) = [0, 0, 0] := by decide +kernel
theorem chSum_told {u d up dn j k : Nat} (hu : cn .f32 u = up) (hd : cn .f32 d = dn) (w1 w2 w3 : World) : cn .f32 (flR .add .f32 (flR .mul .f32 (floatOfInt .f32 (j : Int)) u w1) (flR .mul .f32 (floatOfInt .f32 ((k : Int) + 1 - (j : Int))) d w2) w3) = chSum up dn ((k + 1 : Nat) : Int) j := by
  have e : ((k + 1 : Nat) : Int) - (j : Int) = (k : Int) + 1 - (j : Int) := by omega
  unfold chSum
  rw [e]
  exact sm1 hu hd w1 w2 w3
theorem getD_set_ne {t : List Nat} {i j y : Nat} (h : i ≠ j) : (t.set i y).getD j 0 = t.getD j 0 := by
  rw [List.getD_eq_getElem?_getD, List.getD_eq_getElem?_getD, List.getElem?_set_ne h]
theorem next_told {ns T C : List Nat} {sh j x y y2 z1 z2 : Nat} (hns : ns.map (cn .f32) = T) (hz1 : cn .f32 z1 = fb .add .f32 (cn .f32 y) (fb .mul .f32 (cn .f32 x) (fb .sub .f32 1065353216 sh))) (hz2 : cn .f32 z2 = fb .add .f32 (cn .f32 y2) (fb .mul .f32 (cn .f32 x) sh))
    (hy : cn .f32 y = T.getD j 0) (hy2 : cn .f32 y2 = T.getD (j + 1) 0) (hx : cn .f32 x = C.getD j 0) : ((ns.set j z1).set (j + 1) z2).map (cn .f32) = chB sh C j (chA sh C j T) := by
  have h1 : (ns.set j z1).map (cn .f32) = chA sh C j T := told_set hns (hz1.trans (by rw [hy, hx]))
  refine told_set h1 (hz2.trans ?_)
  rw [hy2, hx]
  unfold chA
  rw [getD_set_ne (by omega)]
theorem put_told {ns os N O : List Nat} {E : Int} {j x o z : Nat} (hE : E ≠ 0) (hns : ns.map (cn .f32) = N) (hos : os.map (cn .f32) = O) (hx : cn .f32 x = N.getD j 0) (ho : cn .f32 o = O.getD (eIx E) 0) (hz : cn .f32 z = fb .add .f32 o x) :
    (ns.set j 0).map (cn .f32) = (chPut E j (N, O)).1 ∧ (os.set (eIx E) z).map (cn .f32) = (chPut E j (N, O)).2 := by
  rw [chPut_yes hE]
  exact ⟨told_set hns cn_zero, told_set hos (hz.trans (by rw [← fb_cn, hx, ho]))⟩
theorem put_told_m {ns os N O : List Nat} {j x o z : Nat} (hns : ns.map (cn .f32) = N) (hos : os.map (cn .f32) = O) (hx : cn .f32 x = N.getD j 0) (ho : cn .f32 o = O.getD 0 0) (hz : cn .f32 z = fb .add .f32 o x) :
    (ns.set j 0).map (cn .f32) = (chPut (-1) j (N, O)).1 ∧ (os.set 0 z).map (cn .f32) = (chPut (-1) j (N, O)).2 := put_told (E := -1) (by decide) hns hos hx ho hz
theorem put_told_p {ns os N O : List Nat} {j x o z : Nat} (hns : ns.map (cn .f32) = N) (hos : os.map (cn .f32) = O) (hx : cn .f32 x = N.getD j 0) (ho : cn .f32 o = O.getD 1 0) (hz : cn .f32 z = fb .add .f32 o x) :
    (ns.set j 0).map (cn .f32) = (chPut 1 j (N, O)).1 ∧ (os.set 1 z).map (cn .f32) = (chPut 1 j (N, O)).2 := put_told (E := 1) (by decide) hns hos hx ho hz
theorem chEnd_at {A B up dn : Nat} {N E : Int} {nx o : List Nat} {k : Nat} (h : seqEnd A B (chSum up dn N k) = E) : chEnd A B up dn N nx o (k + 1) = chPut E k ((chEnd A B up dn N nx o k).1, (chEnd A B up dn N nx o k).2) := by
  rw [← h]; rfl
theorem chSt_succ (A B up dn sh n : Nat) : chSt A B up dn sh (n + 1) = chEnd A B up dn ((n + 1 : Nat) : Int) (chNext sh (chSt A B up dn sh n).1 (chSt A B up dn sh n).1.length) (chTot (chSt A B up dn sh n).1 (chSt A B up dn sh n).2) (n + 1 + 1) := by
  have e : (chSt A B up dn sh n).1.length + 1 = n + 1 + 1 := by rw [(chSt_len A B up dn sh n).1]
  rw [← e]; rfl
theorem allfin_toldC {zs T : List Nat} (h : zs.map (cn .f32) = T) : zs.all (fin .f32) = T.all (fin .f32) := by
  rw [← h, List.all_map]
  congr 1
  funext x
  exact (fin_cn .f32 x).symm
/-- Is a number a share. -/
def shB (x : Nat) : Bool := (FloatKind.f32.format.order x 0 == some .gt || FloatKind.f32.format.order x 0 == some .eq) && (FloatKind.f32.format.order x 1065353216 == some .lt || FloatKind.f32.format.order x 1065353216 == some .eq)
theorem i_isShare {x : Nat} {w : World} : Calls Try.prog 55 #[.float .f32 x] w fun e w' => e = .returned (.bool (shB x)) ∧ w = w' := by
  have hp : Hid (shB x = ((FloatKind.f32.format.order x 0 == some .gt || FloatKind.f32.format.order x 0 == some .eq) && (FloatKind.f32.format.order x 1065353216 == some .lt || FloatKind.f32.format.order x 1065353216 == some .eq))) := hide rfl
  cases h1 : (FloatKind.f32.format.order x 0 == some .gt || FloatKind.f32.format.order x 0 == some .eq) <;> cases h2 : (FloatKind.f32.format.order x 1065353216 == some .lt || FloatKind.f32.format.order x 1065353216 == some .eq)
  all_goals
    rw [h1, h2] at hp
    go_enter Try.func55, Try.ntmps55
    go_wp2
    go_ret
    exact ⟨ret_bool hp.out.symm, rfl⟩
def chOk (sh lo hi a b : Nat) (m : Int) : Bool := seqOk lo hi a b && (shB sh && inB m 0 64)
def chV (sh lo hi a b : Nat) (m : Int) : List Nat := (chSt (bars1 a b) (bars2 a b) (sUp lo hi) (sDn lo hi) sh m.toNat).2
def chO (sh lo hi a b : Nat) (m : Int) : Bool := chOk sh lo hi a b m && (chV sh lo hi a b m).all (fin .f32)
def chR (sh lo hi a b : Nat) (m : Int) : List Nat := if chO sh lo hi a b m = true then chV sh lo hi a b m else []
/-- What chances look like. -/
def ChRd (base : Nat) (sh lo hi a b : Nat) (m : Int) (e : Ending) (w' : World) : Prop := ∃ v zs, e = .returned (.tuple #[v, .bool (chO sh lo hi a b m)]) ∧ w'.ownsRow base 27 1 v zs.length (fl .f32 zs) ∧ zs.map (cn .f32) = chR sh lo hi a b m
theorem ChRd.no {base sh lo hi a b : Nat} {m : Int} {w' : World} (h : chO sh lo hi a b m = false) : ChRd base sh lo hi a b m (.returned (.tuple #[.slice none 0 0, .bool false])) w' := by
  unfold ChRd chR; rw [h, if_neg (by simp)]; exact ⟨_, [], rfl, own_nil _ _ _ _, rfl⟩
theorem ChRd.yes {base sh lo hi a b : Nat} {m : Int} {w' : World} {v : Value} {zs : List Nat} {n : Nat} (h : chO sh lo hi a b m = true) (hn : n = zs.length) (ho : w'.ownsRow base 27 1 v n (fl .f32 zs)) (hz : zs.map (cn .f32) = chV sh lo hi a b m) : ChRd base sh lo hi a b m (.returned (.tuple #[v, .bool true])) w' := by
  subst hn
  unfold ChRd chR; rw [h, if_pos rfl]; exact ⟨_, zs, rfl, ho, hz⟩
end Go.Proofs.Yteabfkgbakoljaa

/-
  Contracts of the helpers of the laws, continued: marks that are written and held, comparisons of whole numbers and of truths.
-/
namespace Go.Proofs.Yteabfkgbakoljaa
open Go.RowKit Fl Mem
set_option linter.unusedVariables false
set_option maxRecDepth 100000

theorem isNan_word {k : FloatKind} {s : Bool} {r : Nat} (h : r ≤ k.format.infRung) : isNan k (k.format.word s r) = false := by
  unfold isNan Ieee.Format.read Ieee.Format.word
  have hlt := Ieee.Format.infRung_lt k.format
  have hw : 0 < k.format.signWeight := by omega
  have hm : (if s = true then k.format.signWeight + r else r) % k.format.signWeight = r := by
    split
    · rw [Nat.add_mod_left, Nat.mod_eq_of_lt (by omega)]
    · exact Nat.mod_eq_of_lt (by omega)
  simp only [hm]
  split
  · rfl
  · split
    · rfl
    · rw [if_pos (by omega)]; rfl
theorem isNan_nearest (k : FloatKind) (s : Bool) (m : Nat) (e : Int) : isNan k (k.format.nearest s m e) = false := by
  unfold Ieee.Format.nearest
  split
  · exact isNan_word (Nat.zero_le _)
  · exact isNan_word (Nat.min_le_right _ _)
theorem isNan_ofInt (k : FloatKind) (n : Int) : isNan k (floatOfInt k n) = false := isNan_nearest _ _ _ _

/-- The marks of n places, from k on. -/
def marksOf {α : Type} (F : Int → α) (k n : Nat) : List α := (List.range n).map fun i => F ((k + i : Nat) : Int)
theorem marksOf_len {α : Type} (F : Int → α) (k n : Nat) : (marksOf F k n).length = n := by simp [marksOf]
theorem marksOf_at {α : Type} {F : Int → α} {k n i : Nat} (h : i < n) : (marksOf F k n)[i]? = some (F ((k + i : Nat) : Int)) := by
  simp [marksOf, h]

/-- The cells of a row of which the first i are marks. -/
def half (F : Int → Value) (k i : Nat) (cs : List Value) : List Value := marksOf F k i ++ cs.drop i
theorem half_len {F : Int → Value} {k i : Nat} {cs : List Value} (h : i ≤ cs.length) : (half F k i cs).length = cs.length := by
  simp [half, marksOf_len]; omega
theorem half_set {F : Int → Value} {k i : Nat} {cs : List Value} (h : i < cs.length) : (half F k i cs).set i (F ((k + i : Nat) : Int)) = half F k (i + 1) cs := by
  unfold half
  apply List.ext_getElem?
  intro j
  rw [List.getElem?_set]
  simp only [List.length_append, marksOf_len, List.length_drop]
  by_cases hj : i = j
  · subst hj
    rw [if_pos rfl, if_pos (by omega), List.getElem?_append_left (by rw [marksOf_len]; omega), marksOf_at (by omega)]
  · rw [if_neg hj]
    rcases Nat.lt_or_ge j i with h1 | h1
    · rw [List.getElem?_append_left (by rw [marksOf_len]; omega), List.getElem?_append_left (by rw [marksOf_len]; omega), marksOf_at h1, marksOf_at (by omega)]
    · rw [List.getElem?_append_right (by rw [marksOf_len]; omega), List.getElem?_append_right (by rw [marksOf_len]; omega)]
      simp only [marksOf_len, List.getElem?_drop]
      congr 1
      omega
theorem half_all {F : Int → Value} {k : Nat} {cs : List Value} : half F k cs.length cs = marksOf F k cs.length := by
  unfold half; simp

/-- One cell of an owned row is written. -/
theorem own_set {w : World} {base : Nat} {e : TypeId} {g n c : Nat} {xs : List Value} (h : w.ownsRow base e 1 (.slice (some ⟨g, 0, none⟩) n c) n xs) {i : Nat} (hi : i < n) (u : Value) :
    (w.setCell ⟨g, i, none⟩ u).ownsRow base e 1 (.slice (some ⟨g, 0, none⟩) n c) n (xs.set i u) := by
  obtain ⟨h1, h2⟩ := h
  refine ⟨by simpa using h1, ?_⟩
  rcases h2 with ⟨h2, _⟩ | ⟨g', cap, cur, hv, hb, hg, hnc, hcm, hcs, htake⟩
  · cases h2
  · injection hv with hv1 _ hv2
    injection hv1 with hv1
    injection hv1 with hv1
    subst hv1
    subst hv2
    refine .inr ⟨g, c, cur.setIfInBounds i u, rfl, hb, ?_, hnc, hcm, by simpa using hcs, ?_⟩
    · have := Blk.set_ (w := w) (g := g) (t := e) (cs := cur) hg i u
      exact this
    · rw [← htake, Array.toList_setIfInBounds]
      simp only [Nat.mul_one]
      rw [List.take_set]
theorem own_cell {w : World} {base : Nat} {e : TypeId} {g n c : Nat} {xs : List Value} (h : w.ownsRow base e 1 (.slice (some ⟨g, 0, none⟩) n c) n xs) {i : Nat} {u : Value} (hu : xs[i]? = some u) :
    w.cell? ⟨g, i, none⟩ = some u ∧ w.frozen? ⟨g, i, none⟩ = false := by
  refine ⟨by have := h.cells (g := g) rfl i u hu; simpa [Addr.add_lit] using this, ?_⟩
  rcases h.2 with ⟨h2, _⟩ | ⟨g', cap, cur, hv, hb, hg, _⟩
  · cases h2
  · injection hv with hv1 _ _
    injection hv1 with hv1
    injection hv1 with hv1
    subst hv1
    exact Blk.frozen (w := w) (t := e) (cs := cur) hg i
theorem own_addr {w : World} {base : Nat} {e : TypeId} {size n : Nat} {v : Value} {xs : List Value} (h : w.ownsRow base e size v n xs) (hn : 0 < n) : ∃ g c, v = .slice (some ⟨g, 0, none⟩) n c := by
  rcases h.2 with ⟨_, h0⟩ | ⟨g, cap, cur, rfl, _⟩
  · omega
  · exact ⟨g, cap, rfl⟩
theorem own_len {w : World} {base : Nat} {e : TypeId} {n : Nat} {v : Value} {xs : List Value} (h : w.ownsRow base e 1 v n xs) : xs.length = n := by have := h.1; omega

/-- Two owned rows of which the second one's base lies beyond the first one's block. -/
theorem own_apart {w w2 : World} {b1 b2 : Nat} {e1 e2 : TypeId} {s1 s2 n1 n2 : Nat} {v1 v2 : Value} {xs1 xs2 : List Value} (h1 : w.ownsRow b1 e1 s1 v1 n1 xs1) (h2 : w2.ownsRow b2 e2 s2 v2 n2 xs2)
    (hs : w.heap.size ≤ b2) : v1.ownBlock = none ∨ v1.ownBlock ≠ v2.ownBlock := by
  cases hv : v1.ownBlock with
  | none => exact .inl rfl
  | some k =>
    refine .inr (fun he => ?_)
    have := (h1.lt k hv).2
    have := (h2.lt k he.symm).1
    omega


/-- A mark as a number, a whole number, a truth. -/
def mkF (k : Int) : Value := .float .f32 (floatOfInt .f32 k)
def mkI (k : Int) : Value := .int .i64 k
def mkB (k : Int) : Value := .bool (k % 3 == 0)

end Go.Proofs.Yteabfkgbakoljaa

/-
  What the walks of the laws take at their calls, in forms that fit: values are found off the goal, facts are given.
-/
namespace Go.Proofs.Yteabfkgbakoljaa
open Go.RowKit Fl Mem
set_option linter.unusedVariables false
set_option maxRecDepth 100000

theorem below_of {w w' : World} {m : Nat} (h : w' = w.drewN m) : Below w.heap.size w w' := by rw [h]; exact below_drewN (Below.refl _ _) m
theorem reads_grow {w w' : World} {size n : Nat} {A : Option Addr} {xs : List Value} (h : Reads w w.heap.size size A n xs) (hb : Below w.heap.size w w') : Reads w' w'.heap.size size A n xs := (h.below hb).more hb.size
theorem own_apart' {w w2 : World} {b1 b2 : Nat} {e1 e2 : TypeId} {s1 s2 n1 n2 : Nat} {v1 v2 : Value} {xs1 xs2 : List Value} (h1 : w.ownsRow b1 e1 s1 v1 n1 xs1) (h2 : w2.ownsRow b2 e2 s2 v2 n2 xs2)
    (hs : w.heap.size ≤ b2) : v2.ownBlock = none ∨ v2.ownBlock ≠ v1.ownBlock := by
  rcases own_apart h1 h2 hs with h | h
  · cases hv : v2.ownBlock with
    | none => exact .inl rfl
    | some k => exact .inr (by rw [h]; simp)
  · exact .inr (fun e => h e.symm)

theorem len_of {zs R : List Nat} (h : Hid (zs.map (cn .f32) = R)) (hR : R.length ≤ 1000) : zs.length ≤ 1000 := by
  have h1 := congrArg List.length h.out
  simp at h1
  omega

end Go.Proofs.Yteabfkgbakoljaa

/-
  Contracts of the helpers of the laws on lives, laws, chains, plans and desks.
-/
namespace Go.Proofs.Yteabfkgbakoljaa
open Go.RowKit Fl Mem
set_option linter.unusedVariables false
set_option maxRecDepth 100000

/-- The cells of lives. -/
def ll : List (Nat × Bool) → List Value
  | [] => []
  | p :: r => .float .f32 p.1 :: .bool p.2 :: ll r
theorem ll_len (xs : List (Nat × Bool)) : (ll xs).length = xs.length * 2 := by
  induction xs with
  | nil => rfl
  | cons p r ih => simp only [ll, List.length_cons, ih]; omega
theorem ll_at {xs : List (Nat × Bool)} {k : Nat} {p : Nat × Bool} (h : xs[k]? = some p) : (ll xs)[k * 2]? = some (.float .f32 p.1) ∧ (ll xs)[k * 2 + 1]? = some (.bool p.2) := by
  induction xs generalizing k with
  | nil => simp at h
  | cons q r ih =>
    cases k with
    | zero => simp at h; subst h; exact ⟨rfl, rfl⟩
    | succ k =>
      simp only [List.getElem?_cons_succ] at h
      have := ih h
      simp only [ll]
      rw [show (k + 1) * 2 = k * 2 + 1 + 1 by omega, List.getElem?_cons_succ, List.getElem?_cons_succ, List.getElem?_cons_succ, List.getElem?_cons_succ]
      exact this
theorem reads_ll {w : World} {B n k : Nat} {A : Option Addr} {xs : List (Nat × Bool)} (h : Reads w B 2 A n (ll xs)) (hk : k < n) :
    ∃ ad p, A = some ad ∧ ad.block < B ∧ xs[k]? = some p ∧ w.cell? (ad.add (k * 2)) = some (.float .f32 p.1) ∧ w.cell? ((ad.add (k * 2)).add 1) = some (.bool p.2) := by
  obtain ⟨ad, e, hb, hc⟩ := h.2 (by omega)
  have hl := h.1
  rw [ll_len] at hl
  have hx : xs[k]? = some xs[k] := List.getElem?_eq_getElem (by omega)
  obtain ⟨h1, h2⟩ := ll_at hx
  exact ⟨ad, xs[k], e, hb, hx, hc _ _ h1, by rw [add_of_add]; exact hc _ _ h2⟩

/-- A desk as a value. -/
abbrev deskV (LA : Option Addr) (ln lc : Nat) (kd : Int) (sh sc : Nat) (st : Int) (RA : Option Addr) (rn rc : Nat) (sz ac : Int) : Value :=
  .agg #[.slice LA ln lc, .int .i64 kd, .float .f32 sh, .float .f32 sc, .int .i64 st, .slice RA rn rc, .int .i64 sz, .int .i64 ac]
/-- Two blocks that were laid last hold what they held. -/
theorem box_cells {w w3 : World} {c1 c2 : Array Value} {t1 t2 : TypeId} (hb : Below ((w.alloc (.cells c1 t1)).alloc (.cells c2 t2)).heap.size ((w.alloc (.cells c1 t1)).alloc (.cells c2 t2)) w3) :
    (∀ i, w3.cell? ⟨w.heap.size, i, none⟩ = c1[i]?) ∧ (∀ i, w3.cell? ⟨w.heap.size + 1, i, none⟩ = c2[i]?) := by
  constructor
  · intro i
    rw [hb.cell (by simp; omega)]
    exact Blk.cell ((Blk.new w t1 c1).alloc _) i
  · intro i
    rw [hb.cell (by simp)]
    have := Blk.cell (Blk.new (w.alloc (.cells c1 t1)) t2 c2) i
    rw [show (w.alloc (.cells c1 t1)).heap.size = w.heap.size + 1 by simp] at this
    exact this
theorem below_step {w a b : World} {B : Nat} (h : Below w.heap.size w a) (hB : B ≤ w.heap.size) (h2 : Below a.heap.size a b) : Below w.heap.size w b := h.trans (h2.mono h.size)

/-- One cell of an owned row of elements of two cells is written. -/
theorem own_set2 {w : World} {base : Nat} {e : TypeId} {g n c : Nat} {xs : List Value} (h : w.ownsRow base e 2 (.slice (some ⟨g, 0, none⟩) n c) n xs) {i : Nat} (hi : i < n * 2) (u : Value) :
    (w.setCell ⟨g, i, none⟩ u).ownsRow base e 2 (.slice (some ⟨g, 0, none⟩) n c) n (xs.set i u) := by
  obtain ⟨h1, h2⟩ := h
  refine ⟨by simpa using h1, ?_⟩
  rcases h2 with ⟨h2, _⟩ | ⟨g', cap, cur, hv, hb, hg, hnc, hcm, hcs, htake⟩
  · cases h2
  · injection hv with hv1 _ hv2
    injection hv1 with hv1
    injection hv1 with hv1
    subst hv1
    subst hv2
    refine .inr ⟨g, c, cur.setIfInBounds i u, rfl, hb, ?_, hnc, hcm, by simpa using hcs, ?_⟩
    · have := Blk.set_ (w := w) (g := g) (t := e) (cs := cur) hg i u
      exact this
    · rw [← htake, Array.toList_setIfInBounds]
      rw [List.take_set]
theorem own_cell2 {w : World} {base : Nat} {e : TypeId} {g n c : Nat} {xs : List Value} (h : w.ownsRow base e 2 (.slice (some ⟨g, 0, none⟩) n c) n xs) {i : Nat} {u : Value} (hu : xs[i]? = some u) :
    w.cell? ⟨g, i, none⟩ = some u ∧ w.frozen? ⟨g, i, none⟩ = false := by
  refine ⟨by have := h.cells (g := g) rfl i u hu; simpa [Addr.add_lit] using this, ?_⟩
  rcases h.2 with ⟨h2, _⟩ | ⟨g', cap, cur, hv, hb, hg, _⟩
  · cases h2
  · injection hv with hv1 _ _
    injection hv1 with hv1
    injection hv1 with hv1
    subst hv1
    exact Blk.frozen (w := w) (t := e) (cs := cur) hg i
/-- The marks of a list of lives. -/
def marksL (k : Nat) : Nat → List Value
  | 0 => []
  | n + 1 => mkF (k : Int) :: mkB ((k : Int) + 1) :: marksL (k + 2) n
theorem marksL_len (k n : Nat) : (marksL k n).length = n * 2 := by
  induction n generalizing k with
  | zero => rfl
  | succ n ih => simp only [marksL, List.length_cons, ih]; omega
theorem marksL_at {k n i : Nat} (h : i < n) : (marksL k n)[i * 2]? = some (mkF ((k + 2 * i : Nat) : Int)) ∧ (marksL k n)[i * 2 + 1]? = some (mkB ((k + 2 * i + 1 : Nat) : Int)) := by
  induction n generalizing k i with
  | zero => omega
  | succ n ih =>
    cases i with
    | zero => exact ⟨by simp [marksL], by simp [marksL]⟩
    | succ i =>
      have := ih (k := k + 2) (i := i) (by omega)
      simp only [marksL]
      rw [show (i + 1) * 2 = i * 2 + 1 + 1 by omega, List.getElem?_cons_succ, List.getElem?_cons_succ, List.getElem?_cons_succ, List.getElem?_cons_succ]
      rw [show k + 2 + 2 * i = k + 2 * (i + 1) by omega] at this
      exact this
/-- The cells of a row of which the first i are told otherwise. -/
def mix (ms cs : List Value) (i : Nat) : List Value := ms.take i ++ cs.drop i
theorem mix_len {ms cs : List Value} {i : Nat} (hl : ms.length = cs.length) (hi : i ≤ cs.length) : (mix ms cs i).length = cs.length := by simp [mix]; omega
theorem mix_set {ms cs : List Value} {i : Nat} {u : Value} (hl : ms.length = cs.length) (hu : ms[i]? = some u) : (mix ms cs i).set i u = mix ms cs (i + 1) := by
  have hi : i < cs.length := by rw [← hl]; exact (List.getElem?_eq_some_iff.1 hu).1
  unfold mix
  apply List.ext_getElem?
  intro j
  rw [List.getElem?_set]
  by_cases hj : i = j
  · subst hj
    rw [if_pos rfl, if_pos (by simp; omega), List.getElem?_append_left (by simp; omega), List.getElem?_take, if_pos (by omega), hu]
  · rw [if_neg hj]
    rcases Nat.lt_or_ge j i with h1 | h1
    · rw [List.getElem?_append_left (by simp; omega), List.getElem?_append_left (by simp; omega), List.getElem?_take, List.getElem?_take, if_pos h1, if_pos (by omega)]
    · rw [List.getElem?_append_right (by simp; omega), List.getElem?_append_right (by simp; omega)]
      simp only [List.getElem?_drop, List.length_take]
      congr 1
      omega
theorem mix_all {ms cs : List Value} (hl : ms.length = cs.length) : mix ms cs cs.length = ms := by unfold mix; rw [List.take_of_length_le (by omega), List.drop_length, List.append_nil]
theorem mix_none (ms cs : List Value) : mix ms cs 0 = cs := by simp [mix]

end Go.Proofs.Yteabfkgbakoljaa

/-
  Contracts of the helpers of the laws on desks: marks; NewDesk, the program's and the reference's.
-/
namespace Go.Proofs.Yteabfkgbakoljaa
open Go.RowKit Fl Mem
set_option linter.unusedVariables false
set_option maxRecDepth 100000

theorem own_of_blk2 {w : World} {base g n : Nat} {t : TypeId} {xs : List Value} (h : Blk w g t xs.toArray) (hb : base ≤ g) (hl : xs.length = n * 2) (hn : n ≤ maxLen) : w.ownsRow base t 2 (.slice (some ⟨g, 0, none⟩) n n) n xs :=
  ⟨by omega, .inr ⟨g, n, xs.toArray, rfl, hb, h, Nat.le_refl _, hn, by simp [hl], by rw [List.take_of_length_le (by simp; omega)]⟩⟩

theorem blk_new' (w : World) (g : Nat) (t : TypeId) (cs : Array Value) (hg : g = w.heap.size) : Blk (w.alloc (.cells cs t)) g t cs := by subst hg; exact Blk.new w t cs
def desk0L : List (Nat × Bool) := [(1065353216, true), (1073741824, false), (1082130432, true)]
def desk0R : List Nat := [0, 1065353216, 1077936128, 0]
abbrev desk0 (g1 g2 : Nat) : Value := deskV (some ⟨g1, 0, none⟩) 3 3 0 1065353216 1082130432 2 (some ⟨g2, 0, none⟩) 4 4 2 0

theorem grown_al {w w2 : World} {o : Obj} {row : Option Nat} (hg : (w.alloc o).grownBy w2 row) : w.grownBy w2 row :=
  ⟨hg.os, hg.tape, hg.output, Nat.le_trans (by simp) hg.size, fun i hi hne => (hg.block i (by simp; omega) hne).trans (Below.heap_alloc w o i hi)⟩

theorem blk_below {w w' : World} {g : Nat} {t : TypeId} {cs : Array Value} (h : Blk w g t cs) (hb : Below w.heap.size w w') : Blk w' g t cs := Blk.below h hb h.lt
end Go.Proofs.Yteabfkgbakoljaa

/-
  BearingRates: both sides.
-/
namespace Go.Proofs.Yteabfkgbakoljaa
open Go.RowKit Mem Fl
set_option linter.unusedVariables false
set_option maxRecDepth 100000

theorem wide_word {a : Nat} (h : fin .f32 a = true) : ∃ s r, wide a = FloatKind.f64.format.word s r ∧ r < 9218868437227405312 := by
  obtain ⟨s, m, e, hr⟩ := (fin_iff .f32 a).1 h
  obtain ⟨hm, h1, h2⟩ := read32 hr
  obtain ⟨r, hw, hi⟩ := nearest64_lt s m e hm h1 h2
  refine ⟨s, r, ?_, by rw [d64_inf] at hi; exact hi⟩
  unfold wide
  rw [cvBits_num hr]
  show cn .f64 (FloatKind.f64.format.nearest s m e) = _
  rw [hw, cn_num (isNan_word' (Nat.le_of_lt hi))]
theorem cvR_fin {a : Nat} (h : fin .f32 a = true) (w : World) : cvR .f32 .f64 a w = wide a := by
  obtain ⟨s, r, hw, hr⟩ := wide_word h
  exact exact_word (cn_cvR a w) (by rw [hw]; exact isNan_word' (by rw [d64_inf]; omega))
/-- The real part of the point at some turns, told. -/
def phX (a : Nat) : Nat := if 4841369599423283200 ≤ wide a % 9223372036854775808 then 1065353216 else phRe (wide a)
theorem i_Ph {a : Nat} {w : World} (h : fin .f32 a = true) : Calls Try.prog 85 #[.float .f64 (wide a)] w fun e w' => ∃ x y, e = .returned (.complex .f32 x y) ∧ Hid (cn .f32 x = phX a) ∧ ∃ m, w' = w.drewN m := by
  obtain ⟨s, r, hw, hr⟩ := wide_word h
  have hm := (word_mod (s := s) hr).1
  rw [← hw] at hm
  by_cases hb : 4841369599423283200 ≤ r
  · have hX : phX a = 1065353216 := by unfold phX; rw [hm, if_pos hb]
    refine (i_PhasorOf_big hw hb hr).mono ?_
    rintro e w' ⟨rfl, h1⟩
    exact ⟨_, _, rfl, hide (by rw [hX]; decide +kernel), h1⟩
  · have hX : phX a = phRe (wide a) := by unfold phX; rw [hm, if_neg hb]
    refine (i_PhasorOf hw (by omega)).mono ?_
    rintro e w' ⟨x, y, rfl, h1, _, h2⟩
    exact ⟨_, _, rfl, hide (by rw [hX]; exact h1.out), h2⟩
theorem s_Ph {a : Nat} {w : World} (h : fin .f32 a = true) : Calls Try.prog 140 #[.float .f64 (wide a)] w fun e w' => ∃ x y, e = .returned (.complex .f32 x y) ∧ Hid (cn .f32 x = phX a) ∧ ∃ m, w' = w.drewN m := by
  obtain ⟨s, r, hw, hr⟩ := wide_word h
  have hm := (word_mod (s := s) hr).1
  rw [← hw] at hm
  by_cases hb : 4841369599423283200 ≤ r
  · have hX : phX a = 1065353216 := by unfold phX; rw [hm, if_pos hb]
    refine (s_l01Phasor_big hw hb hr).mono ?_
    rintro e w' ⟨rfl, h1⟩
    exact ⟨_, _, rfl, hide (by rw [hX]; decide +kernel), h1⟩
  · have hX : phX a = phRe (wide a) := by unfold phX; rw [hm, if_neg hb]
    refine (s_l01Phasor hw (by omega)).mono ?_
    rintro e w' ⟨x, y, rfl, h1, _, h2⟩
    exact ⟨_, _, rfl, hide (by rw [hX]; exact h1.out), h2⟩
def brC (R a : Nat) : Nat := fb .mul .f32 R (phX a)
def brG (R a : Nat) : Nat := fb .mul .f32 1056964608 (fb .sub .f32 1065353216 (brC R a))
def brV (n : Int) (R a : Nat) : List Nat := [brG R a, fb .mul .f32 (floatOfInt .f32 n) (brG R a), fb .mul .f32 (fb .mul .f32 1056964608 (floatOfInt .f32 n)) (fb .add .f32 1065353216 (brC R a)), fb .quo .f32 (fb .sub .f32 1065353216 (fb .mul .f32 (brC R a) (brC R a))) (fb .mul .f32 1073741824 R)]
def brIn (n : Int) (R a : Nat) : Bool := (inB n 1 32 && shB R) && ((FloatKind.f32.format.order R 0 == some .gt) && fin .f32 a)
def brO (n : Int) (R a : Nat) : Bool := brIn n R a && (brV n R a).all (fin .f32)
def brR (n : Int) (R a : Nat) : List Nat := if brO n R a = true then brV n R a else []
theorem brR_len (n : Int) (R a : Nat) : (brR n R a).length ≤ 1000 := by
  unfold brR; split
  · simp [brV]
  · simp
def BrR (base : Nat) (n : Int) (R a : Nat) (e : Ending) (w' : World) : Prop := ∃ v zs, e = .returned (.tuple #[v, .bool (brO n R a)]) ∧ w'.ownsRow base 27 1 v zs.length (fl .f32 zs) ∧ Hid (zs.map (cn .f32) = brR n R a)
theorem BrR.no {base : Nat} {n : Int} {R a : Nat} {w' : World} (h : brO n R a = false) : BrR base n R a (.returned (.tuple #[.slice none 0 0, .bool false])) w' := by
  unfold BrR brR; rw [h, if_neg (by simp)]; exact ⟨_, [], rfl, own_nil _ _ _ _, hide rfl⟩
theorem BrR.yes {base : Nat} {n : Int} {R a : Nat} {w' : World} {v : Value} {zs : List Nat} (h : brO n R a = true) (ho : w'.ownsRow base 27 1 v zs.length (fl .f32 zs)) (hz : zs.map (cn .f32) = brV n R a) : BrR base n R a (.returned (.tuple #[v, .bool true])) w' := by
  unfold BrR brR; rw [h, if_pos rfl]; exact ⟨_, zs, rfl, ho, hide hz⟩
theorem c_told {R re X : Nat} (h : cn .f32 re = X) (w : World) : cn .f32 (flR .mul .f32 R re w) = fb .mul .f32 R X := by rw [cn_flR, ← fb_cnr, h]
theorem g_told {z C : Nat} (h : cn .f32 z = C) (w1 w2 : World) : cn .f32 (flR .mul .f32 1056964608 (flR .sub .f32 1065353216 z w1) w2) = fb .mul .f32 1056964608 (fb .sub .f32 1065353216 C) := by
  rw [cn_flR, ← fb_cnr, cn_flR, ← fb_cnr .sub, h]
theorem br_told {n : Int} {R a zc cg : Nat} (hc : cn .f32 zc = brC R a) (hg : cn .f32 cg = brG R a) (w1 w2 w3 w4 w5 w6 w7 w8 : World) :
    [cg, flR .mul .f32 (floatOfInt .f32 n) cg w1, flR .mul .f32 (flR .mul .f32 1056964608 (floatOfInt .f32 n) w2) (flR .add .f32 1065353216 zc w3) w4, flR .quo .f32 (flR .sub .f32 1065353216 (flR .mul .f32 zc zc w5) w6) (flR .mul .f32 1073741824 R w7) w8].map (cn .f32) = brV n R a := by
  have e2 : cn .f32 (flR .mul .f32 (floatOfInt .f32 n) cg w1) = fb .mul .f32 (floatOfInt .f32 n) (brG R a) := by rw [cn_flR, ← fb_cnr, hg]
  have e3 : cn .f32 (flR .mul .f32 (flR .mul .f32 1056964608 (floatOfInt .f32 n) w2) (flR .add .f32 1065353216 zc w3) w4) = fb .mul .f32 (fb .mul .f32 1056964608 (floatOfInt .f32 n)) (fb .add .f32 1065353216 (brC R a)) := by
    rw [cn_flR, ← fb_cn, cn_flR, cn_flR, ← fb_cnr .add, hc]
  have e4 : cn .f32 (flR .quo .f32 (flR .sub .f32 1065353216 (flR .mul .f32 zc zc w5) w6) (flR .mul .f32 1073741824 R w7) w8) = fb .quo .f32 (fb .sub .f32 1065353216 (fb .mul .f32 (brC R a) (brC R a))) (fb .mul .f32 1073741824 R) := by
    rw [cn_flR, ← fb_cn, cn_flR, cn_flR, ← fb_cnr .sub, cn_flR, ← fb_cn .mul .f32 zc zc, hc]
  simp only [List.map_cons, List.map_nil, hg, e2, e3, e4]
  rfl
theorem i_ifAll4 {w : World} {e : TypeId} {a b c d g : Nat} (hg : g = w.heap.size) {T : List Nat} {O : Bool} (ht : [a, b, c, d].map (cn .f32) = T) (hO : T.all (fin .f32) = O) :
    Calls Try.prog 60 #[.slice (some ⟨g, 0, none⟩) 4 4] (w.alloc (.cells #[.float .f32 a, .float .f32 b, .float .f32 c, .float .f32 d] e)) fun r w' => r = .returned (.tuple #[if O = true then .slice (some ⟨g, 0, none⟩) 4 4 else .slice none 0 0, .bool O]) ∧ Hid ([a, b, c, d].map (cn .f32) = T) ∧ ∃ m, w' = (w.alloc (.cells #[.float .f32 a, .float .f32 b, .float .f32 c, .float .f32 d] e)).drewN m := by
  subst hg
  refine (i_ifAll (xs := [a, b, c, d]) (reads_new (Value.float .f32) w e [a, b, c, d]) (by simp [maxLen])).mono ?_
  rintro r w' ⟨rfl, h⟩
  rw [allfin_toldC ht, hO]
  exact ⟨rfl, hide ht, h⟩
theorem own4 {W : World} {g base : Nat} {t : TypeId} {a b c d M : Nat} (hg : g = W.heap.size) (hb : base ≤ g) : ((W.alloc (.cells #[.float .f32 a, .float .f32 b, .float .f32 c, .float .f32 d] t)).drewN M).ownsRow base t 1 (.slice (some ⟨g, 0, none⟩) 4 4) [a, b, c, d].length (fl .f32 [a, b, c, d]) :=
  own_drewN (own_of_blk (xs := fl .f32 [a, b, c, d]) (blk_new' W g t _ hg) hb rfl (by simp [maxLen])) M
theorem sh_zero {R : Nat} (h : shB R = true) : (FloatKind.f32.format.order R 0 == some .gt) = !(FloatKind.f32.format.order R 0 == some .eq) := by
  unfold shB at h
  rw [Bool.and_eq_true] at h
  have h1 := h.1
  cases ho : FloatKind.f32.format.order R 0 with
  | none => rw [ho] at h1; cases h1
  | some o =>
    rw [ho] at h1
    cases o
    · cases h1
    · rfl
    · rfl
set_option maxHeartbeats 4000000 in
theorem i_BearingRates_yes {n : Int} {R a : Nat} {w : World} (h1 : inB n 1 32 = true) (h2 : shB R = true) (h3 : (FloatKind.f32.format.order R 0 == some .eq) = false) (h3' : (FloatKind.f32.format.order R 0 == some .gt) = true) (h4 : fin .f32 a = true) :
    Calls Try.prog 36 #[.int .i64 n, .float .f32 R, .float .f32 a] w fun e w' => BrR w.heap.size n R a e w' ∧ Below w.heap.size w w' := by
  have HO : Hid (brO n R a = (brV n R a).all (fin .f32)) := hide (by unfold brO brIn; rw [h1, h2, h3', h4]; simp)
  have HC := hide (cvR_fin h4)
  have HP : ∀ W, _ := fun W => i_Ph (w := W) h4
  replace HP := hide HP
  have hin := inB_iff.1 h1
  cases hf : (brV n R a).all (fin .f32) with
  | true =>
    have HF := hide hf
    go_enter Try.func36, Try.ntmps36
    go_wp2_with (first
      | (go_at_call 59; refine (i_within _ _ _ _).mono ?_; rintro e w' ⟨rfl, rfl⟩; rw [h1])
      | (go_at_call 55; refine i_isShare.mono ?_; rintro e w' ⟨rfl, rfl⟩; rw [h2])
      | (go_at_call 64; refine (i_IsFinite _ _).mono ?_; rintro e w' ⟨rfl, m1, rfl⟩; rw [h4])
      | (go_at_call 85; rw [HC.out]; refine (HP.out _).mono ?_; rintro e w' ⟨x, y, rfl, hx, m2, rfl⟩)
      | (go_at_call 60; refine (i_ifAll4 (by simp) (br_told (a := a) (c_told hx.out _) (g_told (c_told hx.out _) _ _) _ _ _ _ _ _ _ _) HF.out).mono ?_; rintro e w' ⟨rfl, ht, m3, rfl⟩))
    go_ret2
    exact ⟨BrR.yes (by rw [HO.out, HF.out]) (own4 (by simp) (Nat.le_refl _)) ht.out, below_drewN ((below_drewN (Below.refl _ _) _).alloc (by simp) _) _⟩
  | false =>
    have HF := hide hf
    go_enter Try.func36, Try.ntmps36
    go_wp2_with (first
      | (go_at_call 59; refine (i_within _ _ _ _).mono ?_; rintro e w' ⟨rfl, rfl⟩; rw [h1])
      | (go_at_call 55; refine i_isShare.mono ?_; rintro e w' ⟨rfl, rfl⟩; rw [h2])
      | (go_at_call 64; refine (i_IsFinite _ _).mono ?_; rintro e w' ⟨rfl, m1, rfl⟩; rw [h4])
      | (go_at_call 85; rw [HC.out]; refine (HP.out _).mono ?_; rintro e w' ⟨x, y, rfl, hx, m2, rfl⟩)
      | (go_at_call 60; refine (i_ifAll4 (by simp) (br_told (a := a) (c_told hx.out _) (g_told (c_told hx.out _) _ _) _ _ _ _ _ _ _ _) HF.out).mono ?_; rintro e w' ⟨rfl, ht, m3, rfl⟩))
    go_ret2
    exact ⟨BrR.no (by rw [HO.out, HF.out]), below_drewN ((below_drewN (Below.refl _ _) _).alloc (by simp) _) _⟩
set_option maxHeartbeats 2000000 in
theorem i_BearingRates {n : Int} {R a : Nat} {w : World} :
    Calls Try.prog 36 #[.int .i64 n, .float .f32 R, .float .f32 a] w fun e w' => BrR w.heap.size n R a e w' ∧ Below w.heap.size w w' := by
  cases h1 : inB n 1 32 with
  | false =>
    have HN : Hid (brO n R a = false) := hide (by unfold brO brIn; rw [h1]; rfl)
    go_enter Try.func36, Try.ntmps36
    go_wp2_with (first
      | (go_at_call 59; refine (i_within _ _ _ _).mono ?_; rintro e w' ⟨rfl, rfl⟩; rw [h1])
      | (go_at_call 55; refine i_isShare.mono ?_; rintro e w' ⟨rfl, rfl⟩; rw [h2])
      | (go_at_call 64; refine (i_IsFinite _ _).mono ?_; rintro e w' ⟨rfl, m1, rfl⟩; rw [h4]))
    go_ret2
    exact ⟨BrR.no HN.out, by first | exact Below.refl _ _ | exact below_drewN (Below.refl _ _) _⟩
  | true =>
    cases h2 : shB R with
    | false =>
      have HN : Hid (brO n R a = false) := hide (by unfold brO brIn; rw [h1, h2]; rfl)
      go_enter Try.func36, Try.ntmps36
      go_wp2_with (first
        | (go_at_call 59; refine (i_within _ _ _ _).mono ?_; rintro e w' ⟨rfl, rfl⟩; rw [h1])
        | (go_at_call 55; refine i_isShare.mono ?_; rintro e w' ⟨rfl, rfl⟩; rw [h2])
        | (go_at_call 64; refine (i_IsFinite _ _).mono ?_; rintro e w' ⟨rfl, m1, rfl⟩; rw [h4]))
      go_ret2
      exact ⟨BrR.no HN.out, by first | exact Below.refl _ _ | exact below_drewN (Below.refl _ _) _⟩
    | true =>
      have hz := sh_zero h2
      cases h3 : (FloatKind.f32.format.order R 0 == some .eq) with
      | true =>
        have HN : Hid (brO n R a = false) := hide (by unfold brO brIn; rw [h1, h2, hz, h3]; rfl)
        clear hz
        go_enter Try.func36, Try.ntmps36
        go_wp2_with (first
          | (go_at_call 59; refine (i_within _ _ _ _).mono ?_; rintro e w' ⟨rfl, rfl⟩; rw [h1])
          | (go_at_call 55; refine i_isShare.mono ?_; rintro e w' ⟨rfl, rfl⟩; rw [h2])
          | (go_at_call 64; refine (i_IsFinite _ _).mono ?_; rintro e w' ⟨rfl, m1, rfl⟩; rw [h4]))
        go_ret2
        exact ⟨BrR.no HN.out, by first | exact Below.refl _ _ | exact below_drewN (Below.refl _ _) _⟩
      | false =>
        rw [h3] at hz
        cases h4 : fin .f32 a with
        | false =>
          have HN : Hid (brO n R a = false) := hide (by unfold brO brIn; rw [h1, h2, hz, h4]; rfl)
          clear hz
          go_enter Try.func36, Try.ntmps36
          go_wp2_with (first
            | (go_at_call 59; refine (i_within _ _ _ _).mono ?_; rintro e w' ⟨rfl, rfl⟩; rw [h1])
            | (go_at_call 55; refine i_isShare.mono ?_; rintro e w' ⟨rfl, rfl⟩; rw [h2])
            | (go_at_call 64; refine (i_IsFinite _ _).mono ?_; rintro e w' ⟨rfl, m1, rfl⟩; rw [h4]))
          go_ret2
          exact ⟨BrR.no HN.out, by first | exact Below.refl _ _ | exact below_drewN (Below.refl _ _) _⟩
        | true => exact i_BearingRates_yes h1 h2 h3 hz h4
end Go.Proofs.Yteabfkgbakoljaa

/-
  Complex numbers: sums, and what both sides have for them.
-/
namespace Go.Proofs.Yteabfkgbakoljaa
open Go.RowKit Mem Fl
set_option linter.unusedVariables false
set_option maxRecDepth 100000

section
variable {P : Program}
theorem run_carith_any (op : BinOp) (hop : op = .add ∨ op = .sub ∨ op = .mul ∨ op = .quo) (k : FloatKind) (x y : Nat) (w : World) : (Op.Complex.arith op k x y).run P w = .ok (flR op k x y w) (w.drewN (flN op k x y)) := by
  simp [Op.Complex.arith, run_floatArith_any (P := P) op hop k x y w]
@[go_sem] theorem run_cadd (t : TypeId) (k : FloatKind) (a b c d : Nat) (w : World) : (binOp .add t (.complex k a b) (.complex k c d)).run P w = .ok (.complex k (flR .add k a c w) (flR .add k b d (w.drewN (flN .add k a c)))) ((w.drewN (flN .add k a c)).drewN (flN .add k b d)) := by
  simp [binOp, Op.complexOp, run_carith_any (P := P) .add (by simp)]
end
/-- What a scaled point looks like. -/
theorem scale_told {x X r : Nat} (h : cn .f32 x = X) (w : World) : cn .f32 (flR .mul .f32 x r w) = fb .mul .f32 X r := by rw [cn_flR, ← fb_cnl, h]
theorem plus_told {a c A C : Nat} (ha : cn .f32 a = A) (hc : cn .f32 c = C) (w : World) : cn .f32 (flR .add .f32 a c w) = fb .add .f32 A C := by rw [cn_flR, ← fb_cn, ha, hc]
theorem i_plus {a b c d A B C D : Nat} {w : World} (ha : cn .f32 a = A) (hb : cn .f32 b = B) (hc : cn .f32 c = C) (hd : cn .f32 d = D) :
    Calls Try.prog 98 #[.complex .f32 a b, .complex .f32 c d] w fun e w' => ∃ x y, e = .returned (.complex .f32 x y) ∧ Hid (cn .f32 x = fb .add .f32 A C) ∧ Hid (cn .f32 y = fb .add .f32 B D) ∧ ∃ m, w' = w.drewN m := by
  have H1 := hide (And.intro ha hc)
  have H2 := hide (And.intro hb hd)
  clear ha hb hc hd
  go_enter Try.func98, Try.ntmps98
  go_wp2
  go_ret
  exact ⟨_, _, rfl, hide (plus_told H1.out.1 H1.out.2 _), hide (plus_told H2.out.1 H2.out.2 _), _, rfl⟩
theorem i_ScaleComplex {a b r A B : Nat} {w : World} (ha : cn .f32 a = A) (hb : cn .f32 b = B) :
    Calls Try.prog 100 #[.complex .f32 a b, .float .f32 r] w fun e w' => ∃ x y, e = .returned (.complex .f32 x y) ∧ Hid (cn .f32 x = fb .mul .f32 A r) ∧ Hid (cn .f32 y = fb .mul .f32 B r) ∧ ∃ m, w' = w.drewN m := by
  have H1 := hide (And.intro ha hb)
  clear ha hb
  go_enter Try.func100, Try.ntmps100
  go_wp2
  go_ret
  exact ⟨_, _, rfl, hide (scale_told H1.out.1 _), hide (scale_told H1.out.2 _), _, rfl⟩
theorem s_l01Scale {a b r A B : Nat} {w : World} (ha : cn .f32 a = A) (hb : cn .f32 b = B) :
    Calls Try.prog 151 #[.complex .f32 a b, .float .f32 r] w fun e w' => ∃ x y, e = .returned (.complex .f32 x y) ∧ Hid (cn .f32 x = fb .mul .f32 A r) ∧ Hid (cn .f32 y = fb .mul .f32 B r) ∧ ∃ m, w' = w.drewN m := by
  have H1 := hide (And.intro ha hb)
  clear ha hb
  go_enter Try.func151, Try.ntmps151
  go_wp2
  go_ret
  exact ⟨_, _, rfl, hide (scale_told H1.out.1 _), hide (scale_told H1.out.2 _), _, rfl⟩
def cfin (a b : Nat) : Bool := fin .f32 a && fin .f32 b
theorem i_IsFiniteComplex {a b : Nat} {w : World} : Calls Try.prog 101 #[.complex .f32 a b] w fun e w' => e = .returned (.bool (cfin a b)) ∧ ∃ m, w' = w.drewN m := by
  have hp : Hid (cfin a b = (fin .f32 a && fin .f32 b)) := hide rfl
  cases h1 : fin .f32 a <;> cases h2 : fin .f32 b
  all_goals
    rw [h1, h2] at hp
    go_enter Try.func101, Try.ntmps101
    go_wp2_with (first
      | (go_at_call 64; refine (i_IsFinite a _).mono ?_; rintro e w' ⟨rfl, m1, rfl⟩; rw [h1])
      | (go_at_call 64; refine (i_IsFinite b _).mono ?_; rintro e w' ⟨rfl, m2, rfl⟩; rw [h2]))
    go_ret
    exact ⟨ret_bool hp.out.symm, _, rfl⟩
theorem s_l01CFinite {a b : Nat} {w : World} : Calls Try.prog 138 #[.complex .f32 a b] w fun e w' => e = .returned (.bool (cfin a b)) ∧ ∃ m, w' = w.drewN m := by
  have hp : Hid (cfin a b = (fin .f32 a && fin .f32 b)) := hide rfl
  cases h1 : fin .f32 a <;> cases h2 : fin .f32 b
  all_goals
    rw [h1, h2] at hp
    go_enter Try.func138, Try.ntmps138
    go_wp2_with (first
      | (go_at_call 120; refine (s_l01Finite a _).mono ?_; rintro e w' ⟨rfl, m1, rfl⟩; rw [h1])
      | (go_at_call 120; refine (s_l01Finite b _).mono ?_; rintro e w' ⟨rfl, m2, rfl⟩; rw [h2]))
    go_ret
    exact ⟨ret_bool hp.out.symm, _, rfl⟩
end Go.Proofs.Yteabfkgbakoljaa

/-
  The point of the unit circle at some turns: both parts, at any number of 64 bits.
-/
namespace Go.Proofs.Yteabfkgbakoljaa
open Go.RowKit Mem Fl
set_option linter.unusedVariables false
set_option maxRecDepth 100000

/-- Both parts, told. -/
def ph1 (y : Nat) : Nat := if 4841369599423283200 ≤ y % 9223372036854775808 then 1065353216 else phRe y
def ph2 (y : Nat) : Nat := if 4841369599423283200 ≤ y % 9223372036854775808 then 0 else phIm y
theorem i_PhN {s : Bool} {r y : Nat} {w : World} (hy : y = FloatKind.f64.format.word s r) (hr : r < 9218868437227405312) : Calls Try.prog 85 #[.float .f64 y] w fun e w' => ∃ a b, e = .returned (.complex .f32 a b) ∧ Hid (cn .f32 a = ph1 y) ∧ Hid (cn .f32 b = ph2 y) ∧ ∃ m, w' = w.drewN m := by
  have hm := (word_mod (s := s) hr).1
  rw [← hy] at hm
  by_cases hb : 4841369599423283200 ≤ r
  · have h1 : ph1 y = 1065353216 := by unfold ph1; rw [hm, if_pos hb]
    have h2 : ph2 y = 0 := by unfold ph2; rw [hm, if_pos hb]
    refine (i_PhasorOf_big hy hb hr).mono ?_
    rintro e w' ⟨rfl, h3⟩
    exact ⟨_, _, rfl, hide (by rw [h1]; decide +kernel), hide (by rw [h2]; decide +kernel), h3⟩
  · have h1 : ph1 y = phRe y := by unfold ph1; rw [hm, if_neg hb]
    have h2 : ph2 y = phIm y := by unfold ph2; rw [hm, if_neg hb]
    refine (i_PhasorOf hy (by omega)).mono ?_
    rintro e w' ⟨x, z, rfl, h3, h4, h5⟩
    exact ⟨_, _, rfl, hide (by rw [h1]; exact h3.out), hide (by rw [h2]; exact h4.out), h5⟩
theorem s_PhN {s : Bool} {r y : Nat} {w : World} (hy : y = FloatKind.f64.format.word s r) (hr : r < 9218868437227405312) : Calls Try.prog 140 #[.float .f64 y] w fun e w' => ∃ a b, e = .returned (.complex .f32 a b) ∧ Hid (cn .f32 a = ph1 y) ∧ Hid (cn .f32 b = ph2 y) ∧ ∃ m, w' = w.drewN m := by
  have hm := (word_mod (s := s) hr).1
  rw [← hy] at hm
  by_cases hb : 4841369599423283200 ≤ r
  · have h1 : ph1 y = 1065353216 := by unfold ph1; rw [hm, if_pos hb]
    have h2 : ph2 y = 0 := by unfold ph2; rw [hm, if_pos hb]
    refine (s_l01Phasor_big hy hb hr).mono ?_
    rintro e w' ⟨rfl, h3⟩
    exact ⟨_, _, rfl, hide (by rw [h1]; decide +kernel), hide (by rw [h2]; decide +kernel), h3⟩
  · have h1 : ph1 y = phRe y := by unfold ph1; rw [hm, if_neg hb]
    have h2 : ph2 y = phIm y := by unfold ph2; rw [hm, if_neg hb]
    refine (s_l01Phasor hy (by omega)).mono ?_
    rintro e w' ⟨x, z, rfl, h3, h4, h5⟩
    exact ⟨_, _, rfl, hide (by rw [h1]; exact h3.out), hide (by rw [h2]; exact h4.out), h5⟩
theorem neg_parts (x : Nat) : Op.negFloat .f64 x % 9223372036854775808 = x % 9223372036854775808 ∧ Op.negFloat .f64 x / 9223372036854775808 % 2 = 1 - x / 9223372036854775808 % 2 := by
  have e : (2 : Nat) ^ 63 = 9223372036854775808 := by decide +kernel
  have hn : Op.negFloat .f64 x = x ^^^ 2 ^ 63 := rfl
  rw [hn, ← e]
  refine ⟨by rw [Nat.xor_mod_two_pow, Nat.mod_self, Nat.xor_zero], ?_⟩
  rw [Nat.xor_div_two_pow, Nat.div_self (Nat.two_pow_pos _)]
  generalize x / 2 ^ 63 = q
  have := Nat.xor_mod_two_pow (a := q) (b := 1) (n := 1)
  simp only [Nat.pow_one] at this
  rw [this]
  rcases Nat.mod_two_eq_zero_or_one q with h | h <;> rw [h] <;> rfl
theorem neg_lt {x : Nat} (h : x < 18446744073709551616) : Op.negFloat .f64 x < 18446744073709551616 := by
  have e : (2 : Nat) ^ 64 = 18446744073709551616 := by decide +kernel
  have hn : Op.negFloat .f64 x = x ^^^ 2 ^ 63 := rfl
  rw [hn, ← e]
  exact Nat.xor_lt_two_pow (by rw [e]; exact h) (Nat.pow_lt_pow_right (by omega) (by omega))
theorem neg_word {s : Bool} {r : Nat} (h : r < 9218868437227405312) : Op.negFloat .f64 (FloatKind.f64.format.word s r) = FloatKind.f64.format.word (!s) r := by
  have hsw : FloatKind.f64.format.signWeight = 9223372036854775808 := by decide +kernel
  obtain ⟨h1, h2⟩ := neg_parts (FloatKind.f64.format.word s r)
  have h3 := neg_lt (word_mod (s := s) h).2
  generalize Op.negFloat .f64 (FloatKind.f64.format.word s r) = N at *
  unfold Ieee.Format.word at *
  rw [hsw] at *
  cases s
  · rw [if_neg (by simp)] at h1 h2
    rw [if_pos (show (!false) = true from rfl)]
    omega
  · rw [if_pos rfl] at h1 h2
    rw [if_neg (by simp)]
    omega
end Go.Proofs.Yteabfkgbakoljaa
