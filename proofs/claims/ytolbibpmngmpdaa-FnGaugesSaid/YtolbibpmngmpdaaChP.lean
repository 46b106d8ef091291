/-
  The chances of a sequence test: the plain law.
-/
import Derived.Test.YtolbibpmngmpdaaSeqI
import Derived.Test.YtolbibpmngmpdaaMean
namespace Go.Proofs.Ytolbibpmngmpdaa
open Go.RowKit Mem Fl
set_option linter.unusedVariables false
set_option maxRecDepth 100000

def chA (sh : Nat) (c : List Nat) (j : Nat) (t : List Nat) : List Nat := t.set j (fb .add .f32 (t.getD j 0) (fb .mul .f32 (c.getD j 0) (fb .sub .f32 1065353216 sh)))
def chB (sh : Nat) (c : List Nat) (j : Nat) (t : List Nat) : List Nat := t.set (j + 1) (fb .add .f32 (t.getD (j + 1) 0) (fb .mul .f32 (c.getD j 0) sh))
def chNext (sh : Nat) (c : List Nat) : Nat → List Nat
  | 0 => List.replicate (c.length + 1) 0
  | j + 1 => chB sh c j (chA sh c j (chNext sh c j))
def chSum (up dn : Nat) (N : Int) (k : Nat) : Nat := fb .add .f32 (fb .mul .f32 (floatOfInt .f32 (k : Int)) up) (fb .mul .f32 (floatOfInt .f32 (N - (k : Int))) dn)
def eIx (e : Int) : Nat := if e = -1 then 0 else 1
def chPut (e : Int) (k : Nat) (p : List Nat × List Nat) : List Nat × List Nat := if e = 0 then p else (p.1.set k 0, p.2.set (eIx e) (fb .add .f32 (p.2.getD (eIx e) 0) (p.1.getD k 0)))
def chEnd (A B up dn : Nat) (N : Int) (nx o : List Nat) : Nat → List Nat × List Nat
  | 0 => (nx, o)
  | k + 1 => chPut (seqEnd A B (chSum up dn N k)) k (chEnd A B up dn N nx o k)
def chTot (c o : List Nat) : List Nat := o.set 2 (fb .add .f32 (o.getD 2 0) (fsum c))
def chSt (A B up dn sh : Nat) : Nat → List Nat × List Nat
  | 0 => ([1065353216], [0, 0, 0])
  | n + 1 => chEnd A B up dn ((n + 1 : Nat) : Int) (chNext sh (chSt A B up dn sh n).1 (chSt A B up dn sh n).1.length) (chTot (chSt A B up dn sh n).1 (chSt A B up dn sh n).2) ((chSt A B up dn sh n).1.length + 1)
theorem chNext_len (sh : Nat) (c : List Nat) : ∀ j, (chNext sh c j).length = c.length + 1
  | 0 => by simp [chNext]
  | j + 1 => by simp only [chNext, chA, chB, List.length_set]; exact chNext_len sh c j
theorem chPut_len {e : Int} {k : Nat} {p : List Nat × List Nat} : (chPut e k p).1.length = p.1.length ∧ (chPut e k p).2.length = p.2.length := by
  unfold chPut; split <;> simp
theorem chEnd_len (A B up dn : Nat) (N : Int) (nx o : List Nat) : ∀ k, (chEnd A B up dn N nx o k).1.length = nx.length ∧ (chEnd A B up dn N nx o k).2.length = o.length
  | 0 => ⟨rfl, rfl⟩
  | k + 1 => by
    have h := chEnd_len A B up dn N nx o k
    have h2 := @chPut_len (seqEnd A B (chSum up dn N k)) k (chEnd A B up dn N nx o k)
    simp only [chEnd]
    exact ⟨h2.1.trans h.1, h2.2.trans h.2⟩
theorem chSt_len (A B up dn sh : Nat) : ∀ n, (chSt A B up dn sh n).1.length = n + 1 ∧ (chSt A B up dn sh n).2.length = 3
  | 0 => ⟨rfl, rfl⟩
  | n + 1 => by
    have h := chSt_len A B up dn sh n
    have h2 := chEnd_len A B up dn ((n + 1 : Nat) : Int) (chNext sh (chSt A B up dn sh n).1 (chSt A B up dn sh n).1.length) (chTot (chSt A B up dn sh n).1 (chSt A B up dn sh n).2) ((chSt A B up dn sh n).1.length + 1)
    simp only [chSt]
    refine ⟨h2.1.trans ?_, h2.2.trans ?_⟩
    · rw [chNext_len, h.1]
    · unfold chTot; rw [List.length_set, h.2]
theorem am1 (a b o s : Nat) (w1 w2 w3 : World) : cn .f32 (flR .add .f32 a (flR .mul .f32 b (flR .sub .f32 o s w1) w2) w3) = fb .add .f32 (cn .f32 a) (fb .mul .f32 (cn .f32 b) (fb .sub .f32 o s)) := by
  rw [cn_flR, ← fb_cn, cn_flR, ← fb_cn .mul, cn_flR]
theorem am2 (a b s : Nat) (w2 w3 : World) : cn .f32 (flR .add .f32 a (flR .mul .f32 b s w2) w3) = fb .add .f32 (cn .f32 a) (fb .mul .f32 (cn .f32 b) s) := by
  rw [cn_flR, ← fb_cn, cn_flR, fb_cnl .mul .f32 b s]
theorem sm1 {K J u d up dn : Nat} (hu : cn .f32 u = up) (hd : cn .f32 d = dn) (w1 w2 w3 : World) : cn .f32 (flR .add .f32 (flR .mul .f32 K u w1) (flR .mul .f32 J d w2) w3) = fb .add .f32 (fb .mul .f32 K up) (fb .mul .f32 J dn) := by
  rw [cn_flR, ← fb_cn, cn_flR, cn_flR, ← hu, ← hd, fb_cnr, fb_cnr]
/-- The words of a told list. -/
theorem told_at {zs T : List Nat} {i z : Nat} (h : zs.map (cn .f32) = T) (hz : zs[i]? = some z) : cn .f32 z = T.getD i 0 := by
  rw [← h, List.getD_eq_getElem?_getD, List.getElem?_map, hz]; rfl
theorem told_set {zs T : List Nat} {i z y : Nat} (h : zs.map (cn .f32) = T) (hz : cn .f32 z = y) : (zs.set i z).map (cn .f32) = T.set i y := by rw [List.map_set, h, hz]
theorem told_lenC {zs T : List Nat} (h : zs.map (cn .f32) = T) : zs.length = T.length := by rw [← h, List.length_map]
theorem told_fsum {zs T : List Nat} (h : zs.map (cn .f32) = T) : fsum zs = fsum T := fsum_cn (by rw [← h, List.map_map]; congr 1; funext x; simp [cn_cn])
theorem told_rep (n : Nat) : (List.replicate n 0).map (cn .f32) = List.replicate n 0 := by rw [List.map_replicate, cn_zero]
theorem chPut_no {e : Int} {k : Nat} {p : List Nat × List Nat} (h : e = 0) : chPut e k p = p := if_pos h
theorem chPut_yes {e : Int} {k : Nat} {p : List Nat × List Nat} (h : e ≠ 0) : chPut e k p = (p.1.set k 0, p.2.set (eIx e) (fb .add .f32 (p.2.getD (eIx e) 0) (p.1.getD k 0))) := if_neg h
theorem seqEnd_cases (A B s : Nat) : seqEnd A B s = 0 ∨ seqEnd A B s = -1 ∨ seqEnd A B s = 1 := by
  unfold seqEnd
  split
  · exact .inr (.inl rfl)
  · split
    · exact .inr (.inr rfl)
    · exact .inl rfl
theorem i_ends_told {a b c d s A B S : Nat} {E : Int} {w : World} (hs : cn .f32 s = S) (ha : cn .f32 a = A) (hb : cn .f32 b = B) (hE : seqEnd A B S = E) : Calls Try.prog 71 #[.agg (sqA a b c d), .float .f32 s] w fun e w' => e = .returned (.int .i64 E) ∧ Below w.heap.size w w' := by
  refine i_ends.mono ?_
  rintro e w' ⟨rfl, h⟩
  exact ⟨by rw [← hE, ← hs, ← ha, ← hb, seqEnd_cn], h⟩
theorem one_told : [1065353216].map (cn .f32) = [1065353216] := by decide +kernel
theorem zero3_told : [0, 0, 0].map (cn .f32) = [0, 0, 0] := by decide +kernel
theorem chSum_told {u d up dn j k : Nat} (hu : cn .f32 u = up) (hd : cn .f32 d = dn) (w1 w2 w3 : World) : cn .f32 (flR .add .f32 (flR .mul .f32 (floatOfInt .f32 (j : Int)) u w1) (flR .mul .f32 (floatOfInt .f32 ((k : Int) + 1 - (j : Int))) d w2) w3) = chSum up dn ((k + 1 : Nat) : Int) j := by
  have e : ((k + 1 : Nat) : Int) - (j : Int) = (k : Int) + 1 - (j : Int) := by omega
  unfold chSum
  rw [e]
  exact sm1 hu hd w1 w2 w3
theorem getD_set_ne {t : List Nat} {i j y : Nat} (h : i ≠ j) : (t.set i y).getD j 0 = t.getD j 0 := by
  rw [List.getD_eq_getElem?_getD, List.getD_eq_getElem?_getD, List.getElem?_set_ne h]
theorem next_told {ns T C : List Nat} {sh j x y y2 z1 z2 : Nat} (hns : ns.map (cn .f32) = T) (hz1 : cn .f32 z1 = fb .add .f32 (cn .f32 y) (fb .mul .f32 (cn .f32 x) (fb .sub .f32 1065353216 sh))) (hz2 : cn .f32 z2 = fb .add .f32 (cn .f32 y2) (fb .mul .f32 (cn .f32 x) sh))
    (hy : cn .f32 y = T.getD j 0) (hy2 : cn .f32 y2 = T.getD (j + 1) 0) (hx : cn .f32 x = C.getD j 0) : ((ns.set j z1).set (j + 1) z2).map (cn .f32) = chB sh C j (chA sh C j T) := by
  have h1 : (ns.set j z1).map (cn .f32) = chA sh C j T := told_set hns (hz1.trans (by rw [hy, hx]))
  refine told_set h1 (hz2.trans ?_)
  rw [hy2, hx]
  unfold chA
  rw [getD_set_ne (by omega)]
theorem put_told {ns os N O : List Nat} {E : Int} {j x o z : Nat} (hE : E ≠ 0) (hns : ns.map (cn .f32) = N) (hos : os.map (cn .f32) = O) (hx : cn .f32 x = N.getD j 0) (ho : cn .f32 o = O.getD (eIx E) 0) (hz : cn .f32 z = fb .add .f32 o x) :
    (ns.set j 0).map (cn .f32) = (chPut E j (N, O)).1 ∧ (os.set (eIx E) z).map (cn .f32) = (chPut E j (N, O)).2 := by
  rw [chPut_yes hE]
  exact ⟨told_set hns cn_zero, told_set hos (hz.trans (by rw [← fb_cn, hx, ho]))⟩
theorem put_told_m {ns os N O : List Nat} {j x o z : Nat} (hns : ns.map (cn .f32) = N) (hos : os.map (cn .f32) = O) (hx : cn .f32 x = N.getD j 0) (ho : cn .f32 o = O.getD 0 0) (hz : cn .f32 z = fb .add .f32 o x) :
    (ns.set j 0).map (cn .f32) = (chPut (-1) j (N, O)).1 ∧ (os.set 0 z).map (cn .f32) = (chPut (-1) j (N, O)).2 := put_told (E := -1) (by decide) hns hos hx ho hz
theorem put_told_p {ns os N O : List Nat} {j x o z : Nat} (hns : ns.map (cn .f32) = N) (hos : os.map (cn .f32) = O) (hx : cn .f32 x = N.getD j 0) (ho : cn .f32 o = O.getD 1 0) (hz : cn .f32 z = fb .add .f32 o x) :
    (ns.set j 0).map (cn .f32) = (chPut 1 j (N, O)).1 ∧ (os.set 1 z).map (cn .f32) = (chPut 1 j (N, O)).2 := put_told (E := 1) (by decide) hns hos hx ho hz
theorem chEnd_at {A B up dn : Nat} {N E : Int} {nx o : List Nat} {k : Nat} (h : seqEnd A B (chSum up dn N k) = E) : chEnd A B up dn N nx o (k + 1) = chPut E k ((chEnd A B up dn N nx o k).1, (chEnd A B up dn N nx o k).2) := by
  rw [← h]; rfl
theorem chSt_succ (A B up dn sh n : Nat) : chSt A B up dn sh (n + 1) = chEnd A B up dn ((n + 1 : Nat) : Int) (chNext sh (chSt A B up dn sh n).1 (chSt A B up dn sh n).1.length) (chTot (chSt A B up dn sh n).1 (chSt A B up dn sh n).2) (n + 1 + 1) := by
  have e : (chSt A B up dn sh n).1.length + 1 = n + 1 + 1 := by rw [(chSt_len A B up dn sh n).1]
  rw [← e]; rfl
theorem allfin_toldC {zs T : List Nat} (h : zs.map (cn .f32) = T) : zs.all (fin .f32) = T.all (fin .f32) := by
  rw [← h, List.all_map]
  congr 1
  funext x
  exact (fin_cn .f32 x).symm
/-- Is a number a share. -/
def shB (x : Nat) : Bool := (FloatKind.f32.format.order x 0 == some .gt || FloatKind.f32.format.order x 0 == some .eq) && (FloatKind.f32.format.order x 1065353216 == some .lt || FloatKind.f32.format.order x 1065353216 == some .eq)
theorem i_isShare {x : Nat} {w : World} : Calls Try.prog 55 #[.float .f32 x] w fun e w' => e = .returned (.bool (shB x)) ∧ w = w' := by
  have hp : Hid (shB x = ((FloatKind.f32.format.order x 0 == some .gt || FloatKind.f32.format.order x 0 == some .eq) && (FloatKind.f32.format.order x 1065353216 == some .lt || FloatKind.f32.format.order x 1065353216 == some .eq))) := hide rfl
  cases h1 : (FloatKind.f32.format.order x 0 == some .gt || FloatKind.f32.format.order x 0 == some .eq) <;> cases h2 : (FloatKind.f32.format.order x 1065353216 == some .lt || FloatKind.f32.format.order x 1065353216 == some .eq)
  all_goals
    rw [h1, h2] at hp
    go_enter Try.func55, Try.ntmps55
    go_wp2
    go_ret
    exact ⟨ret_bool hp.out.symm, rfl⟩
def chOk (sh lo hi a b : Nat) (m : Int) : Bool := seqOk lo hi a b && (shB sh && inB m 0 64)
def chV (sh lo hi a b : Nat) (m : Int) : List Nat := (chSt (bars1 a b) (bars2 a b) (sUp lo hi) (sDn lo hi) sh m.toNat).2
def chO (sh lo hi a b : Nat) (m : Int) : Bool := chOk sh lo hi a b m && (chV sh lo hi a b m).all (fin .f32)
def chR (sh lo hi a b : Nat) (m : Int) : List Nat := if chO sh lo hi a b m = true then chV sh lo hi a b m else []
/-- What chances look like. -/
def ChRd (base : Nat) (sh lo hi a b : Nat) (m : Int) (e : Ending) (w' : World) : Prop := ∃ v zs, e = .returned (.tuple #[v, .bool (chO sh lo hi a b m)]) ∧ w'.ownsRow base 27 1 v zs.length (fl .f32 zs) ∧ zs.map (cn .f32) = chR sh lo hi a b m
theorem ChRd.no {base sh lo hi a b : Nat} {m : Int} {w' : World} (h : chO sh lo hi a b m = false) : ChRd base sh lo hi a b m (.returned (.tuple #[.slice none 0 0, .bool false])) w' := by
  unfold ChRd chR; rw [h, if_neg (by simp)]; exact ⟨_, [], rfl, own_nil _ _ _ _, rfl⟩
theorem ChRd.yes {base sh lo hi a b : Nat} {m : Int} {w' : World} {v : Value} {zs : List Nat} {n : Nat} (h : chO sh lo hi a b m = true) (hn : n = zs.length) (ho : w'.ownsRow base 27 1 v n (fl .f32 zs)) (hz : zs.map (cn .f32) = chV sh lo hi a b m) : ChRd base sh lo hi a b m (.returned (.tuple #[v, .bool true])) w' := by
  subst hn
  unfold ChRd chR; rw [h, if_pos rfl]; exact ⟨_, zs, rfl, ho, hz⟩
end Go.Proofs.Ytolbibpmngmpdaa
