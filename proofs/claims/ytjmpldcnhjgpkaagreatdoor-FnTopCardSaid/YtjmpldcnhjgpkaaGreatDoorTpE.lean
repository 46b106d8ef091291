/-
  What the drawn desks are, for the lines of the law.
-/
import Derived.Test.YtjmpldcnhjgpkaaGreatDoorR8D
import Derived.Test.YtjmpldcnhjgpkaaGreatDoorR8G
import Derived.Test.YtjmpldcnhjgpkaaGreatDoorReadP
namespace Go.Proofs.YtjmpldcnhjgpkaaGreatDoor
open Go.RowKit Mem Fl
set_option linter.unusedVariables false
set_option maxRecDepth 100000

theorem r8h_pos : ∀ j : Nat, j < 24 → pos (r8h j) = true := by decide +kernel
theorem r8h_law : ∀ j : Nat, j < 32 → geF (r8h j) 981668463 = true ∧ leF (r8h j) 1148846080 = true := by decide +kernel
theorem r8q_law : ∀ j : Nat, j < 11 → geF (r8q j) 981668463 = true ∧ leF (r8q j) 1148846080 = true := by decide +kernel
def r8x (p : Nat) : Nat := fb .quo .f32 (floatOfInt .f32 ((1 : Int) + (p : Int))) 1082130432
theorem r8x_tab : ∀ p : Nat, p < 16 → isNan .f32 (r8x p) = false ∧ fin .f32 (r8x p) = true ∧ r8x p < 4294967296 ∧ cn .f32 (r8x p) = r8x p ∧ 1 / 4 ≤ fv .f32 (r8x p) ∧ fv .f32 (r8x p) ≤ 4 ∧ leastFN (r8x p) = true := by decide +kernel
theorem R8L.at {l : List (Nat × Bool)} (h : R8L l) {p : Nat × Bool} (hp : p ∈ l) : fin .f32 p.1 = true ∧ p.1 < 4294967296 ∧ cn .f32 p.1 = p.1 ∧ 1 / 2 ≤ fv .f32 p.1 ∧ fv .f32 p.1 ≤ 12 ∧ pos p.1 = true := by
  obtain ⟨j, hj, e⟩ := h p hp
  have t := r8h_tab j (by omega)
  rw [e]
  exact ⟨t.2.1, t.2.2.1, t.2.2.2.1, t.2.2.2.2.1, r8h_12 j hj, r8h_pos j hj⟩
theorem R8L.ok {l : List (Nat × Bool)} (h : R8L l) (h1 : 1 ≤ l.length) (h8 : l.length ≤ 8) : livesOk l = true := by
  unfold livesOk
  rw [decide_eq_true h1, decide_eq_true (by omega), Bool.true_and, Bool.true_and, List.all_eq_true]
  exact fun p hp => (h.at hp).2.2.2.2.2
theorem R8L.sum {l : List (Nat × Bool)} (h : R8L l) (h8 : l.length ≤ 8) : ∀ k, k ≤ l.length → fin .f32 (lfSum l k) = true ∧ -1 ≤ fv .f32 (lfSum l k) ∧ fv .f32 (lfSum l k) ≤ 13 * (k : Rat)
  | 0, _ => by
    have e : lfSum l 0 = 0 := rfl
    rw [e]
    exact ⟨by decide +kernel, by decide +kernel, by decide +kernel⟩
  | k + 1, hk => by
    obtain ⟨a, b, c⟩ := h.sum h8 k (by omega)
    have hx : l[k]? = some l[k] := List.getElem?_eq_getElem (by omega)
    have e : lfSum l (k + 1) = fb .add .f32 (lfSum l k) (l.getD k (0, false)).1 := rfl
    have e2 : l.getD k (0, false) = l[k] := by rw [List.getD_eq_getElem?_getD, hx]; rfl
    rw [e, e2]
    obtain ⟨p1, _, _, p2, p3, _⟩ := h.at (List.getElem_mem (by omega) : l[k] ∈ l)
    have hb := Ex.big32
    have hk8 : (k : Rat) ≤ 7 := by have := nat_le.2 (show k ≤ 7 by omega); exact this
    have ek : ((k + 1 : Nat) : Rat) = (k : Rat) + 1 := by rw [Rat.natCast_add]; rfl
    obtain ⟨x, hx2⟩ : ∃ x, l[k].1 = x := ⟨_, rfl⟩
    obtain ⟨s, hs⟩ : ∃ s, lfSum l k = s := ⟨_, rfl⟩
    rw [hx2] at p1 p2 p3 ⊢
    rw [hs] at a b c ⊢
    obtain ⟨r1, r2⟩ := re_add a p1 (by grind) (by grind)
    have r3 := r2 200 (by grind) (by grind)
    rw [Ex.u32] at r3
    rw [ek]
    exact ⟨r1, by grind, by grind⟩
theorem P8.rng {m : Nat} {zs : List Nat} (h : P8 m zs) : ∀ x ∈ zs, x < 4294967296 ∧ cn .f32 x = x := by
  intro x hx
  obtain ⟨t, ht⟩ := List.mem_iff_getElem?.1 hx
  rcases (h t x ht).1 with rfl | ⟨j, hj, rfl⟩
  · exact ⟨by decide, by decide +kernel⟩
  · have := r8r_tab j hj; exact ⟨this.2.2.1, this.2.2.2.1⟩
theorem R8D.good {D : Dk} (h : R8D D) : Good D := by
  obtain ⟨hl, l1, l8, ⟨a, ha, e1⟩, ⟨i, hi, e2⟩, ⟨j, hj, e3⟩, ⟨m, m1, m4, e4, e5, hp⟩, ⟨pa, pb, h1, h2, h3, e6, e7⟩⟩ := h
  have ti := r8q_tab i hi
  have tj := r8h_tab j hj
  refine ⟨hl.ok l1 l8, l8, fun p hp => (hl.at hp).2.1, ?_, by rw [e2]; exact ti.2.2.1, by rw [e3]; exact tj.2.2.1, ?_, fun x hx => (hp.rng x hx).1, ?_⟩
  · unfold lawOk inB
    rw [e1, e2, e3, (r8q_law i hi).1, (r8q_law i hi).2, (r8h_law j hj).1, (r8h_law j hj).2]
    simp; omega
  · rw [e4]; exact cw_ok (hp.cw m1 m4 e5)
  · unfold planOkT inB
    rw [e6, e7]
    simp; omega
theorem R8D.law {D : Dk} (h : R8D D) {p : Nat} (hp : p < 16) : LawD D.kd D.sh D.sc (r8x p) := by
  obtain ⟨a, ha, e1⟩ := h.kd
  obtain ⟨i, hi, e2⟩ := h.sh
  obtain ⟨j, hj, e3⟩ := h.sc
  have ti := r8q_tab i hi
  have tj := r8h_tab j hj
  have tp := r8x_tab p hp
  rw [e1, e2, e3]
  exact ⟨by omega, by omega, ti.2.1, ti.2.2.2.2.1, ti.2.2.2.2.2, tj.2.1, tj.2.2.2.2.1, tj.2.2.2.2.2, tp.2.1, tp.2.2.2.2.1, tp.2.2.2.2.2.1⟩
theorem Good.ok {D : Dk} (h : Good D) : dkOk D = true := by
  unfold dkOk deskOk
  rw [h.lv, h.kw, h.ch, show planOk D.sz D.ac = true from h.pl]
  rfl
end Go.Proofs.YtjmpldcnhjgpkaaGreatDoor

/-
  The script of the law: its lines, what each does, and what it outputs.
-/
namespace Go.Proofs.YtjmpldcnhjgpkaaGreatDoor
open Go.RowKit Mem Fl Go.Shelf
set_option linter.unusedVariables false
set_option maxRecDepth 100000

def yesT (ok : Bool) (s : ByteArray) : ByteArray := if ok = true then s else ⟨#[110, 111]⟩
theorem Line.maybe {D : Dk} {line t : ByteArray} {P : List ByteArray} {ok : Bool} (h : Line D P D t ok true) (hl : line.size ≤ 1048576) (hP : splitS line 32 = P) (hok : dkOk D = true) : Cmd D line D (yesT ok t) := by
  cases ok with
  | true => exact h.yes hl hP hok
  | false => exact h.no hl hP
/-- The desk at the beginning. -/
def D0 : Dk := ⟨desk0L, 0, 1065353216, 1082130432, 2, desk0R, 2, 0⟩
def D1 (D : Dk) : Dk := { D0 with lv := D.lv }
def D2 (D : Dk) : Dk := { D1 D with kd := D.kd, sh := D.sh, sc := D.sc }
def D3 (D : Dk) : Dk := { D2 D with st := D.st, rs := D.rs }
def Dz (D : Dk) : Dk := { D with lv := srt D.lv (D.lv.length - 1) }
theorem d0_ok : lawOk D0.kd D0.sh D0.sc = true ∧ chainOk D0.st D0.rs = true ∧ planOk D0.sz D0.ac = true ∧ dkOk D0 = true := by decide +kernel
theorem D1.ok {D : Dk} (h : Good D) : dkOk (D1 D) = true := by
  unfold dkOk deskOk
  rw [show livesOk (D1 D).lv = true from h.lv, show lawOk (D1 D).kd (D1 D).sh (D1 D).sc = true from d0_ok.1, show chainOk (D1 D).st (D1 D).rs = true from d0_ok.2.1, show planOk (D1 D).sz (D1 D).ac = true from d0_ok.2.2.1]; rfl
theorem D2.ok {D : Dk} (h : Good D) : dkOk (D2 D) = true := by
  unfold dkOk deskOk
  rw [show livesOk (D2 D).lv = true from h.lv, show lawOk (D2 D).kd (D2 D).sh (D2 D).sc = true from h.kw, show chainOk (D2 D).st (D2 D).rs = true from d0_ok.2.1, show planOk (D2 D).sz (D2 D).ac = true from d0_ok.2.2.1]; rfl
theorem D3.ok {D : Dk} (h : Good D) : dkOk (D3 D) = true := by
  unfold dkOk deskOk
  rw [show livesOk (D3 D).lv = true from h.lv, show lawOk (D3 D).kd (D3 D).sh (D3 D).sc = true from h.kw, show chainOk (D3 D).st (D3 D).rs = true from h.ch, show planOk (D3 D).sz (D3 D).ac = true from d0_ok.2.2.1]; rfl
theorem srt_ok {l : List (Nat × Bool)} (h : livesOk l = true) : livesOk (srt l (l.length - 1)) = true := by
  have hr := livesOk_rng h
  unfold livesOk at h ⊢
  rw [srt_len]
  simp only [Bool.and_eq_true, List.all_eq_true] at h ⊢
  exact ⟨h.1, h.2.1, fun p hp => h.2.2 p (srt_mem l _ (by omega) p hp)⟩
theorem Dz.ok {D : Dk} (h : Good D) : dkOk (Dz D) = true := by
  unfold dkOk deskOk
  rw [show livesOk (Dz D).lv = true from srt_ok h.lv, show lawOk (Dz D).kd (Dz D).sh (Dz D).sc = true from h.kw, show chainOk (Dz D).st (Dz D).rs = true from h.ch, show planOk (Dz D).sz (Dz D).ac = true from h.pl]; rfl
/-- The lines of the script. -/
def linesB (a b c e f bt : ByteArray) : List ByteArray := [(⟨#[108, 105, 118, 101, 115, 32]⟩ : ByteArray) ++ a, (⟨#[108, 97, 119, 32]⟩ : ByteArray) ++ b, (⟨#[99, 104, 97, 105, 110, 32]⟩ : ByteArray) ++ c, (⟨#[112, 108, 97, 110, 32]⟩ : ByteArray) ++ e, (⟨#[108, 105, 118, 101, 115]⟩ : ByteArray), (⟨#[108, 97, 119]⟩ : ByteArray), (⟨#[99, 104, 97, 105, 110]⟩ : ByteArray), (⟨#[112, 108, 97, 110]⟩ : ByteArray), (⟨#[102, 97, 105, 108, 101, 100]⟩ : ByteArray), (⟨#[116, 111, 116, 97, 108]⟩ : ByteArray), (⟨#[116, 111, 116, 97, 108, 115]⟩ : ByteArray), (⟨#[116, 97, 98, 108, 101]⟩ : ByteArray), (⟨#[115, 117, 114, 118, 105, 118, 101, 115, 32]⟩ : ByteArray) ++ f, (⟨#[98, 97, 108, 97, 110, 99, 101]⟩ : ByteArray), (⟨#[97, 99, 99, 101, 112, 116, 32]⟩ : ByteArray) ++ bt, (⟨#[108, 111, 111, 107, 115, 32]⟩ : ByteArray) ++ bt, (⟨#[111, 114, 100, 101, 114]⟩ : ByteArray)]
def scriptB (a b c e f bt : ByteArray) : ByteArray :=
  ((((((((((((((⟨#[108, 105, 118, 101, 115, 32]⟩ : ByteArray) ++ a) ++ (⟨#[10, 108, 97, 119, 32]⟩ : ByteArray)) ++ b) ++ (⟨#[10, 99, 104, 97, 105, 110, 32]⟩ : ByteArray)) ++ c) ++ (⟨#[10, 112, 108, 97, 110, 32]⟩ : ByteArray)) ++ e) ++ (⟨#[10, 108, 105, 118, 101, 115, 10, 108, 97, 119, 10, 99, 104, 97, 105, 110, 10, 112, 108, 97, 110, 10, 102, 97, 105, 108, 101, 100, 10, 116, 111, 116, 97, 108, 10, 116, 111, 116, 97, 108, 115, 10, 116, 97, 98, 108, 101, 10, 115, 117, 114, 118, 105, 118, 101, 115, 32]⟩ : ByteArray)) ++ f) ++ (⟨#[10, 98, 97, 108, 97, 110, 99, 101, 10, 97, 99, 99, 101, 112, 116, 32]⟩ : ByteArray)) ++ bt) ++ (⟨#[10, 108, 111, 111, 107, 115, 32]⟩ : ByteArray)) ++ bt) ++ (⟨#[10, 111, 114, 100, 101, 114, 10]⟩ : ByteArray)
theorem lit_no {l : List UInt8} (h : (10 : UInt8) ∉ l) : (10 : UInt8) ∉ (⟨l.toArray⟩ : ByteArray).data.toList := by rw [List.toList_toArray]; exact h
theorem app_no {x y : ByteArray} {m : UInt8} (hx : m ∉ x.data.toList) (hy : m ∉ y.data.toList) : m ∉ (x ++ y).data.toList := by
  rw [ByteArray.data_append, Array.toList_append]
  intro h
  rcases List.mem_append.1 h with h | h
  · exact hx h
  · exact hy h
theorem script_split {a b c e f bt : ByteArray} (ha : hiB a) (hb : hiB b) (hc : hiB c) (he : hiB e) (hf : hiB f) (hbt : (10 : UInt8) ∉ bt.data.toList) : splitS (scriptB a b c e f bt) 10 = linesB a b c e f bt ++ [(⟨#[]⟩ : ByteArray)] := by
  have hall : ∀ q ∈ linesB a b c e f bt ++ [(⟨#[]⟩ : ByteArray)], (10 : UInt8) ∉ q.data.toList := by
    intro q hq
    unfold linesB at hq
    simp only [List.cons_append, List.nil_append, List.mem_cons, List.not_mem_nil, or_false] at hq
    rcases hq with rfl | rfl | rfl | rfl | rfl | rfl | rfl | rfl | rfl | rfl | rfl | rfl | rfl | rfl | rfl | rfl | rfl | rfl
    · exact app_no (by decide) (ha.no (by decide))
    · exact app_no (by decide) (hb.no (by decide))
    · exact app_no (by decide) (hc.no (by decide))
    · exact app_no (by decide) (he.no (by decide))
    · decide
    · decide
    · decide
    · decide
    · decide
    · decide
    · decide
    · decide
    · exact app_no (by decide) (hf.no (by decide))
    · decide
    · exact app_no (by decide) hbt
    · exact app_no (by decide) hbt
    · decide
    · decide
  have h := split_join (m := 10) ((linesB a b c e f bt ++ [(⟨#[]⟩ : ByteArray)]).tail) ((⟨#[108, 105, 118, 101, 115, 32]⟩ : ByteArray) ++ a) (fun q hq => hall q (by unfold linesB at hq ⊢; exact hq))
  have e1 : (⟨(Lib.join ((((⟨#[108, 105, 118, 101, 115, 32]⟩ : ByteArray) ++ a) :: (linesB a b c e f bt ++ [(⟨#[]⟩ : ByteArray)]).tail).map (·.data.toList)) [10]).toArray⟩ : ByteArray) = scriptB a b c e f bt := by
    apply ba_ext
    unfold scriptB linesB
    simp [Lib.join_cons, Lib.joinTail]
  rw [e1] at h
  rw [h]
  rfl
/-- The states of the script. -/
def stN (D : Dk) (k : Nat) : Dk := if k = 0 then D0 else if k = 1 then D1 D else if k = 2 then D2 D else if k = 3 then D3 D else if k ≤ 16 then D else Dz D
/-- What the lines output. -/
def textL (D : Dk) (x : Nat) (lot bad : Int) (n : Nat) : List ByteArray :=
  [⟨#[111, 107]⟩, ⟨#[111, 107]⟩, ⟨#[111, 107]⟩, ⟨#[111, 107]⟩, livesB D.lv, headB D.kd (joinedB (tx [D.sh, D.sc])), headB D.st (joinedB (tx D.rs)), planS D.sz D.ac, numS (cntF D.lv : Int), numT [lfSum D.lv D.lv.length], ⟨#[119, 104, 97, 116]⟩, tabT D.lv, numT [survN D.kd D.sh D.sc x], numT (balL D.rs n),
   yesT (twoOk (redA (accI lot bad D.sz D.ac) (chI lot D.sz)) (redB (accI lot bad D.sz D.ac) (chI lot D.sz))) (listS [redA (accI lot bad D.sz D.ac) (chI lot D.sz), redB (accI lot bad D.sz D.ac) (chI lot D.sz)]),
   yesT (twoOk (redA (mlT lot bad D.ac D.sz.toNat) (chI lot bad)) (redB (mlT lot bad D.ac D.sz.toNat) (chI lot bad))) (listS [redA (mlT lot bad D.ac D.sz.toNat) (chI lot bad), redB (mlT lot bad D.ac D.sz.toNat) (chI lot bad)]), ⟨#[111, 107]⟩]
def textN (D : Dk) (x : Nat) (lot bad : Int) (n : Nat) (k : Nat) : ByteArray := (textL D x lot bad n).getD k ⟨#[]⟩
theorem word1 {s : ByteArray} (h : (32 : UInt8) ∉ s.data.toList) : splitS s 32 = [s] := splitS_miss (fun i hi => h (List.mem_of_getElem? hi))
theorem app_sz {a b : ByteArray} {k m : Nat} (ha : a.size ≤ k) (hb : b.size ≤ m) : (a ++ b).size ≤ k + m := by rw [ByteArray.size_append]; omega
theorem bkO_wf (M : List (List Nat)) (n : Nat) : ∀ m, ∀ x ∈ bkO M n m, Wf .f32 x
  | 0, x, hx => by
    unfold bkO at hx
    have := (List.mem_replicate.1 hx).2
    subst this
    show (0 : Nat) < _; decide
  | m + 1, x, hx => by
    unfold bkO at hx
    rcases List.mem_or_eq_of_mem_set hx with h | h
    · exact bkO_wf M n m x h
    · subst h; exact wf_fb _ _ _ _
theorem balL_wf {n : Nat} {ws : List Nat} (h : Cw n ws) : ∀ x ∈ balL ws n, Wf .f32 x := bkO_wf _ _ _
/-- Each line does what the law says. -/
theorem script_cmds {D : Dk} {p : Nat} {lot bad : Int} {n : Nat} (h8 : R8D D) (hp : p < 16) (hst : D.st = (n : Int)) (hrs : D.rs.length = n * n) (hcw : Cw n D.rs) (hl : lotOk lot D.sz D.ac = true) (h0 : 0 ≤ bad) (hbl : bad ≤ lot) :
    ∀ k x, (linesB (livesB D.lv) (headB D.kd (joinedB (tx [D.sh, D.sc]))) (headB D.st (joinedB (tx D.rs))) (planS D.sz D.ac) (numT [r8x p]) ((numS lot ++ ⟨#[32]⟩) ++ numS bad))[k]? = some x → Cmd (stN D k) x (stN D (k + 1)) (textN D (r8x p) lot bad n k) := by
  have hG := h8.good
  have hok := hG.ok
  have hr := lotOk_rng hl
  have l8 := h8.l8
  have l1 := h8.l1
  have h2 : ∀ q ∈ D.lv, q.1 < 4294967296 ∧ cn .f32 q.1 = q.1 := fun q hq => ⟨(h8.lv.at hq).2.1, (h8.lv.at hq).2.2.1⟩
  obtain ⟨a, ha, ea⟩ := h8.kd
  obtain ⟨i, hi, ei⟩ := h8.sh
  obtain ⟨j, hj, ej⟩ := h8.sc
  obtain ⟨m, m1, m4, em, emm, hP8⟩ := h8.ch
  obtain ⟨pa, pb, b1, b2, b3, eb1, eb2⟩ := h8.pl
  have ti := r8q_tab i hi
  have tj := r8h_tab j hj
  have tp := r8x_tab p hp
  have hn16 : D.rs.length ≤ 16 := by rw [emm]; exact Nat.mul_le_mul m4 m4
  have hrne : D.rs ≠ [] := by intro e; rw [e] at emm; simp at emm; have : 1 ≤ m * m := Nat.mul_le_mul m1 m1; omega
  have hsum := fun k hk => (h8.lv.sum l8 k hk).1
  have sA : (livesB D.lv).size ≤ 100 := by have := livesB_sz D.lv; omega
  have sB : (headB D.kd (joinedB (tx [D.sh, D.sc]))).size ≤ 100 := by have := headB_sz (n := D.kd) (xs := [D.sh, D.sc]) (by omega); simp at this; omega
  have sC : (headB D.st (joinedB (tx D.rs))).size ≤ 200 := by have := headB_sz (n := D.st) (xs := D.rs) (by omega); omega
  have sE : (planS D.sz D.ac).size ≤ 100 := by have := planS_sz (a := D.sz) (b := D.ac) (by omega) (by omega); omega
  have sF : (numT [r8x p]).size ≤ 100 := by have := tx_sz [r8x p]; unfold numT; simp at this; omega
  have sL : (numS lot).size ≤ 17 := numS_sz (by omega)
  have sM : (numS bad).size ≤ 17 := numS_sz (by omega)
  intro k x hx
  unfold linesB at hx
  match k, hx with
  | 0, hx =>
    injection hx with hx
    subst hx
    have hP : splitS ((⟨#[108, 105, 118, 101, 115, 32]⟩ : ByteArray) ++ (livesB D.lv)) 32 = [⟨#[108, 105, 118, 101, 115]⟩, (livesB D.lv)] := by
      have := split2 (a := (⟨#[108, 105, 118, 101, 115]⟩ : ByteArray)) (b := (livesB D.lv)) (m := 32) (by decide) ((livesB_hi _).no (by decide))
      exact this
    exact Line.yes (Line.two (fun W lo g hA hGl => wt_lives hA hGl (by omega) (livesV_text hG.lv h2) l1 (by omega))) (by have := app_sz (k := 20) (a := (⟨#[108, 105, 118, 101, 115, 32]⟩ : ByteArray)) (by decide) sA; omega) hP (D1.ok hG)
  | 1, hx =>
    injection hx with hx
    subst hx
    have hP : splitS ((⟨#[108, 97, 119, 32]⟩ : ByteArray) ++ (headB D.kd (joinedB (tx [D.sh, D.sc])))) 32 = [⟨#[108, 97, 119]⟩, (headB D.kd (joinedB (tx [D.sh, D.sc])))] := by
      have := split2 (a := (⟨#[108, 97, 119]⟩ : ByteArray)) (b := (headB D.kd (joinedB (tx [D.sh, D.sc])))) (m := 32) (by decide) ((headB_hi _ _).no (by decide))
      exact this
    exact Line.yes (D := D1 D) (D' := D2 D) (Line.two (fun W lo g hA hGl => wt_law hA hGl (by omega) (lawV_text hG.kw (by omega) ⟨by rw [ei]; exact ti.2.2.1, by rw [ei]; exact ti.2.2.2.1⟩ ⟨by rw [ej]; exact tj.2.2.1, by rw [ej]; exact tj.2.2.2.1⟩))) (by have := app_sz (k := 20) (a := (⟨#[108, 97, 119, 32]⟩ : ByteArray)) (by decide) sB; omega) hP (D2.ok hG)
  | 2, hx =>
    injection hx with hx
    subst hx
    have hP : splitS ((⟨#[99, 104, 97, 105, 110, 32]⟩ : ByteArray) ++ (headB D.st (joinedB (tx D.rs)))) 32 = [⟨#[99, 104, 97, 105, 110]⟩, (headB D.st (joinedB (tx D.rs)))] := by
      have := split2 (a := (⟨#[99, 104, 97, 105, 110]⟩ : ByteArray)) (b := (headB D.st (joinedB (tx D.rs)))) (m := 32) (by decide) ((headB_hi _ _).no (by decide))
      exact this
    exact Line.yes (D := D2 D) (D' := D3 D) (Line.two (fun W lo g hA hGl => wt_chain hA hGl (by omega) (chainV_text hG.ch (by omega) hP8.rng hrne (by omega)).1 (chainV_text hG.ch (by omega) hP8.rng hrne (by omega)).2 (by rw [emm]; exact Nat.mul_le_mul m1 m1) (by omega))) (by have := app_sz (k := 20) (a := (⟨#[99, 104, 97, 105, 110, 32]⟩ : ByteArray)) (by decide) sC; omega) hP (D3.ok hG)
  | 3, hx =>
    injection hx with hx
    subst hx
    have hP : splitS ((⟨#[112, 108, 97, 110, 32]⟩ : ByteArray) ++ (planS D.sz D.ac)) 32 = [⟨#[112, 108, 97, 110]⟩, (planS D.sz D.ac)] := by
      have := split2 (a := (⟨#[112, 108, 97, 110]⟩ : ByteArray)) (b := (planS D.sz D.ac)) (m := 32) (by decide) ((planS_hi _ _).no (by decide))
      exact this
    exact Line.yes (D := D3 D) (D' := D) (Line.two (fun W lo g hA hGl => wt_plan (D := D3 D) hA hGl (by omega) (planV_text hG.pl (by omega) (by omega)))) (by have := app_sz (k := 20) (a := (⟨#[112, 108, 97, 110, 32]⟩ : ByteArray)) (by decide) sE; omega) hP hok
  | 4, hx =>
    injection hx with hx
    subst hx
    exact Line.yes (D := D) (D' := D) (Line.one (fun W lo g hA hGl => al_lives hA hGl hG)) (by decide) (word1 (by decide)) hok
  | 5, hx =>
    injection hx with hx
    subst hx
    exact Line.yes (D := D) (D' := D) (Line.one (fun W lo g hA hGl => al_law hA hGl hG)) (by decide) (word1 (by decide)) hok
  | 6, hx =>
    injection hx with hx
    subst hx
    exact Line.yes (D := D) (D' := D) (Line.one (fun W lo g hA hGl => al_chain hA hGl hG)) (by decide) (word1 (by decide)) hok
  | 7, hx =>
    injection hx with hx
    subst hx
    exact Line.yes (D := D) (D' := D) (Line.one (fun W lo g hA hGl => al_plan hA hGl hG)) (by decide) (word1 (by decide)) hok
  | 8, hx =>
    injection hx with hx
    subst hx
    exact Line.yes (D := D) (D' := D) (Line.one (fun W lo g hA hGl => al_failed hA hGl hG)) (by decide) (word1 (by decide)) hok
  | 9, hx =>
    injection hx with hx
    subst hx
    exact Line.yes (D := D) (D' := D) (Line.one (fun W lo g hA hGl => al_total hA hGl hG hsum)) (by decide) (word1 (by decide)) hok
  | 10, hx =>
    injection hx with hx
    subst hx
    exact Line.what (D := D) (Line.one (fun W lo g hA hGl => al_totals hA hGl hG)) (by decide) (word1 (by decide))
  | 11, hx =>
    injection hx with hx
    subst hx
    exact Line.yes (D := D) (D' := D) (Line.one (fun W lo g hA hGl => al_table hA hGl hG)) (by decide) (word1 (by decide)) hok
  | 12, hx =>
    injection hx with hx
    subst hx
    have hP : splitS ((⟨#[115, 117, 114, 118, 105, 118, 101, 115, 32]⟩ : ByteArray) ++ (numT [r8x p])) 32 = [⟨#[115, 117, 114, 118, 105, 118, 101, 115]⟩, (numT [r8x p])] := by
      have := split2 (a := (⟨#[115, 117, 114, 118, 105, 118, 101, 115]⟩ : ByteArray)) (b := (numT [r8x p])) (m := 32) (by decide) ((tx_hi _).no (by decide))
      exact this
    exact Line.yes (D := D) (D' := D) (Line.two (fun W lo g hA hGl => ws_survives (t := numT [r8x p]) hA hGl (by omega) (numsV_tx (xs := [r8x p]) (by intro y hy; rw [List.mem_singleton] at hy; subst hy; exact ⟨tp.2.2.1, tp.2.2.2.1⟩) (by simp) (by simp)) hG (h8.law hp) tp.2.2.2.2.2.2)) (by have := app_sz (k := 20) (a := (⟨#[115, 117, 114, 118, 105, 118, 101, 115, 32]⟩ : ByteArray)) (by decide) sF; omega) hP hok
  | 13, hx =>
    injection hx with hx
    subst hx
    exact Line.yes (D := D) (D' := D) (Line.one (fun W lo g hA hGl => al_balance hA hGl hG hst hrs.symm hcw (fun y hy => balL_wf hcw y hy))) (by decide) (word1 (by decide)) hok
  | 14, hx =>
    injection hx with hx
    subst hx
    have hP : splitS ((⟨#[97, 99, 99, 101, 112, 116, 32]⟩ : ByteArray) ++ ((numS lot ++ ⟨#[32]⟩) ++ numS bad)) 32 = [⟨#[97, 99, 99, 101, 112, 116]⟩, numS lot, numS bad] := by
      have := split3 (a := (⟨#[97, 99, 99, 101, 112, 116]⟩ : ByteArray)) (b := numS lot) (c := numS bad) (m := 32) (by decide) ((numS_hi _).no (by decide)) ((numS_hi _).no (by decide))
      have e : (⟨#[97, 99, 99, 101, 112, 116, 32]⟩ : ByteArray) ++ ((numS lot ++ ⟨#[32]⟩) ++ numS bad) = ((((⟨#[97, 99, 99, 101, 112, 116]⟩ : ByteArray) ++ ⟨#[32]⟩) ++ numS lot) ++ ⟨#[32]⟩) ++ numS bad := by apply ba_ext; simp
      rw [e]; exact this
    exact Line.maybe (D := D) (Line.three (fun W lo g hA hGl => wn_accept hA hGl (valV_iff.2 ⟨by omega, rfl⟩) (valV_iff.2 ⟨by omega, rfl⟩) hl h0 hbl)) (by have := app_sz (k := 20) (m := 35) (a := (⟨#[97, 99, 99, 101, 112, 116, 32]⟩ : ByteArray)) (b := (numS lot ++ ⟨#[32]⟩) ++ numS bad) (by decide) (by rw [ByteArray.size_append, ByteArray.size_append]; have : (⟨#[32]⟩ : ByteArray).size = 1 := rfl; omega); omega) hP hok
  | 15, hx =>
    injection hx with hx
    subst hx
    have hP : splitS ((⟨#[108, 111, 111, 107, 115, 32]⟩ : ByteArray) ++ ((numS lot ++ ⟨#[32]⟩) ++ numS bad)) 32 = [⟨#[108, 111, 111, 107, 115]⟩, numS lot, numS bad] := by
      have := split3 (a := (⟨#[108, 111, 111, 107, 115]⟩ : ByteArray)) (b := numS lot) (c := numS bad) (m := 32) (by decide) ((numS_hi _).no (by decide)) ((numS_hi _).no (by decide))
      have e : (⟨#[108, 111, 111, 107, 115, 32]⟩ : ByteArray) ++ ((numS lot ++ ⟨#[32]⟩) ++ numS bad) = ((((⟨#[108, 111, 111, 107, 115]⟩ : ByteArray) ++ ⟨#[32]⟩) ++ numS lot) ++ ⟨#[32]⟩) ++ numS bad := by apply ba_ext; simp
      rw [e]; exact this
    exact Line.maybe (D := D) (Line.three (fun W lo g hA hGl => wn_looks hA hGl (valV_iff.2 ⟨by omega, rfl⟩) (valV_iff.2 ⟨by omega, rfl⟩) hl h0 hbl)) (by have := app_sz (k := 20) (m := 35) (a := (⟨#[108, 111, 111, 107, 115, 32]⟩ : ByteArray)) (b := (numS lot ++ ⟨#[32]⟩) ++ numS bad) (by decide) (by rw [ByteArray.size_append, ByteArray.size_append]; have : (⟨#[32]⟩ : ByteArray).size = 1 := rfl; omega); omega) hP hok
  | 16, hx =>
    injection hx with hx
    subst hx
    exact Line.yes (D := D) (D' := Dz D) (Line.one (fun W lo g hA hGl => al_order hA hGl hG)) (by decide) (word1 (by decide)) (Dz.ok hG)
  | k + 17, hx => simp at hx
end Go.Proofs.YtjmpldcnhjgpkaaGreatDoor

/-
  CountOutputs: the program's loop.
-/
namespace Go.Proofs.YtjmpldcnhjgpkaaGreatDoor
open Go.RowKit Mem Go.Shelf
set_option linter.unusedVariables false
set_option maxRecDepth 100000

def badB (x : ByteArray) : Bool := (x.toList == [110, 111]) || (x.toList == [119, 104, 97, 116])
def badN (L : List ByteArray) (k : Nat) : Nat := ((L.take k).filter badB).length
theorem badN_le (L : List ByteArray) (k : Nat) : badN L k ≤ k := by
  unfold badN
  have h1 := List.length_filter_le badB (L.take k)
  have h2 := List.length_take_le k L
  omega
theorem badN_succ {L : List ByteArray} {k : Nat} {x : ByteArray} (h : L[k]? = some x) : badN L (k + 1) = badN L k + (if badB x then 1 else 0) := by
  unfold badN
  rw [List.take_add_one, h]
  simp [List.filter_append, List.filter_cons]
  split <;> simp
set_option maxHeartbeats 1000000 in
theorem i_CountOutputs {s x : ByteArray} {b : Int} {w : World} (hs : s.size ≤ 1048576) (hm : w.cell? ⟨renSplit.g 1, 0, none⟩ = some (.int .i64 b)) (hx : (splitS s 10)[(splitS s 10).length - 1]? = some x) (hok : (decide (s.size ≤ 16000) && x.toList.isEmpty) = true) :
    Calls Tryz.prog 25 #[.string s] w fun e w' => e = .returned (.tuple #[.int .i64 (badN (splitS s 10) ((splitS s 10).length - 1)), .int .i64 (((splitS s 10).length - 1 : Nat) - badN (splitS s 10) ((splitS s 10).length - 1)), .bool true]) ∧ Below w.heap.size w w' := by
  have hp := splitS_pos s 10
  have hle := splitS_le s 10
  go_enter Tryz.func25, Tryz.ntmps25
  go_wp2_with fail
  refine (i_linesOf hs hm hx).mono ?_
  rintro e w1 ⟨rfl, hblk, hb⟩
  rw [hok]
  have HC : Hid (∀ (j : Nat) (u : ByteArray), (splitS s 10)[j]? = some u → w1.cell? ⟨w.heap.size, j, none⟩ = some (.string u)) := hide (fun j u hu => by rw [hblk.cell]; simp [hu])
  clear hx hok hblk
  generalize hL : splitS s 10 = L at *
  obtain ⟨n, hn⟩ : ∃ n, L.length = n + 1 := ⟨_, (Nat.succ_pred_eq_of_pos hp).symm⟩
  rw [hn] at hle ⊢
  simp only [Nat.add_sub_cancel]
  have Hn := hide hn
  have HL := hide hL
  clear hp hn hL
  go_wp2
  go_loopw [7, 19] (fun bad i wr => ∃ k : Nat, k ≤ n ∧ i = .int .i64 k ∧ bad = .int .i64 (badN L k) ∧ (∃ m, wr = w1.drewN m)) (fun _ i _ => n - (intOf i).toNat)
  case atStart => exact ⟨0, Nat.zero_le _, rfl, rfl, 0, rfl⟩
  case round =>
    obtain ⟨k, hk, rfl, rfl, m, rfl⟩ := hrel
    have hbk := badN_le L k
    by_cases hlt : k < n
    · have hxk : L[k]? = some (L[k]'(by rw [Hn.out]; omega)) := List.getElem?_eq_getElem _
      generalize L[k]'(by rw [Hn.out]; omega) = y at hxk
      have hc := HC.out k y hxk
      have HS := hide (badN_succ hxk)
      clear hxk
      have hlk : (0 : Int) ≤ k := by omega
      have hlk2 : (k : Int) < n := by omega
      cases h1 : (y.toList == [110, 111]) with
      | true =>
        have HB : Hid (badN L (k + 1) = badN L k + 1) := hide (by rw [HS.out, show badB y = true by unfold badB; rw [h1]; rfl]; rfl)
        go_wp2
        go_roundw
        case rel => exact ⟨k + 1, by omega, by go_num, by rw [HB.out]; go_num, m, rfl⟩
        case measure => (simp [intOf]; try omega)
      | false =>
        cases h2 : (y.toList == [119, 104, 97, 116]) with
        | true =>
          have HB : Hid (badN L (k + 1) = badN L k + 1) := hide (by rw [HS.out, show badB y = true by unfold badB; rw [h1, h2]; rfl]; rfl)
          go_wp2
          go_roundw
          case rel => exact ⟨k + 1, by omega, by go_num, by rw [HB.out]; go_num, m, rfl⟩
          case measure => (simp [intOf]; try omega)
        | false =>
          have HB : Hid (badN L (k + 1) = badN L k) := hide (by rw [HS.out, show badB y = false by unfold badB; rw [h1, h2]; rfl]; rfl)
          go_wp2
          go_roundw
          case rel => exact ⟨k + 1, by omega, by go_num, by rw [HB.out], m, rfl⟩
          case measure => (simp [intOf]; try omega)
    · obtain rfl : k = n := by omega
      go_wp2
      go_ret3
      exact ⟨by (try rw [HL.out]); rw [Hn.out]; rfl, below_drewN hb _⟩
end Go.Proofs.YtjmpldcnhjgpkaaGreatDoor

/-
  What the script outputs, as the law spells it; how many lines are errors.
-/
namespace Go.Proofs.YtjmpldcnhjgpkaaGreatDoor
open Go.RowKit Mem Fl Go.Shelf
set_option linter.unusedVariables false
set_option maxRecDepth 100000

/-- The output, as the law spells it. -/
def wantB (a b c e f g h i j k l : ByteArray) : ByteArray :=
  (((((((((((((((((((((((⟨#[111, 107, 10, 111, 107, 10, 111, 107, 10, 111, 107, 10]⟩ : ByteArray) ++ a) ++ (⟨#[10]⟩ : ByteArray)) ++ b) ++ (⟨#[10]⟩ : ByteArray)) ++ c) ++ (⟨#[10]⟩ : ByteArray)) ++ e) ++ (⟨#[10]⟩ : ByteArray)) ++ f) ++ (⟨#[10]⟩ : ByteArray)) ++ g) ++ (⟨#[10, 119, 104, 97, 116, 10]⟩ : ByteArray)) ++ h) ++ (⟨#[10]⟩ : ByteArray)) ++ i) ++ (⟨#[10]⟩ : ByteArray)) ++ j) ++ (⟨#[10]⟩ : ByteArray)) ++ k) ++ (⟨#[10]⟩ : ByteArray)) ++ l) ++ (⟨#[10, 111, 107, 10]⟩ : ByteArray))
def eleven (a b c e f g h i j k l : ByteArray) : List ByteArray := [(⟨#[111, 107]⟩ : ByteArray), (⟨#[111, 107]⟩ : ByteArray), (⟨#[111, 107]⟩ : ByteArray), (⟨#[111, 107]⟩ : ByteArray), a, b, c, e, f, g, (⟨#[119, 104, 97, 116]⟩ : ByteArray), h, i, j, k, l, (⟨#[111, 107]⟩ : ByteArray)]
theorem want_join (a b c e f g h i j k l : ByteArray) : wantB a b c e f g h i j k l = ⟨(Lib.join ((eleven a b c e f g h i j k l ++ [(⟨#[]⟩ : ByteArray)]).map (·.data.toList)) [10]).toArray⟩ := by
  apply ba_ext
  unfold wantB eleven
  simp [Lib.join_cons, Lib.joinTail]
theorem outB_join {T : Nat → ByteArray} {a b c e f g h i j k l : ByteArray} (hT : ∀ q, q < 17 → T q = (eleven a b c e f g h i j k l).getD q ⟨#[]⟩) : outB T 17 = wantB a b c e f g h i j k l := by
  apply ba_ext
  simp only [outB]
  rw [hT 0 (by decide), hT 1 (by decide), hT 2 (by decide), hT 3 (by decide), hT 4 (by decide), hT 5 (by decide), hT 6 (by decide), hT 7 (by decide), hT 8 (by decide), hT 9 (by decide), hT 10 (by decide), hT 11 (by decide), hT 12 (by decide), hT 13 (by decide), hT 14 (by decide), hT 15 (by decide), hT 16 (by decide)]
  unfold wantB eleven
  simp
theorem want_split {a b c e f g h i j k l : ByteArray} (hall : ∀ q ∈ [a, b, c, e, f, g, h, i, j, k, l], (10 : UInt8) ∉ q.data.toList) : splitS (wantB a b c e f g h i j k l) 10 = eleven a b c e f g h i j k l ++ [(⟨#[]⟩ : ByteArray)] := by
  rw [want_join]
  have h2 : ∀ q ∈ eleven a b c e f g h i j k l ++ [(⟨#[]⟩ : ByteArray)], (10 : UInt8) ∉ q.data.toList := by
    intro q hq
    unfold eleven at hq
    simp only [List.cons_append, List.nil_append, List.mem_cons, List.not_mem_nil, or_false] at hq
    rcases hq with rfl | rfl | rfl | rfl | rfl | rfl | rfl | rfl | rfl | rfl | rfl | rfl | rfl | rfl | rfl | rfl | rfl | rfl
    case inr.inr.inr.inr.inl => exact hall _ (by simp)
    all_goals first | decide | (exact hall _ (by simp))
  exact split_join (m := 10) ((eleven a b c e f g h i j k l ++ [(⟨#[]⟩ : ByteArray)]).tail) (⟨#[111, 107]⟩ : ByteArray) (fun q hq => h2 q (by unfold eleven at hq ⊢; exact hq))
theorem bad_count {a b c e f g h i j k l : ByteArray} (ha : badB a = false) (hb : badB b = false) (hc : badB c = false) (he : badB e = false) (hf : badB f = false) (hg : badB g = false) (hh : badB h = false) (hi : badB i = false) (hj : badB j = false) :
    badN (eleven a b c e f g h i j k l ++ [(⟨#[]⟩ : ByteArray)]) 17 = 1 + (if badB k = true then 1 else 0) + (if badB l = true then 1 else 0) := by
  unfold badN eleven
  have o : badB (⟨#[111, 107]⟩ : ByteArray) = false := by decide +kernel
  have w : badB (⟨#[119, 104, 97, 116]⟩ : ByteArray) = true := by decide +kernel
  simp only [List.cons_append, List.nil_append, List.take_succ_cons, List.take_zero, List.filter_cons, List.filter_nil, ha, hb, hc, he, hf, hg, hh, hi, hj, o, w, if_true, Bool.false_eq_true, if_false]
  cases badB k <;> cases badB l <;> simp
/-- A text that is no error. -/
theorem bad_byte {s : ByteArray} {m : UInt8} (h : m ∈ s.data.toList) (hm : m ∉ ([110, 111] : List UInt8) ∧ m ∉ ([119, 104, 97, 116] : List UInt8)) : badB s = false := by
  have e : s.toList = s.data.toList := Lib.toList_data s
  unfold badB
  rw [e]
  cases h1 : (s.data.toList == [110, 111]) with
  | true => rw [beq_iff_eq] at h1; rw [h1] at h; exact absurd h hm.1
  | false =>
    cases h2 : (s.data.toList == [119, 104, 97, 116]) with
    | true => rw [beq_iff_eq] at h2; rw [h2] at h; exact absurd h hm.2
    | false => rfl
theorem bad_app {x y : ByteArray} {m : UInt8} (hm : m ∉ ([110, 111] : List UInt8) ∧ m ∉ ([119, 104, 97, 116] : List UInt8)) : badB ((x ++ ⟨#[m]⟩) ++ y) = false :=
  bad_byte (m := m) (by rw [ByteArray.data_append, ByteArray.data_append]; simp) hm
theorem bad_num (n : Int) (h : n.natAbs ≤ 1000000000000000) : badB (numS n) = false := by
  have h1 := (valV_len (valV_iff.2 ⟨h, rfl⟩)).1
  have hl : (numS n).data.toList.length = (numS n).size := Array.length_toList
  cases hd : (numS n).data.toList with
  | nil => rw [hd] at hl; simp at hl; omega
  | cons b r =>
    have hb : b ∈ (numS n).data.toList := by rw [hd]; simp
    have := numS_45 n b hb
    exact bad_byte hb ⟨by intro hm; simp only [List.mem_cons, List.not_mem_nil, or_false] at hm; rcases hm with rfl | rfl <;> (revert this; decide), by intro hm; simp only [List.mem_cons, List.not_mem_nil, or_false] at hm; rcases hm with rfl | rfl | rfl | rfl <;> (revert this; decide)⟩
theorem bad_join {L : List ByteArray} (h : ∀ p ∈ L, 5 ≤ p.size) : badB (joinedB L) = false := by
  unfold joinedB
  split
  · decide +kernel
  · rename_i hne
    cases L with
    | nil => exact absurd rfl hne
    | cons p L =>
      have hp := h p (by simp)
      have hpl : p.data.toList.length = p.size := Array.length_toList
      have hlen : 5 ≤ (Lib.join ((p :: L).map (·.data.toList)) [44]).length := by
        rw [List.map_cons, Lib.join_cons, List.length_append]; omega
      have e : (⟨(Lib.join ((p :: L).map (·.data.toList)) [44]).toArray⟩ : ByteArray).toList = Lib.join ((p :: L).map (·.data.toList)) [44] := by rw [Lib.toList_data]
      unfold badB
      rw [e]
      cases h1 : (Lib.join ((p :: L).map (·.data.toList)) [44] == [110, 111]) with
      | true => rw [beq_iff_eq] at h1; rw [h1] at hlen; simp at hlen
      | false =>
        cases h2 : (Lib.join ((p :: L).map (·.data.toList)) [44] == [119, 104, 97, 116]) with
        | true => rw [beq_iff_eq] at h2; rw [h2] at hlen; simp at hlen
        | false => rfl
theorem bad_tx (xs : List Nat) : badB (joinedB (tx xs)) = false := bad_join (fun p hp => by
  unfold tx at hp
  obtain ⟨x, _, rfl⟩ := List.mem_map.1 hp
  rw [hexB_size]; decide)
theorem bad_list {a b : Int} (h : twoOk a b = true) : badB (listS [a, b]) = false := by
  have hv : [a, b].all valIn = true := by unfold twoOk at h; simp at h ⊢; exact h
  unfold listS
  rw [if_pos hv]
  unfold joinedB
  rw [if_neg (by simp [dx])]
  refine bad_byte (m := 44) ?_ (by decide)
  rw [List.toList_toArray]
  simp [dx, Lib.join_cons, Lib.joinTail]
theorem bad_yes {a b : Int} : badB (yesT (twoOk a b) (listS [a, b])) = !(twoOk a b) := by
  unfold yesT
  cases h : twoOk a b with
  | true => rw [if_pos rfl]; exact bad_list h
  | false => rw [if_neg (by decide)]; decide +kernel
end Go.Proofs.YtjmpldcnhjgpkaaGreatDoor
