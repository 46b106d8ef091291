/-
  Lives in ascending order: the plain law, and the comparing function's walk.
-/
import Derived.Test.YtjmpldcnhjgpkaaGreatDoorBelW
import Derived.Test.YtjmpldcnhjgpkaaGreatDoorBrg
import Derived.Test.YtjmpldcnhjgpkaaGreatDoorChecked
import Derived.Test.YtjmpldcnhjgpkaaGreatDoorHelp
import Derived.Test.YtjmpldcnhjgpkaaGreatDoorSeqB
import Derived.BigRegion
import Derived.Lib.ItoaNum
import Derived.Laws.IdiomStrings
import Derived.BigGuardPart
import Derived.WalkLawsBesides
import Derived.IntWalk
import Derived.Shelf.Lays
import Derived.Shelf.Strconv.Itoa1
import Derived.Deep.RegionHeld3
import Derived.BigQuiet
import Derived.Laws.Concat
namespace Go.Proofs.YtjmpldcnhjgpkaaGreatDoor
open Go.RowKit Mem Fl
set_option linter.unusedVariables false
set_option maxRecDepth 100000

def cmpF (x y : Nat) : Int := if (FloatKind.f32.format.order x y == some .lt) = true then -1 else if (FloatKind.f32.format.order x y == some .gt) = true then 1 else 0
def cmpL (p q : Nat × Bool) : Int := if (FloatKind.f32.format.order p.1 q.1 != some .eq) = true then cmpF p.1 q.1 else if (p.2 == q.2) = true then 0 else if p.2 = true then -1 else 1
theorem g_isNaN {x : Nat} {w : World} (hx : fin .f32 x = true) : Calls Tryz.prog 127 #[.float .f32 x] w fun e w' => e = .returned (.bool false) ∧ w = w' := by
  have h1 : (FloatKind.f32.format.order x x != some .eq) = false := by rw [order_self, fin_n32 hx]; rfl
  clear hx
  go_enter Tryz.func127, Tryz.ntmps127
  go_wp2
  go_ret
  exact ⟨rfl, rfl⟩
theorem g_Compare {x y : Nat} {w : World} (hx : fin .f32 x = true) (hy : fin .f32 y = true) : Calls Tryz.prog 95 #[.float .f32 x, .float .f32 y] w fun e w' => e = .returned (.int .i64 (cmpF x y)) ∧ w = w' := by
  have HX := hide hx
  have HY := hide hy
  have HC : Hid (cmpF x y = if (FloatKind.f32.format.order x y == some .lt) = true then -1 else if (FloatKind.f32.format.order x y == some .gt) = true then 1 else 0) := hide rfl
  clear hx hy
  cases h1 : (FloatKind.f32.format.order x y == some .lt) <;> cases h2 : (FloatKind.f32.format.order x y == some .gt)
  all_goals
    rw [h1, h2] at HC
    go_enter Tryz.func95, Tryz.ntmps95
    go_wp2_with (go_at_call 127; first | (refine (g_isNaN HX.out).mono ?_; rintro e w' ⟨rfl, rfl⟩) | (refine (g_isNaN HY.out).mono ?_; rintro e w' ⟨rfl, rfl⟩))
    go_ret
    exact ⟨by rw [HC.out]; rfl, rfl⟩
theorem ordered_1 {p q : Nat × Bool} {w : World} (hx : fin .f32 p.1 = true) (hy : fin .f32 q.1 = true) : Calls Tryz.prog 94 #[.agg #[.float .f32 p.1, .bool p.2], .agg #[.float .f32 q.1, .bool q.2]] w fun e w' => e = .returned (.int .i64 (cmpL p q)) ∧ Below w.heap.size w w' := by
  obtain ⟨a, fa⟩ := p
  obtain ⟨b, fb_⟩ := q
  have HC : Hid (cmpL (a, fa) (b, fb_) = if (FloatKind.f32.format.order a b != some .eq) = true then cmpF a b else if (fa == fb_) = true then 0 else if fa = true then -1 else 1) := hide rfl
  have HX := hide hx
  have HY := hide hy
  clear hx hy
  have hB : Below w.heap.size w ((w.alloc (.cells #[.float .f32 a, .bool fa] 69)).alloc (.cells #[.float .f32 b, .bool fb_] 69)) := ((Below.refl _ _).alloc (Nat.le_refl _) _).alloc (by simp) _
  have HB := hide hB
  clear hB
  cases h1 : (FloatKind.f32.format.order a b != some .eq)
  · cases fa <;> cases fb_
    all_goals
      rw [h1] at HC
      go_enter Tryz.func94, Tryz.ntmps94
      go_wp2
      go_ret
      exact ⟨by rw [HC.out]; rfl, HB.out⟩
  · rw [h1] at HC
    go_enter Tryz.func94, Tryz.ntmps94
    go_wp2_with (go_at_call 95; refine (g_Compare HX.out HY.out).mono ?_; rintro e w' ⟨rfl, rfl⟩)
    go_ret
    exact ⟨by rw [HC.out]; rfl, HB.out⟩
end Go.Proofs.YtjmpldcnhjgpkaaGreatDoor

/-
  Lives in ascending order: the library's insertion sort, walked at lives.
-/
namespace Go.Proofs.YtjmpldcnhjgpkaaGreatDoor
open Go.RowKit Mem Fl
set_option linter.unusedVariables false
set_option maxRecDepth 100000

abbrev d0 : Nat × Bool := (0, false)
def swpL (l : List (Nat × Bool)) (j : Nat) : List (Nat × Bool) := (l.set j (l.getD (j - 1) d0)).set (j - 1) (l.getD j d0)
def insD : Nat → List (Nat × Bool) → List (Nat × Bool)
  | 0, l => l
  | j + 1, l => if cmpL (l.getD (j + 1) d0) (l.getD j d0) < 0 then insD j (swpL l (j + 1)) else l
/-- The list when m more lives are put in their places. -/
def srt (l : List (Nat × Bool)) : Nat → List (Nat × Bool)
  | 0 => l
  | m + 1 => insD (m + 1) (srt l m)
theorem swpL_len (l : List (Nat × Bool)) (j : Nat) : (swpL l j).length = l.length := by simp [swpL]
theorem insD_len : ∀ (j : Nat) (l : List (Nat × Bool)), (insD j l).length = l.length
  | 0, _ => rfl
  | j + 1, l => by
    unfold insD
    split
    · rw [insD_len j, swpL_len]
    · rfl
theorem srt_len (l : List (Nat × Bool)) : ∀ m, (srt l m).length = l.length
  | 0 => rfl
  | m + 1 => by rw [srt, insD_len, srt_len l m]
theorem swpL_mem {l : List (Nat × Bool)} {j : Nat} (hj : j < l.length) {x : Nat × Bool} (hx : x ∈ swpL l j) : x ∈ l := by
  unfold swpL at hx
  have g1 : l.getD j d0 ∈ l := by rw [List.getD_eq_getElem?_getD, List.getElem?_eq_getElem hj]; exact List.getElem_mem _
  have g2 : l.getD (j - 1) d0 ∈ l := by rw [List.getD_eq_getElem?_getD, List.getElem?_eq_getElem (by omega)]; exact List.getElem_mem _
  rcases List.mem_or_eq_of_mem_set hx with h | h
  · rcases List.mem_or_eq_of_mem_set h with h | h
    · exact h
    · rw [h]; exact g2
  · rw [h]; exact g1
theorem insD_mem : ∀ (j : Nat) (l : List (Nat × Bool)), j < l.length → ∀ x, x ∈ insD j l → x ∈ l
  | 0, _, _, x, hx => hx
  | j + 1, l, hj, x, hx => by
    unfold insD at hx
    split at hx
    · exact swpL_mem hj (insD_mem j _ (by rw [swpL_len]; omega) x hx)
    · exact hx
theorem srt_mem (l : List (Nat × Bool)) : ∀ m, m < l.length → ∀ x, x ∈ srt l m → x ∈ l
  | 0, _, x, hx => hx
  | m + 1, hm, x, hx => srt_mem l m (by omega) x (insD_mem (m + 1) _ (by rw [srt_len]; omega) x hx)
/-- A row of lives in a block. -/
def RowL (w : World) (g n : Nat) (l : List (Nat × Bool)) : Prop := ∃ cur : Array Value, Blk w g 69 cur ∧ l.length = n ∧ ∀ i, i < n → cur[i * 2]? = some (.float .f32 (l.getD i d0).1) ∧ cur[i * 2 + 1]? = some (.bool (l.getD i d0).2)
theorem RowL.cells {w : World} {g n : Nat} {l : List (Nat × Bool)} (h : RowL w g n l) {i : Nat} (hi : i < n) : w.cell? ⟨g, i * 2, none⟩ = some (.float .f32 (l.getD i d0).1) ∧ w.cell? ⟨g, i * 2 + 1, none⟩ = some (.bool (l.getD i d0).2) := by
  obtain ⟨cur, hb, _, hc⟩ := h
  exact ⟨by rw [hb.cell]; exact (hc i hi).1, by rw [hb.cell]; exact (hc i hi).2⟩
theorem RowL.frozen {w : World} {g n : Nat} {l : List (Nat × Bool)} (h : RowL w g n l) (i : Nat) : w.frozen? ⟨g, i, none⟩ = false := by
  obtain ⟨cur, hb, _⟩ := h; exact hb.frozen i
theorem RowL.lt {w : World} {g n : Nat} {l : List (Nat × Bool)} (h : RowL w g n l) : g < w.heap.size := by
  obtain ⟨cur, hb, _⟩ := h; exact hb.lt
theorem RowL.below {w w' : World} {g n : Nat} {l : List (Nat × Bool)} (h : RowL w g n l) (hb : Below w.heap.size w w') : RowL w' g n l := by
  have hl := h.lt
  obtain ⟨cur, hc, r⟩ := h; exact ⟨cur, hc.below hb hl, r⟩
theorem blk_some {w : World} {g i : Nat} {t : TypeId} {cur : Array Value} (hb : Blk w g t cur) (hi : i < cur.size) : ∃ v, w.cell? ⟨g, i, none⟩ = some v := ⟨cur[i], by rw [hb.cell]; exact Array.getElem?_eq_getElem hi⟩
theorem getD_setL {L : List (Nat × Bool)} {i j : Nat} {v : Nat × Bool} (hi : i < L.length) : (L.set i v).getD j d0 = if i = j then v else L.getD j d0 := by
  rw [List.getD_eq_getElem?_getD, List.getElem?_set]
  by_cases e : i = j
  · rw [if_pos e, if_pos e, if_pos hi]; rfl
  · rw [if_neg e, if_neg e, List.getD_eq_getElem?_getD]
/-- Two neighbours are changed for one another: the four stores. -/
theorem RowL.swap {w : World} {g n j p1 q1 : Nat} {p2 q2 : Bool} {l : List (Nat × Bool)} (h : RowL w g n l) (hj : j + 1 < n) (hP : l.getD (j + 1) d0 = (p1, p2)) (hQ : l.getD j d0 = (q1, q2)) :
    (∃ v, w.cell? ⟨g, (j + 1) * 2, none⟩ = some v) ∧ (∃ v, (w.setCell ⟨g, (j + 1) * 2, none⟩ (.float .f32 q1)).cell? ⟨g, (j + 1) * 2 + 1, none⟩ = some v) ∧
    (∃ v, ((w.setCell ⟨g, (j + 1) * 2, none⟩ (.float .f32 q1)).setCell ⟨g, (j + 1) * 2 + 1, none⟩ (.bool q2)).cell? ⟨g, j * 2, none⟩ = some v) ∧
    (∃ v, (((w.setCell ⟨g, (j + 1) * 2, none⟩ (.float .f32 q1)).setCell ⟨g, (j + 1) * 2 + 1, none⟩ (.bool q2)).setCell ⟨g, j * 2, none⟩ (.float .f32 p1)).cell? ⟨g, j * 2 + 1, none⟩ = some v) ∧
    RowL ((((w.setCell ⟨g, (j + 1) * 2, none⟩ (.float .f32 q1)).setCell ⟨g, (j + 1) * 2 + 1, none⟩ (.bool q2)).setCell ⟨g, j * 2, none⟩ (.float .f32 p1)).setCell ⟨g, j * 2 + 1, none⟩ (.bool p2)) g n (swpL l (j + 1)) := by
  obtain ⟨cur, hb, hl, hc⟩ := h
  have hs : (j + 1) * 2 + 1 < cur.size := by
    have := (hc (j + 1) hj).2
    rcases Nat.lt_or_ge ((j + 1) * 2 + 1) cur.size with h1 | h1
    · exact h1
    · rw [Array.getElem?_eq_none h1] at this; cases this
  have b1 := hb.set_ ((j + 1) * 2) (.float .f32 q1)
  have b2 := b1.set_ ((j + 1) * 2 + 1) (.bool q2)
  have b3 := b2.set_ (j * 2) (.float .f32 p1)
  have b4 := b3.set_ (j * 2 + 1) (.bool p2)
  refine ⟨blk_some hb (by omega), blk_some b1 (by simp; omega), blk_some b2 (by simp; omega), blk_some b3 (by simp; omega), _, b4, by rw [swpL_len]; exact hl, fun i hi => ?_⟩
  have e : (swpL l (j + 1)).getD i d0 = if j = i then (p1, p2) else if j + 1 = i then (q1, q2) else l.getD i d0 := by
    unfold swpL
    rw [Nat.add_sub_cancel, getD_setL (by rw [List.length_set]; omega), getD_setL (by omega), hP, hQ]
  rw [e]
  simp only [Array.getElem?_setIfInBounds, Array.size_setIfInBounds]
  obtain ⟨c1, c2⟩ := hc i hi
  by_cases h1 : j = i
  · subst h1
    constructor
    · rw [if_neg (by omega), if_pos rfl, if_pos (by omega), if_pos rfl]
    · rw [if_pos rfl, if_pos (by omega), if_pos rfl]
  · rw [if_neg h1]
    by_cases h2 : j + 1 = i
    · subst h2
      have hv : (if j + 1 = j + 1 then (q1, q2) else l.getD (j + 1) d0) = (q1, q2) := if_pos rfl
      rw [hv]
      constructor
      · rw [if_neg (by omega), if_neg (by omega), if_neg (by omega), if_pos rfl, if_pos (by omega)]
      · rw [if_neg (by omega), if_neg (by omega), if_pos rfl, if_pos (by omega)]
    · rw [if_neg h2]
      constructor
      · rw [if_neg (by omega), if_neg (by omega), if_neg (by omega), if_neg (by omega)]; exact c1
      · rw [if_neg (by omega), if_neg (by omega), if_neg (by omega), if_neg (by omega)]; exact c2
theorem swap_below {B g a b c d : Nat} {w0 w : World} {u1 u2 u3 u4 : Value} (h : Below B w0 w) (hg : B ≤ g) : Below B w0 ((((w.setCell ⟨g, a, none⟩ u1).setCell ⟨g, b, none⟩ u2).setCell ⟨g, c, none⟩ u3).setCell ⟨g, d, none⟩ u4) :=
  (((h.setCell (p := ⟨g, a, none⟩) hg u1).setCell (p := ⟨g, b, none⟩) hg u2).setCell (p := ⟨g, c, none⟩) hg u3).setCell (p := ⟨g, d, none⟩) hg u4
set_option maxHeartbeats 4000000 in
theorem g_insertion {B g n c : Nat} {l : List (Nat × Bool)} {w : World} (h : RowL w g n l) (hB : B ≤ g) (hn1 : 1 ≤ n) (hn : n ≤ 100) (hf : ∀ x ∈ l, fin .f32 x.1 = true) :
    Calls Tryz.prog 163 #[.slice (some ⟨g, 0, none⟩) n c, .int .i64 0, .int .i64 (n : Int), .func (.func 94) #[] #[]] w fun e w' => e = .returned (.tuple #[]) ∧ RowL w' g n (srt l (n - 1)) ∧ Below B w w' := by
  have Hf := hide hf
  have HR0 := hide h
  have HB0 := hide (Below.refl B w)
  have hl : l.length = n := by obtain ⟨_, _, h, _⟩ := h; exact h
  have Hl := hide hl
  clear h hf hl
  go_enter Tryz.func163, Tryz.ntmps163
  go_wp2_with fail
  go_loopw [8] (fun v wr => ∃ m : Nat, m ≤ n - 1 ∧ v = .int .i64 ((m : Int) + 1) ∧ Hid (RowL wr g n (srt l m)) ∧ Hid (Below B w wr)) (fun v _ => n - (intOf v).toNat)
  case atStart => exact ⟨0, Nat.zero_le _, by simp, HR0, HB0⟩
  case round =>
    clear HR0 HB0
    obtain ⟨m, hm, rfl, HR, HBl⟩ := hrel
    rename World => wo
    by_cases hmn : m + 1 < n
    · have hmI : (m : Int) + 1 < (n : Int) := by omega
      go_wp2_with fail
      go_loopw [9] (fun v wr => ∃ (j : Nat) (r : List (Nat × Bool)), j ≤ m + 1 ∧ v = .int .i64 (j : Int) ∧ Hid (RowL wr g n r) ∧ Hid (Below B w wr) ∧ Hid (insD j r = srt l (m + 1)) ∧ Hid (∀ x, x ∈ r → x ∈ l)) (fun v _ => (intOf v).toNat)
      case atStart => exact ⟨m + 1, srt l m, Nat.le_refl _, by go_num, HR, HBl, hide rfl, hide (fun x hx => srt_mem l m (by rw [Hl.out]; omega) x hx)⟩
      case round =>
        clear HR HBl
        obtain ⟨j, r, hj, rfl, HR, HBl, HI, HM⟩ := hrel
        rename World => wr
        cases j with
        | zero =>
          have HI2 : Hid (r = srt l (m + 1)) := HI
          go_wp2_with fail
          refine wp_region_quiet_bel (by kernel_rfl) (by kernel_rfl) ?_
          repeat (go_big_quiet_step ((fail)))
          refine wpQuiet_nil ?_
          intro w9 hw'
          obtain ⟨p, rfl⟩ := hw'
          have hqb := p.h
          generalize p.v = wq at hqb ⊢
          clear p
          have HRq := hide (HR.out.below hqb)
          have HBq := hide (HBl.out.trans (hqb.mono (Nat.le_trans hB (Nat.le_of_lt HR.out.lt))))
          clear hqb HR HBl
          go_wp2_with fail
          go_roundw
          case rel => exact ⟨m + 1, by omega, by go_num, hide (by rw [← HI2.out]; exact HRq.out), HBq⟩
          case measure => simp [intOf]; omega
        | succ j =>
          have hjn : j + 1 < n := by omega
          obtain ⟨d1, d2⟩ := HR.out.cells hjn
          obtain ⟨d3, d4⟩ := HR.out.cells (show j < n by omega)
          have hj0 : ((j + 1 : Nat) : Int) = (j : Int) + 1 := by omega
          have hrl : r.length = n := by obtain ⟨_, _, h, _⟩ := HR.out; exact h
          have hp1 : r.getD (j + 1) d0 ∈ r := by rw [List.getD_eq_getElem?_getD, List.getElem?_eq_getElem (by omega)]; exact List.getElem_mem _
          have hp2 : r.getD j d0 ∈ r := by rw [List.getD_eq_getElem?_getD, List.getElem?_eq_getElem (by omega)]; exact List.getElem_mem _
          have hf1 := Hf.out _ (HM.out _ hp1)
          have hf2 := Hf.out _ (HM.out _ hp2)
          have HI2 : Hid ((if cmpL (r.getD (j + 1) d0) (r.getD j d0) < 0 then insD j (swpL r (j + 1)) else r) = srt l (m + 1)) := HI
          have HC := hide (fun W : World => ordered_1 (w := W) hf1 hf2)
          obtain ⟨P, hP⟩ : ∃ P, r.getD (j + 1) d0 = P := ⟨_, rfl⟩
          obtain ⟨Q, hQ⟩ : ∃ Q, r.getD j d0 = Q := ⟨_, rfl⟩
          rw [hP, hQ] at HI2 HC
          rw [hP] at d1 d2
          rw [hQ] at d3 d4
          obtain ⟨cv, hcv⟩ : ∃ cv, cmpL P Q = cv := ⟨_, rfl⟩
          rw [hcv] at HI2 HC
          obtain ⟨p1, p2'⟩ := P
          obtain ⟨q1, q2⟩ := Q
          have D1 : ∀ q : BelW wr, q.v.cell? ⟨g, (j + 1) * 2, none⟩ = some (.float .f32 p1) := cell_bel HR.out.lt d1
          have D2 : ∀ q : BelW wr, q.v.cell? ⟨g, (j + 1) * 2 + 1, none⟩ = some (.bool p2') := cell_bel HR.out.lt d2
          have D3 : ∀ q : BelW wr, q.v.cell? ⟨g, j * 2, none⟩ = some (.float .f32 q1) := cell_bel HR.out.lt d3
          have D4 : ∀ q : BelW wr, q.v.cell? ⟨g, j * 2 + 1, none⟩ = some (.bool q2) := cell_bel HR.out.lt d4
          have HPQ := hide (And.intro hP hQ)
          have hjI : (0 : Int) < (j : Int) + 1 := by omega
          have hjI2 : (j : Int) + 1 < (n : Int) := by omega
          have hjI3 : (j : Int) < (n : Int) := by omega
          have hjN : j < n := by omega
          rw [hj0]
          clear hp1 hp2 hf1 hf2 HI hP hQ hcv hj0 d1 d2 d3 d4 hrl
          by_cases hlt : cv < 0
          · have hdec : decide (cv < 0) = true := decide_eq_true hlt
            have HI3 : Hid (insD j (swpL r (j + 1)) = srt l (m + 1)) := hide (by have := HI2.out; rwa [if_pos hlt] at this)
            clear HI2
            go_wp2_with fail
            refine wp_region_quiet_bel (by kernel_rfl) (by kernel_rfl) ?_
            repeat (go_big_quiet_step ((go_at_call 94; exact Calls.bel_of (HC.out _))))
            refine wpQuiet_nil ?_
            intro w9 hw'
            obtain ⟨p, rfl⟩ := hw'
            have hqb := p.h
            generalize p.v = wq at hqb ⊢
            clear p
            have HRq := hide (HR.out.below hqb)
            have HBq := hide (HBl.out.trans (hqb.mono (Nat.le_trans hB (Nat.le_of_lt HR.out.lt))))
            clear hqb HR HBl D1 D2 D3 D4 HC
            obtain ⟨d1, d2⟩ := HRq.out.cells hjn
            obtain ⟨d3, d4⟩ := HRq.out.cells (show j < n by omega)
            rw [HPQ.out.1] at d1 d2
            rw [HPQ.out.2] at d3 d4
            have f1 := HRq.out.frozen ((j + 1) * 2)
            have f2 := HRq.out.frozen ((j + 1) * 2 + 1)
            have f3 := HRq.out.frozen (j * 2)
            have f4 := HRq.out.frozen (j * 2 + 1)
            obtain ⟨_, ⟨s2, s2e⟩, ⟨s3, s3e⟩, ⟨s4, s4e⟩, _⟩ := HRq.out.swap hjn HPQ.out.1 HPQ.out.2
            have HSW := hide (fun W (h : RowL W g n r) => (h.swap hjn HPQ.out.1 HPQ.out.2).2.2.2.2)
            clear HPQ hlt hdec
            go_wp2_with fail
            go_region
            have HMn := hide (HSW.out _ HRq.out)
            have HBn := hide (swap_below (u1 := .float .f32 q1) (u2 := .bool q2) (u3 := .float .f32 p1) (u4 := .bool p2') (a := (j + 1) * 2) (b := (j + 1) * 2 + 1) (c := j * 2) (d := j * 2 + 1) HBq.out hB)
            clear HSW HRq HBq d1 d2 d3 d4 f1 f2 f3 f4 s2e s3e s4e
            go_wp2_with fail
            go_roundw
            case rel => exact ⟨j, swpL r (j + 1), by omega, rfl, HMn, hide (below_drewN HBn.out 1), HI3, hide (fun x hx => HM.out x (swpL_mem (by have := HMn.out; obtain ⟨_, _, e, _⟩ := this; rw [swpL_len] at e; omega) hx))⟩
            case measure => first | done | (simp [intOf]; done) | (simp [intOf]; omega)
          · have hdec : decide (cv < 0) = false := decide_eq_false hlt
            have HI3 : Hid (r = srt l (m + 1)) := hide (by have := HI2.out; rwa [if_neg hlt] at this)
            clear HI2
            go_wp2_with fail
            refine wp_region_quiet_bel (by kernel_rfl) (by kernel_rfl) ?_
            repeat (go_big_quiet_step ((go_at_call 94; exact Calls.bel_of (HC.out _))))
            refine wpQuiet_nil ?_
            intro w9 hw'
            obtain ⟨p, rfl⟩ := hw'
            have hqb := p.h
            generalize p.v = wq at hqb ⊢
            clear p
            have HRq := hide (HR.out.below hqb)
            have HBq := hide (HBl.out.trans (hqb.mono (Nat.le_trans hB (Nat.le_of_lt HR.out.lt))))
            clear hqb HR HBl D1 D2 D3 D4 HC
            go_wp2_with fail
            go_roundw
            case rel => exact ⟨m + 1, by omega, by go_num, hide (by rw [← HI3.out]; exact HRq.out), HBq⟩
            case measure => simp [intOf]; omega
    · have hme : m = n - 1 := by omega
      have hmI : ¬ (m : Int) + 1 < (n : Int) := by omega
      have HRn := hide (show RowL wo g n (srt l (n - 1)) by rw [← hme]; exact HR.out)
      clear hme HR
      go_wp2_with fail
      go_end0
      exact ⟨rfl, HRn.out, HBl.out⟩
end Go.Proofs.YtjmpldcnhjgpkaaGreatDoor

/-
  Contracts of the copies that the laws make of lives, laws, chains, plans and desks.
-/
namespace Go.Proofs.YtjmpldcnhjgpkaaGreatDoor
open Go.RowKit Fl Mem
set_option linter.unusedVariables false
set_option maxRecDepth 100000

theorem own_far' {w : World} {base g : Nat} {e : TypeId} {size n : Nat} {v : Value} {xs : List Value} (h : w.ownsRow base e size v n xs) (hg : g < base) : v.ownBlock = none ∨ v.ownBlock ≠ some g := by
  cases hv : v.ownBlock with
  | none => exact .inl rfl
  | some k =>
    refine .inr (fun he => ?_)
    injection he with he
    have := (h.lt k hv).1
    omega
/-- A store below an owned row leaves it as it is. -/
theorem own_put {w : World} {base : Nat} {e : TypeId} {size n : Nat} {v : Value} {xs : List Value} (h : w.ownsRow base e size v n xs) {p : Addr} (hp : p.block < base) (u : Value) : (w.setCell p u).ownsRow base e size v n xs :=
  h.kept (only_setCell (g := p.block) (World.grownBy.refl _ _) (.inl rfl) u) (own_far' h hp)

theorem info_life : (Tryz.prog.info? 69).map (fun i => (i.zero, i.size, i.bytes)) = some (some (.agg #[.float .f32 0, .bool false]), 2, 8) := by kernel_rfl
/-- The cells of n lives that are empty. -/
def noLives (n : Nat) : List Value := ll (List.replicate n (0, false))
theorem noLives_made (n : Nat) : madeCells (Value.agg #[.float .f32 0, .bool false]).cells (n * 2) = (noLives n).toArray := by
  unfold madeCells noLives
  apply Array.ext_getElem?
  intro i
  rcases Nat.lt_or_ge i (n * 2) with h | h
  · have hx : (List.replicate n ((0, false) : Nat × Bool))[i / 2]? = some (0, false) := by rw [List.getElem?_replicate]; rw [if_pos (by omega)]
    obtain ⟨h1, h2⟩ := ll_at hx
    have hr : ((ll (List.replicate n (0, false))).toArray)[i]? = (ll (List.replicate n (0, false)))[i]? := by simp
    rw [hr]
    rcases Nat.mod_two_eq_zero_or_one i with hm | hm
    · rw [show i / 2 * 2 = i by omega] at h1
      rw [h1, Array.getElem?_map, Array.getElem?_range, if_pos h]
      simp [hm, Value.cells]
    · rw [show i / 2 * 2 + 1 = i by omega] at h2
      rw [h2, Array.getElem?_map, Array.getElem?_range, if_pos h]
      simp [hm, Value.cells]
  · rw [Array.getElem?_eq_none (by simp; omega), Array.getElem?_eq_none (by simp [ll_len]; omega)]
theorem below_al' {w : World} {B : Nat} (h : B ≤ w.heap.size) (o : Obj) : Below B w (w.alloc o) := (Below.refl _ _).alloc h o
/-- What is left of a number; -1 if it is too little. -/
def szR (left : Int) (n : Nat) : Int := if (n : Int) ≤ left then left - n else -1
theorem szR_yes {left : Int} {n : Nat} (h : (n : Int) ≤ left) : szR left n = left - n := if_pos h
theorem szR_no {left : Int} {n : Nat} (h : ¬ (n : Int) ≤ left) : szR left n = -1 := if_neg h
end Go.Proofs.YtjmpldcnhjgpkaaGreatDoor

/-
  Lives in ascending order: the library's stable sort and its copy, and 'ordered'.
-/
namespace Go.Proofs.YtjmpldcnhjgpkaaGreatDoor
open Go.RowKit Mem Fl
set_option linter.unusedVariables false
set_option maxRecDepth 100000

theorem rowL_own {w : World} {B n : Nat} {v : Value} {l : List (Nat × Bool)} (h : w.ownsRow B 69 2 v n (ll l)) (hn : 0 < n) : ∃ g c, v = .slice (some ⟨g, 0, none⟩) n c ∧ B ≤ g ∧ n ≤ c ∧ RowL w g n l := by
  rcases h with ⟨hl, ⟨_, h0⟩ | ⟨g, cap, cur, rfl, hb, hh, hc, _, hs, ht⟩⟩
  · omega
  · have hL : l.length = n := by rw [ll_len] at hl; omega
    refine ⟨g, cap, rfl, hb, hc, cur, hh, hL, fun i hi => ?_⟩
    have hx : l[i]? = some (l.getD i d0) := by rw [List.getD_eq_getElem?_getD, List.getElem?_eq_getElem (by omega)]; rfl
    obtain ⟨a1, a2⟩ := ll_at hx
    have e1 : (cur.toList.take (n * 2))[i * 2]? = (ll l)[i * 2]? := by rw [ht]
    have e2 : (cur.toList.take (n * 2))[i * 2 + 1]? = (ll l)[i * 2 + 1]? := by rw [ht]
    rw [List.getElem?_take, if_pos (by omega), Array.getElem?_toList] at e1 e2
    exact ⟨by rw [e1, a1], by rw [e2, a2]⟩
theorem ll_one (l : List (Nat × Bool)) : ∀ u ∈ ll l, u.oneCell' = true := by
  induction l with
  | nil => intro u hu; cases hu
  | cons p r ih =>
    intro u hu
    simp only [ll, List.mem_cons] at hu
    rcases hu with rfl | rfl | hu
    · rfl
    · rfl
    · exact ih u hu
theorem rowL_reads {w : World} {g n : Nat} {l : List (Nat × Bool)} (h : RowL w g n l) : Reads w w.heap.size 2 (some ⟨g, 0, none⟩) n (ll l) := by
  have hl : l.length = n := by obtain ⟨_, _, h, _⟩ := h; exact h
  refine ⟨by rw [ll_len, hl], fun _ => ⟨_, rfl, h.lt, fun j u hj => ?_⟩⟩
  have hjl : j < n * 2 := by
    have := (List.getElem?_eq_some_iff.1 hj).1
    rw [ll_len, hl] at this; exact this
  have hk : j / 2 < n := by omega
  have hx : l[j / 2]? = some (l.getD (j / 2) d0) := by rw [List.getD_eq_getElem?_getD, List.getElem?_eq_getElem (by omega)]; rfl
  obtain ⟨a1, a2⟩ := ll_at hx
  obtain ⟨c1, c2⟩ := h.cells hk
  have e : (⟨g, 0, none⟩ : Addr).add j = ⟨g, j, none⟩ := by
    by_cases h0 : j = 0
    · subst h0; simp [Addr.add]
    · simp [Addr.add, h0]
  rw [e]
  rcases Nat.mod_two_eq_zero_or_one j with hm | hm
  · have ej : j = j / 2 * 2 := by omega
    rw [← ej] at a1 c1
    rw [a1] at hj; cases hj; exact c1
  · have ej : j = j / 2 * 2 + 1 := by omega
    rw [← ej] at a2 c2
    rw [a2] at hj; cases hj; exact c2
set_option maxHeartbeats 2000000 in
theorem g_stable {B g n c : Nat} {l : List (Nat × Bool)} {w : World} (h : RowL w g n l) (hB : B ≤ g) (hn1 : 1 ≤ n) (hn : n ≤ 19) (hf : ∀ x ∈ l, fin .f32 x.1 = true) :
    Calls Tryz.prog 126 #[.slice (some ⟨g, 0, none⟩) n c, .int .i64 (n : Int), .func (.func 94) #[] #[]] w fun e w' => e = .returned (.tuple #[]) ∧ RowL w' g n (srt l (n - 1)) ∧ Below B w w' := by
  have HI := hide (g_insertion (c := c) h hB hn1 (by omega) hf)
  clear h hf
  have h1 : ¬ (20 : Int) ≤ (n : Int) := by omega
  have h2 : ¬ (20 : Int) < (n : Int) := by omega
  go_enter Tryz.func126, Tryz.ntmps126
  go_wp2_with fail
  go_loopw [7, 8] (fun a v wr => a = .int .i64 0 ∧ v = .int .i64 20 ∧ w = wr) (fun _ _ _ => 0)
  case atStart => exact ⟨rfl, rfl, rfl⟩
  case round =>
    obtain ⟨rfl, rfl, rfl⟩ := hrel
    go_wp2_with (go_at_call 163; refine HI.out.mono ?_; rintro e w1 ⟨rfl, HR, HBl⟩)
    have HR := hide HR
    have HBl := hide HBl
    go_loopw [6] (fun v wr => v = .int .i64 20 ∧ Hid (RowL wr g n (srt l (n - 1))) ∧ Hid (Below B w wr)) (fun _ _ => 0)
    case atStart => exact ⟨rfl, HR, HBl⟩
    case round =>
      clear HR HBl
      obtain ⟨rfl, HR, HBl⟩ := hrel
      rename World => wr
      go_wp2_with fail
      go_end0
      exact ⟨rfl, HR.out, HBl.out⟩
set_option maxHeartbeats 2000000 in
theorem g_SortStable {B g n c : Nat} {l : List (Nat × Bool)} {w : World} (h : RowL w g n l) (hB : B ≤ g) (hn1 : 1 ≤ n) (hn : n ≤ 19) (hf : ∀ x ∈ l, fin .f32 x.1 = true) :
    Calls Tryz.prog 93 #[.slice (some ⟨g, 0, none⟩) n c, .func (.func 94) #[] #[]] w fun e w' => e = .returned (.tuple #[]) ∧ RowL w' g n (srt l (n - 1)) ∧ Below B w w' := by
  have HI := hide (g_stable (c := c) h hB hn1 hn hf)
  clear h hf
  go_enter Tryz.func93, Tryz.ntmps93
  go_wp2_with (go_at_call 126; refine HI.out.mono ?_; rintro e w1 ⟨rfl, HR, HBl⟩)
  go_end0
  exact ⟨rfl, HR, HBl⟩
set_option maxHeartbeats 2000000 in
theorem g_CloneL {A : Option Addr} {n c B : Nat} {l : List (Nat × Bool)} {w : World} (h : Reads w B 2 A n (ll l)) (hn1 : 1 ≤ n) (hn : n ≤ 1048576) :
    Calls Tryz.prog 81 #[.slice A n c] w fun e w' => ∃ g cap, e = .returned (.slice (some ⟨g, 0, none⟩) n cap) ∧ w.heap.size ≤ g ∧ RowL w' g n l ∧ Below w.heap.size w w' := by
  obtain ⟨hl, h2⟩ := h
  obtain ⟨ad, rfl, hb, hc⟩ := h2 (by omega)
  have Ha := hide hc
  have Hl := hide hl
  clear hc hl h2
  obtain ⟨i0, hi, hz0, hz1, hz2⟩ := info_parts info_life
  have q22 : ∀ (w : World) (a : Option Addr) (n c n' c' : Nat), (binOp .eql 24 (.slice a n c) (.slice none n' c')).run Tryz.prog w = .ok (.bool a.isNone) w := fun w a n c n' c' => Lib.run_eql_slice_nil w _ _ a n c n' c' Tryz.underlying24
  go_enter Tryz.func81, Tryz.ntmps81
  go_wp2_with (at_builtin; refine wpList_append_own _ rfl _ _ 24 rfl w.heap.size 69 i0 (.agg #[.float .f32 0, .bool false]) 2 8 Tryz.underlying24 hi hz0 hz1 hz2 rfl (by decide) _ _ _ rfl (World.ownsRow_made w #[] 0 (Nat.le_refl _) (Nat.zero_le _) (by simp)) ad n c (ll l) rfl ?qc1 ?qc2 ?qc3 ?qc4 ?qc5 ?qc6 ?_)
  case qc1 => exact Hl.out
  case qc2 =>
    intro j u hj
    exact Lib.cell?_alloc_some _ (Ha.out j u hj)
  case qc3 => exact ll_one l
  case qc4 => rw [Nat.zero_add]; simp only [maxLen]; omega
  case qc5 => rw [Nat.zero_add]; omega
  case qc6 => simp
  intro v' w1 hown hgrow hnil
  have hown' : w1.ownsRow w.heap.size 69 2 v' n (ll l) := by simpa using hown
  obtain ⟨g, cp, rfl, hg, hcp, hR⟩ := rowL_own hown' (by omega)
  have HR := hide hR
  have HBl := hide (((Below.refl _ w).alloc (Nat.le_refl _) _).grown hgrow (by simp) (by intro k hk; simp [Value.ownBlock] at hk; omega))
  clear hown hown' hgrow hnil hR Ha Hl
  go_wp2
  go_ret
  exact ⟨g, cp, rfl, hg, HR.out, HBl.out⟩
set_option maxHeartbeats 2000000 in
theorem i_ordered {A : Option Addr} {n c B : Nat} {l : List (Nat × Bool)} {w : World} (h : Reads w B 2 A n (ll l)) (hn1 : 1 ≤ n) (hn : n ≤ 19) (hf : ∀ x ∈ l, fin .f32 x.1 = true) :
    Calls Tryz.prog 60 #[.slice A n c] w fun e w' => ∃ g cap, e = .returned (.slice (some ⟨g, 0, none⟩) n cap) ∧ w.heap.size ≤ g ∧ RowL w' g n (srt l (n - 1)) ∧ Below w.heap.size w w' := by
  have HC := hide (g_CloneL (c := c) h hn1 (by omega))
  have Hf := hide hf
  clear h hf
  go_enter Tryz.func60, Tryz.ntmps60
  go_wp2_with (go_at_call 81; refine HC.out.mono ?_; rintro e w1 ⟨g, cp, rfl, hg, hR, hb⟩)
  have HS := hide (g_SortStable (c := cp) hR hg hn1 hn Hf.out)
  have HB := hide hb
  clear hR hb HC
  go_wp2_with (go_at_call 93; refine HS.out.mono ?_; rintro e w2 ⟨rfl, hR2, hb2⟩)
  have HR2 := hide hR2
  have HB2 := hide (HB.out.trans hb2)
  clear hR2 hb2
  go_wp2
  go_ret
  exact ⟨g, cp, rfl, hg, HR2.out, HB2.out⟩
end Go.Proofs.YtjmpldcnhjgpkaaGreatDoor

/-
  The reference's decimal numeral: a contract for every 64-bit integer.
-/
namespace Go.Proofs.YtjmpldcnhjgpkaaGreatDoor
open Go.RowKit Mem
set_option linter.unusedVariables false
set_option maxRecDepth 100000

/-- The cells of bytes. -/
abbrev by8 (bs : List UInt8) : List Value := bs.map fun b : UInt8 => Value.int .u8 (b.toNat : Int)
theorem info_u8 : (Tryz.prog.info? 5).map (fun i => (i.zero, i.size, i.bytes)) = some (some (.int .u8 0), 1, 1) := by kernel_rfl

/-- What is known of the digits and the rest. -/
def DecAt (n : Int) (L : List UInt8) (r : Int) : Prop :=
  L.length ≤ 20 ∧ (-9223372036854775808 ≤ r ∧ r ≤ 9223372036854775807) ∧ ((L = [] ∧ r = n) ∨ (L ≠ [] ∧ (r ≠ 0 → Lib.decDigits n.natAbs = Lib.decDigits r.natAbs ++ L) ∧ (r = 0 → Lib.decDigits n.natAbs = L)))
theorem decDigits_split (u : Nat) (h : ¬ u < 10) : Lib.decDigits u = Lib.decDigits (u / 10) ++ [UInt8.ofNat (48 + u % 10)] := by rw [Lib.decDigits, dif_neg h]
theorem decDigits_one (u : Nat) (h : u < 10) : Lib.decDigits u = [UInt8.ofNat (48 + u)] := by rw [Lib.decDigits, dif_pos h]
theorem tdiv_abs (r : Int) : (r.tdiv 10).natAbs = r.natAbs / 10 := by rw [Int.natAbs_tdiv]; rfl
theorem tmod_abs (r : Int) : (r.tmod 10).natAbs = r.natAbs % 10 := by rw [Int.natAbs_tmod]; rfl
theorem dec_len (u : Nat) : (Lib.decDigits u).length = Lib.nDigits u := by rw [Lib.decDigits_eq]; simp
theorem dec_pos (u : Nat) : Lib.decDigits u ≠ [] := by
  intro h
  have h1 := dec_len u
  rw [h] at h1
  have := Lib.nDigits_pos u
  simp at h1
  omega
theorem nDigits_le {u : Nat} (h : u ≤ 9223372036854775808) : Lib.nDigits u ≤ 19 := by
  rcases Nat.lt_or_ge 19 (Lib.nDigits u) with h1 | h1
  · exfalso
    have h3 : 10 ^ 18 ≤ u ∨ u < 10 ^ 18 := by omega
    rcases h3 with h3 | h3
    · have := Lib.nDigits_unique 18 u h3 (by omega)
      omega
    · have h4 : ∀ k, ∀ v, v < 10 ^ (k + 1) → Lib.nDigits v ≤ k + 1 := by
        intro k
        induction k with
        | zero => intro v hv; rw [Lib.nDigits_small (by omega)]; omega
        | succ k ih =>
          intro v hv
          by_cases hs : v < 10
          · rw [Lib.nDigits_small hs]; omega
          · rw [Lib.nDigits_big hs]
            have := ih (v / 10) (by rw [Nat.pow_succ] at hv; omega)
            omega
      have := h4 17 u h3
      omega
  · exact h1
theorem dec_step {n r : Int} {L : List UInt8} (hn : n.natAbs ≤ 9223372036854775808) (h : DecAt n L r) (hc : L = [] ∨ r ≠ 0) : DecAt n (UInt8.ofNat (48 + (r.tmod 10).natAbs) :: L) (r.tdiv 10) := by
  obtain ⟨h1, h2, h3⟩ := h
  have e1 := tdiv_abs r
  have e2 := tmod_abs r
  have key : ∀ u, (u = r.natAbs) → (u / 10 ≠ 0 → Lib.decDigits u = Lib.decDigits (u / 10) ++ [UInt8.ofNat (48 + u % 10)]) ∧ (u / 10 = 0 → Lib.decDigits u = [UInt8.ofNat (48 + u % 10)]) := by
    intro u _
    refine ⟨fun h => decDigits_split u (by omega), fun h => ?_⟩
    rw [decDigits_one u (by omega), Nat.mod_eq_of_lt (by omega)]
  obtain ⟨k1, k2⟩ := key _ rfl
  rw [e2]
  have hfull : ((r.tdiv 10) ≠ 0 → Lib.decDigits n.natAbs = Lib.decDigits (r.tdiv 10).natAbs ++ (UInt8.ofNat (48 + r.natAbs % 10) :: L)) ∧ ((r.tdiv 10) = 0 → Lib.decDigits n.natAbs = UInt8.ofNat (48 + r.natAbs % 10) :: L) := by
    have hr : Lib.decDigits n.natAbs = Lib.decDigits r.natAbs ++ L := by
      rcases h3 with ⟨rfl, rfl⟩ | ⟨hL, h4, h5⟩
      · simp
      · rcases hc with hc | hc
        · exact absurd hc hL
        · exact h4 hc
    constructor
    · intro h
      rw [hr, e1, k1 (by omega)]; simp
    · intro h
      rw [hr, k2 (by omega)]; simp
  refine ⟨?_, by omega, .inr ⟨by simp, hfull.1, hfull.2⟩⟩
  have hlen := dec_len n.natAbs
  have hle := nDigits_le hn
  by_cases h0 : r.tdiv 10 = 0
  · have := congrArg List.length (hfull.2 h0)
    simp only [List.length_cons] at this ⊢
    omega
  · have := congrArg List.length (hfull.1 h0)
    simp only [List.length_cons, List.length_append] at this ⊢
    omega
theorem dec_done {n r : Int} {L : List UInt8} (h : DecAt n L r) (hL : L ≠ []) (hr : r = 0) : Lib.decDigits n.natAbs = L := by
  rcases h.2.2 with ⟨h1, _⟩ | ⟨_, _, h5⟩
  · exact absurd h1 hL
  · exact h5 hr
theorem itoa_of (n : Int) : Lib.itoa n = if n < 0 then 45 :: Lib.decDigits n.natAbs else Lib.decDigits n.natAbs := by
  unfold Lib.itoa
  split
  · rfl
  · congr 1; omega

/-- 'append(row, out...)': a row of the call's own is laid behind another one. -/
theorem wpList_appendN {P : Program} {w : World} {ops : Array Oper} {rest : List Oper} {o : Oper} {a : Act} {Q : Exit → Act → World → Prop} (hgd : o.guard = none) (s x : Operand) (t : TypeId)
    (ho : o.op = .call { callee := .builtin .append, args := #[s, x], argTypes := #[t, t] })
    (base : Nat) (e : TypeId) (z : Value) (by_ : Nat) (hI : (P.info? e).map (fun i => (i.zero, i.size, i.bytes)) = some (some z, 1, by_)) (ht : P.underlying t = some (.slice e)) (hz : z.cells.size = 1)
    (v : Value) (n : Nat) (xs : List Value) (hs : a.eval s = v) (hown : w.ownsRow base e 1 v n xs)
    (ad : Addr) (m c : Nat) (news : List Value) (hx : a.eval x = .slice (some ad) m c) (hl : news.length = m) (hnews : ∀ j u, news[j]? = some u → w.cell? (ad.add j) = some u) (h1 : ∀ u ∈ news, u.oneCell' = true)
    (hn : n + m < 1099511627776) (hby : by_ ≤ 64) (hbase : base ≤ w.heap.size)
    (h : ∀ v' w', w'.ownsRow base e 1 v' (n + m) (xs ++ news) → w.grownBy w' v.ownBlock → wpList P ops Q rest (a.put o.dst v') w') : wpList P ops Q (o :: rest) a w := by
  obtain ⟨i0, hi, hz0, hz1, hz2⟩ := info_parts hI
  refine wpList_append_own _ hgd s x t ho base e i0 z 1 by_ ht hi hz0 hz1 hz2 hz (by decide) v n xs hs hown ad m c news hx (by omega) hnews h1 (by simp [maxLen]; omega) ?_ hbase ?_
  · have : (n + m) * by_ ≤ 1099511627776 * 64 := Nat.mul_le_mul (by omega) hby
    omega
  · intro v' w' h1 h2 _
    exact h v' w' h1 h2
end Go.Proofs.YtjmpldcnhjgpkaaGreatDoor

/-
  strconv.FormatInt of small numbers: the program's Decimal, by the shelf's contract of 'small'.
-/
namespace Go.Proofs.YtjmpldcnhjgpkaaGreatDoor
open Go.RowKit Mem Go.Shelf
set_option linter.unusedVariables false
set_option maxRecDepth 100000

def renSmall : Ren := ⟨fun _ => 112, fun x => if x = 3 then 3 else if x = 4 then 4 else 9, fun x => x⟩
theorem laysSmall : Lays.n283 Tryz.prog renSmall :=
  { mixed := by kernel_rfl, f283 := by kernel_rfl,
    t3 := by kernel_rfl, a3 := fun w => by rfl, z3 := fun w => by rfl, v3 := fun w => by rfl,
    t4 := by kernel_rfl, a4 := fun w => by rfl, z4 := fun w => by rfl, v4 := fun w => by rfl,
    t9 := by kernel_rfl, a9 := fun w => by rfl, z9 := fun w => by rfl, v9 := fun w => by rfl }
theorem small_calls (i : Nat) (h : i < 100) (w : World) : Calls Tryz.prog 112 #[.int .i64 i] w fun e w' => e = .returned (.string ⟨(Lib.decDigits i).toArray⟩) ∧ w' = w :=
  Any.internal_strconv_small laysSmall i h w
theorem formatInt_in (i : Int) (h0 : 0 ≤ i) (h1 : i < 100) (w : World) : Calls Tryz.prog 77 #[.int .i64 i, .int .i64 10] w fun e w' => e = .returned (.string ⟨(Lib.itoa i).toArray⟩) ∧ w' = w := by
  obtain ⟨n, rfl⟩ := Int.eq_ofNat_of_zero_le h0
  have Hs : Hid (Lib.itoa (n : Int) = Lib.decDigits n) := hide (by rw [itoa_of, if_neg (by omega)]; rfl)
  go_enter Tryz.func77, Tryz.ntmps77
  go_wp2_with (go_at_call 112; refine (small_calls n (by omega) _).mono ?_; rintro e w' ⟨rfl, rfl⟩)
  go_ret
  exact ⟨congrArg (fun l : List UInt8 => Ending.returned (.string ⟨l.toArray⟩)) Hs.out.symm, rfl⟩
theorem formatInt_small (i : Int) (h0 : 0 ≤ i) (h1 : i < 100) (w : World) : Calls Tryz.prog 36 #[.int .i64 i, .int .i64 10] w fun e w' => e = .returned (.string ⟨(Lib.itoa i).toArray⟩) ∧ w' = w := by
  go_enter Tryz.func36, Tryz.ntmps36
  go_wp2_with (go_at_call 77; refine (formatInt_in i h0 h1 _).mono ?_; rintro e w' ⟨rfl, rfl⟩)
  go_ret
  exact ⟨rfl, rfl⟩
theorem i_Decimal (i : Int) (h0 : 0 ≤ i) (h1 : i < 100) (w : World) : Calls Tryz.prog 12 #[.int .i64 i] w fun e w' => e = .returned (.string ⟨(Lib.itoa i).toArray⟩) ∧ w' = w := by
  go_enter Tryz.func12, Tryz.ntmps12
  go_wp2_with (go_at_call 36; refine (formatInt_small i h0 h1 _).mono ?_; rintro e w' ⟨rfl, rfl⟩)
  go_ret
  exact ⟨rfl, rfl⟩
end Go.Proofs.YtjmpldcnhjgpkaaGreatDoor

/-
  PlanText: both sides.
-/
namespace Go.Proofs.YtjmpldcnhjgpkaaGreatDoor
open Go.RowKit Mem
set_option linter.unusedVariables false
set_option maxRecDepth 100000

def planOkT (sz ac : Int) : Bool := inB sz 1 40 && inB ac 0 sz
set_option maxHeartbeats 1000000 in
theorem i_ValidPlanT {a b : Int} {w : World} : Calls Tryz.prog 33 #[.agg #[.int .i64 a, .int .i64 b]] w fun e w' => e = .returned (.bool (planOkT a b)) ∧ Below w.heap.size w w' := by
  cases h1 : inB a 1 40 with
  | false =>
    go_enter Tryz.func33, Tryz.ntmps33
    go_wp2_with (go_at_call 54; refine (i_within _ _ _ _).mono ?_; rintro e w' ⟨rfl, rfl⟩)
    go_ret
    exact ⟨ret_bool (by unfold planOkT; rw [h1]; rfl), (by repeat (first | exact Below.refl _ _ | exact below_drewN (by assumption) _ | refine below_drewN ?_ _ | refine Below.alloc ?_ (by first | (simp; done) | (simp; omega)) _ | assumption))⟩
  | true =>
    go_enter Tryz.func33, Tryz.ntmps33
    go_wp2_with (go_at_call 54; refine (i_within _ _ _ _).mono ?_; rintro e w' ⟨rfl, rfl⟩)
    go_ret
    exact ⟨ret_bool (by unfold planOkT; rw [h1]; rfl), (by repeat (first | exact Below.refl _ _ | exact below_drewN (by assumption) _ | refine below_drewN ?_ _ | refine Below.alloc ?_ (by first | (simp; done) | (simp; omega)) _ | assumption))⟩
theorem below_undrew {w w' : World} (h : Below w.drew.heap.size w.drew w') : Below w.heap.size w w' := ⟨h.os, h.tape, h.output, h.size, h.block⟩
theorem plan_rng {sz ac : Int} (h : planOkT sz ac = true) : 0 ≤ sz ∧ sz < 100 ∧ 0 ≤ ac ∧ ac < 100 := by
  unfold planOkT inB at h
  simp at h
  omega
/-- The text of a number. -/
def numS (n : Int) : ByteArray := ⟨(Lib.itoa n).toArray⟩
def planS (sz ac : Int) : ByteArray := (numS sz ++ ⟨#[47]⟩) ++ numS ac
theorem numS_size {n : Int} (h : n.natAbs ≤ 9223372036854775808) : (numS n).size ≤ 20 := by
  show (Lib.itoa n).toArray.size ≤ 20
  rw [List.size_toArray, itoa_of]
  have h1 := dec_len n.natAbs
  have h2 := nDigits_le h
  split
  · simp only [List.length_cons]; omega
  · omega
theorem i_DecimalS (i : Int) (h0 : 0 ≤ i) (h1 : i < 100) (w : World) : Calls Tryz.prog 12 #[.int .i64 i] w fun e w' => e = .returned (.string (numS i)) ∧ w' = w := i_Decimal i h0 h1 w
set_option maxHeartbeats 400000 in
theorem i_PlanText_no {sz ac : Int} {w : World} (h : planOkT sz ac = false) : Calls Tryz.prog 10 #[.agg #[.int .i64 sz, .int .i64 ac]] w fun e w' => e = .returned (.tuple #[.string ⟨#[]⟩, .bool false]) ∧ Below w.heap.size w w' := by
  go_enter Tryz.func10, Tryz.ntmps10
  go_wp2_with (go_at_call 33; refine i_ValidPlanT.mono ?_; rintro e w1 ⟨rfl, hb⟩)
  go_ret2
  exact ⟨rfl, ((Below.refl w.heap.size w).alloc (Nat.le_refl _) _).trans (hb.mono (by simp))⟩
set_option maxHeartbeats 400000 in
theorem i_PlanText {sz ac : Int} {w : World} (h : planOkT sz ac = true) : Calls Tryz.prog 10 #[.agg #[.int .i64 sz, .int .i64 ac]] w fun e w' => e = .returned (.tuple #[.string (planS sz ac), .bool true]) ∧ Below w.heap.size w w' := by
  obtain ⟨r1, r2, r3, r4⟩ := plan_rng h
  have u1 := numS_size (n := sz) (by omega)
  have u2 := numS_size (n := ac) (by omega)
  have hs1 := fun w => run_string_add_sum (P := Tryz.prog) w (numS sz) ⟨#[47]⟩ (by have : ByteArray.size ⟨#[47]⟩ = 1 := rfl; omega)
  have hs2 := fun w => run_string_add_sum (P := Tryz.prog) w (numS sz ++ ⟨#[47]⟩) (numS ac) (by have : ByteArray.size ⟨#[47]⟩ = 1 := rfl; rw [ByteArray.size_append]; omega)
  clear u1 u2
  go_enter Tryz.func10, Tryz.ntmps10
  go_wp2_with fail
  refine i_ValidPlanT.mono ?_
  rintro e w1 ⟨rfl, hb⟩
  have c0 : w1.cell? ⟨w.heap.size, 0, none⟩ = some (.int .i64 sz) := ((Blk.new w _ _).below hb (by simp)).cell 0
  have c1 : w1.cell? ⟨w.heap.size, 1, none⟩ = some (.int .i64 ac) := ((Blk.new w _ _).below hb (by simp)).cell 1
  rw [h]
  go_wp2
  go_quiet ((go_at_call 12; exact Calls.quiet_of_same (i_DecimalS _ (by omega) (by omega) _)))
  go_wp2
  go_ret2
  exact ⟨rfl, below_drewN (((Below.refl w.heap.size w).alloc (Nat.le_refl _) _).trans (hb.mono (by simp))) _⟩

end Go.Proofs.YtjmpldcnhjgpkaaGreatDoor
