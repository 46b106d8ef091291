/-
  A number, and numbers behind it: both sides' walks.
-/
import Derived.Test.YtnpccnhamohnkaaGreatDoorHeadL
namespace Go.Proofs.YtnpccnhamohnkaaGreatDoor
open Go.RowKit Mem Fl Go.Shelf
set_option linter.unusedVariables false
set_option maxRecDepth 100000

/-- What a number and its list look like. -/
def HRd (base : Nat) (o : Option (Int × List Nat)) (e : Ending) (w' : World) : Prop := ∃ (n : Int) (v : Value), e = .returned (.tuple #[.int .i64 n, v, .bool o.isSome]) ∧ match o with
  | some (m, xs) => n = m ∧ w'.ownsRow base 37 1 v xs.length (fl .f32 xs) ∧ ∀ x ∈ xs, x < 4294967296
  | none => ∃ A ln c, v = .slice A ln c
theorem NR.sl {base : Nat} {o : Option (List Nat)} {v : Value} {w' : World} (h : match o with
    | some xs => w'.ownsRow base 37 1 v xs.length (fl .f32 xs) ∧ ∀ x ∈ xs, x < 4294967296
    | none => v = .slice none 0 0) : ∃ A ln c, v = .slice A ln c := by
  cases o with
  | none => exact ⟨_, _, _, h⟩
  | some xs => obtain ⟨A, c, h⟩ := own_shape h.1; exact ⟨_, _, _, h⟩
theorem HRd.no {base : Nat} {o : Option (Int × List Nat)} {n : Int} {A : Option Addr} {ln c : Nat} {w' : World} (h : o = none) : HRd base o (.returned (.tuple #[.int .i64 n, .slice A ln c, .bool false])) w' := by
  subst h; exact ⟨_, _, rfl, _, _, _, rfl⟩
theorem HRd.yes {base : Nat} {o : Option (Int × List Nat)} {n : Int} {v : Value} {xs : List Nat} {w' : World} (h : o = some (n, xs)) (ho : w'.ownsRow base 37 1 v xs.length (fl .f32 xs)) (hx : ∀ x ∈ xs, x < 4294967296) : HRd base o (.returned (.tuple #[.int .i64 n, v, .bool true])) w' := by
  subst h; exact ⟨_, _, rfl, rfl, ho, hx⟩
theorem own_base {w : World} {b b' : Nat} {e : TypeId} {size n : Nat} {v : Value} {xs : List Value} (h : w.ownsRow b e size v n xs) (hb : b' ≤ b) : w.ownsRow b' e size v n xs := by
  refine ⟨h.1, ?_⟩
  rcases h.2 with h | ⟨g, cap, cur, h1, h2, h3⟩
  · exact .inl h
  · exact .inr ⟨g, cap, cur, h1, Nat.le_trans hb h2, h3⟩
set_option maxHeartbeats 1000000 in
theorem i_readHeaded {t : ByteArray} {bm bs : Int} {w : World} (hs : t.size ≤ 1048576) (hm : w.cell? ⟨renCutF.g 1, 0, none⟩ = some (.int .i64 bm)) (hm2 : w.cell? ⟨renSplit.g 1, 0, none⟩ = some (.int .i64 bs)) (he : Errs w)
    (htab : Lib.TabIs Tryz.prog w "internal/strconv.uint64pow10" .u64 Lib.pow10Tab) (ht : w.cell? ⟨8, 15, none⟩ = some (.int .u8 4)) :
    Calls Tryz.prog 48 #[.string t] w fun e w' => HRd w.heap.size (headV t) e w' ∧ Below w.heap.size w w' := by
  have hlt := Go.Clock.block_lt ht
  have hltm := Go.Clock.block_lt hm2
  have hA := cutA_size 59 t
  have hB := cutB_size 59 t
  have HC := hide (headV_cut t)
  have HN : ∀ (W : World), Below w.heap.size w W → _ := fun W hb => i_ReadNumbers (s := cutB 59 t) (w := W) (by omega) ((hb.cell (p := ⟨renSplit.g 1, 0, none⟩) hltm).trans hm2) (he.below hb) ((hb.cell (p := ⟨8, 15, none⟩) hlt).trans ht)
  have HD : ∀ (W : World), Below w.heap.size w W → _ := fun W hb => i_ReadDecimal (s := cutA 59 t) (w := W) (by omega) (he.below hb) (pow_kept htab hb)
  have HCut := hide (cutS_calls (s := t) (m := 59) (w := w) (by omega) hm)
  replace HN := hide HN
  replace HD := hide HD
  generalize cutA 59 t = A at *
  generalize cutB 59 t = B at *
  generalize cutF 59 t = F at *
  go_enter Tryz.func48, Tryz.ntmps48
  go_wp2_with fail
  refine HCut.out.mono ?_
  rintro e w1 ⟨rfl, nq, rfl⟩
  have bel1 := below_drewN (Below.refl w.heap.size w) nq
  go_wp2_with fail
  refine (HD.out _ bel1).mono ?_
  rintro e w2 ⟨rfl, hb2⟩
  have bel2 := bel1.trans (hb2.mono bel1.size)
  clear hb2
  cases hv : valV A with
  | none =>
    rw [rdV_none hv]
    have HR : Hid (headV t = none) := hide (by rw [HC.out, hv]; cases F <;> rfl)
    clear hv
    go_wp2_with fail
    refine (HN.out _ bel2).mono ?_
    rintro e w3 ⟨⟨v, rfl, hr⟩, hb3⟩
    obtain ⟨vA, vn, vc, rfl⟩ := NR.sl hr
    clear hr
    have bel3 := bel2.trans (hb3.mono bel2.size)
    cases F
    all_goals
      go_wp2
      go_ret3
      exact ⟨HRd.no HR.out, bel3⟩
  | some n =>
    rw [rdV_some hv]
    go_wp2_with fail
    refine (HN.out _ bel2).mono ?_
    rintro e w3 ⟨⟨v, rfl, hr⟩, hb3⟩
    obtain ⟨vA, vn, vc, rfl⟩ := NR.sl hr
    have bel3 := bel2.trans (hb3.mono bel2.size)
    have hsz := bel2.size
    cases hn : numsV B with
    | none =>
      have HR : Hid (headV t = none) := hide (by rw [HC.out, hv, hn]; cases F <;> rfl)
      clear hv hn hr
      simp only [Option.isSome_none]
      cases F
      all_goals
        go_wp2
        go_ret3
        exact ⟨HRd.no HR.out, bel3⟩
    | some xs =>
      rw [hn] at hr
      simp only [Option.isSome_some]
      obtain ⟨ho, hx⟩ := hr
      have HO := hide (own_base ho hsz)
      have HX := hide hx
      clear ho hx
      cases F with
      | true =>
        have HR : Hid (headV t = some (n, xs)) := hide (by rw [HC.out, hv, hn]; rfl)
        clear hv hn
        go_wp2
        go_ret3
        exact ⟨HRd.yes HR.out HO.out HX.out, bel3⟩
      | false =>
        have HR : Hid (headV t = none) := hide (by rw [HC.out]; rfl)
        clear hv hn
        go_wp2
        go_ret3
        exact ⟨HRd.no HR.out, bel3⟩
set_option maxHeartbeats 1000000 in
theorem s_l08Both {t : ByteArray} {w : World} (hs : t.size ≤ 1048576) :
    Calls Tryz.prog 102 #[.string t] w fun e w' => HRd w.heap.size (headV t) e w' ∧ Below w.heap.size w w' := by
  have hpos := splitS_pos t 59
  have hle := splitS_le t 59
  go_enter Tryz.func102, Tryz.ntmps102
  go_wp2_with fail
  refine (s_l01Cut (m := 59) hs).mono ?_
  rintro e w1 ⟨v, rfl, hown, hb⟩
  rw [cutAll_split] at hown
  obtain ⟨g, cap, rfl, hg0, hg, hcap, hcell⟩ := row_of_own hpos hown
  by_cases h2 : (splitS t 59).length = 2
  · obtain ⟨A, B, hAB⟩ : ∃ A B, splitS t 59 = [A, B] := by
      match h : splitS t 59, h2 with
      | [A, B], _ => exact ⟨A, B, rfl⟩
    have HC := hide (headV_two hAB)
    have c0 := hcell 0 (.string A) (by rw [hAB]; rfl)
    have c1 := hcell 1 (.string B) (by rw [hAB]; rfl)
    have hsz : A.size ≤ 1048576 ∧ B.size ≤ 1048576 := by
      rcases cut_split 59 t with ⟨_, h⟩ | ⟨_, h⟩
      · rw [hAB] at h; cases h
      · rw [hAB] at h
        injection h with h3 h4
        have hA := cutA_size 59 t
        have hB := cutB_size 59 t
        rcases cut_split 59 (cutB 59 t) with ⟨_, h5⟩ | ⟨_, h5⟩
        · rw [h5] at h4; injection h4 with h4 _; rw [h3, h4]; omega
        · rw [h5] at h4; injection h4 with h4 h6
          have := splitS_pos (cutB 59 (cutB 59 t)) 59
          rw [← h6] at this; simp at this
    rw [hAB] at hpos hle hown hcap ⊢
    clear hown hcell h2 hAB
    have bel1 := hb
    clear hb
    go_wp2_with fail
    refine (s_l01Value hsz.1).mono ?_
    rintro e w2 ⟨rfl, hb2⟩
    have bel2 := bel1.trans (hb2.mono bel1.size)
    replace c1 := (hb2.cell (p := ⟨g, 1, none⟩) hg).trans c1
    clear hb2 c0
    have hsz2 := bel2.size
    cases hv : valV A with
    | none =>
      rw [rdV_none hv]
      have HR : Hid (headV t = none) := hide (by rw [HC.out, hv]; rfl)
      clear hv
      go_wp2_with fail
      refine (s_l01NRead hsz.2).mono ?_
      rintro e w3 ⟨⟨v, rfl, hr⟩, hb3⟩
      obtain ⟨vA, vn, vc, rfl⟩ := NR.sl hr
      clear hr
      have bel3 := bel2.trans (hb3.mono bel2.size)
      go_wp2
      go_ret3
      exact ⟨HRd.no HR.out, bel3⟩
    | some n =>
      rw [rdV_some hv]
      go_wp2_with fail
      refine (s_l01NRead hsz.2).mono ?_
      rintro e w3 ⟨⟨v, rfl, hr⟩, hb3⟩
      obtain ⟨vA, vn, vc, rfl⟩ := NR.sl hr
      have bel3 := bel2.trans (hb3.mono bel2.size)
      cases hn : numsV B with
      | none =>
        have HR : Hid (headV t = none) := hide (by rw [HC.out, hv, hn]; rfl)
        clear hv hn hr
        simp only [Option.isSome_none]
        go_wp2
        go_ret3
        exact ⟨HRd.no HR.out, bel3⟩
      | some xs =>
        rw [hn] at hr
        simp only [Option.isSome_some]
        obtain ⟨ho, hx⟩ := hr
        have HO := hide (own_base ho hsz2)
        have HX := hide hx
        have HR : Hid (headV t = some (n, xs)) := hide (by rw [HC.out, hv, hn]; rfl)
        clear ho hx hv hn
        go_wp2
        go_ret3
        exact ⟨HRd.yes HR.out HO.out HX.out, bel3⟩
  · have hI : ¬ ((splitS t 59).length : Int) = 2 := by omega
    have HR := hide (headV_len h2)
    clear hown hcell h2
    go_wp2
    go_ret3
    exact ⟨HRd.no HR.out, hb⟩
end Go.Proofs.YtnpccnhamohnkaaGreatDoor
