/-
  ReadNumbers, as the program has it.
-/
import Derived.Test.YtnpccnhamohnkaaGreatDoorNumR
import Derived.Maps.AppendAt
namespace Go.Proofs.YtnpccnhamohnkaaGreatDoor
open Go.RowKit Mem Fl Go.Shelf
set_option linter.unusedVariables false
set_option maxRecDepth 100000

theorem wpList_append1b {P : Program} {w0 w : World} {ops : Array Oper} {rest : List Oper} {o : Oper} {a : Act} {Q : Exit → Act → World → Prop} (hgd : o.guard = none) (s x : Operand) (t : TypeId)
    (ho : o.op = .call { callee := .builtin .append, args := #[s, x], argTypes := #[t, t] })
    (base : Nat) (e : TypeId) (z u : Value) (by_ : Nat) (hI : (P.info? e).map (fun i => (i.zero, i.size, i.bytes)) = some (some z, 1, by_)) (ht : P.underlying t = some (.slice e)) (hz : z.cells.size = 1)
    (hw : w = w0.alloc (.cells #[u] e)) (v : Value) (n : Nat) (xs : List Value) (hs : a.eval s = v) (hown : w0.ownsRow base e 1 v n xs)
    (hx : a.eval x = .slice (some ⟨w0.heap.size, 0, none⟩) 1 1) (hu : u.oneCell' = true)
    (hn : n < 1099511627776) (hby : by_ ≤ 64) (hbase : base ≤ w0.heap.size)
    (h : ∀ v' w', w'.ownsRow base e 1 v' (n + 1) (xs ++ [u]) → Below base w0 w' → (∀ g i c, g < w0.heap.size → v.ownBlock ≠ some g → w0.cell? ⟨g, i, none⟩ = some c → w'.cell? ⟨g, i, none⟩ = some c) → (∀ g, g < w0.heap.size → v.ownBlock ≠ some g → v'.ownBlock ≠ some g) → wpList P ops Q rest (a.put o.dst v') w') : wpList P ops Q (o :: rest) a w := by
  subst hw
  obtain ⟨i0, hi, hz0, hz1, hz2⟩ := info_parts hI
  refine wpList_append_own_at _ hgd s x t ho base e i0 z 1 by_ ht hi hz0 hz1 hz2 hz (by decide) v n xs hs (hown.alloc _) ⟨w0.heap.size, 0, none⟩ 1 1 [u] hx rfl (cell_one_new _ _ _) (by simpa using hu) (by simp [maxLen]; omega) ?_ (by simp; omega) ?_
  · have : (n + 1) * by_ ≤ 1099511627776 * 64 := Nat.mul_le_mul (by omega) hby
    omega
  · intro v' w' h1 h2 _ h5
    refine h v' w' h1 (((Below.refl _ _).alloc hbase _).grown h2 (by simp; omega) (fun g hg => (hown.lt g hg).1)) (fun g i c hg hne hc =>
      h2.cell ((World.cell?_alloc_lt _ _ _ hg).trans hc) (fun e => hne e.symm)) (fun g hg hne e => ?_)
    rcases h5 with h5 | h5
    · exact hne (h5 ▸ e)
    · rw [h5] at e
      injection e with e
      rw [World.size_alloc] at e
      omega
theorem pieces_le (s : ByteArray) : (piecesOf s).length ≤ s.size + 1 := by
  unfold piecesOf
  split
  · simp
  · exact splitS_le s 44
set_option maxHeartbeats 1000000 in
theorem i_ReadNumbers {s : ByteArray} {b : Int} {w : World} (hs : s.size ≤ 1048576) (hm : w.cell? ⟨renSplit.g 1, 0, none⟩ = some (.int .i64 b)) (he : Errs w) (ht : w.cell? ⟨8, 15, none⟩ = some (.int .u8 4)) :
    Calls Tryz.prog 55 #[.string s] w fun e w' => NR w.heap.size (numsV s) e w' ∧ Below w.heap.size w w' := by
  have hlt := Go.Clock.block_lt ht
  have hltm := Go.Clock.block_lt hm
  have hpl := pieces_le s
  go_enter Tryz.func55, Tryz.ntmps55
  go_wp2_with fail
  refine (i_pieces hs ((World.cell?_alloc_lt _ _ _ hltm).trans hm)).mono ?_
  rintro e w1 ⟨A, c, rfl, hP, hA, hb⟩
  replace hA : Hid (∀ g, A = some ⟨g, 0, none⟩ → (Value.slice (some ⟨w.heap.size, 0, none⟩) 0 0).ownBlock ≠ some g) := hide (fun g hg e => by
    injection e with e
    have := hA g hg
    rw [World.size_alloc] at this
    change w.heap.size = g at e
    omega)
  have bel1 : Below w.heap.size w w1 := ((Below.refl _ _).alloc (Nat.le_refl _) _).trans (hb.mono (by simp))
  have own1 : Hid (w1.ownsRow w.heap.size 37 1 (.slice (some ⟨w.heap.size, 0, none⟩) 0 0) 0 (fl .f32 [])) := hide (own_below (World.ownsRow_made _ _ _ (Nat.le_refl _) (by simp [maxLen]) (by simp)) hb)
  generalize hn : (piecesOf s).length = n at hpl
  replace hP := hide hP
  replace hn := hide hn
  clear hb
  go_wp2
  go_loopw [4, 13] (fun v i wr => ∃ (k : Nat) (xs : List Nat), k ≤ n ∧ k ≤ 256 ∧ i = .int .i64 k ∧ Hid (xs.length = k) ∧ Hid (wr.ownsRow w.heap.size 37 1 v k (fl .f32 xs)) ∧ Hid (Rd (piecesOf s) xs) ∧ Hid (PR wr A (piecesOf s)) ∧ Hid (∀ g, A = some ⟨g, 0, none⟩ → v.ownBlock ≠ some g) ∧ Below w.heap.size w wr) (fun _ i _ => n - (intOf i).toNat)
  case atStart => exact ⟨0, [], Nat.zero_le _, Nat.zero_le _, rfl, hide rfl, own1, hide (fun i x p h => by simp at h), hP, hA, bel1⟩
  case round =>
    obtain ⟨k, xs, hk, hk6, rfl, hxl, hown, hrd, hpr, hne, hbel⟩ := hrel
    by_cases hk2 : k < n
    · obtain ⟨p, hp⟩ : ∃ p, (piecesOf s)[k]? = some p := ⟨_, List.getElem?_eq_getElem (by rw [hn.out]; exact hk2)⟩
      obtain ⟨g, hAg, hg, hc⟩ := hpr.out k p hp
      have hneg := hide (hne.out g hAg)
      subst hAg
      have hkI : (k : Int) < (n : Int) := by omega
      obtain ⟨A1, c1, rfl⟩ := own_shape hown.out
      by_cases h8 : p.size = 8
      · have h8I : (p.size : Int) = 8 := by omega
        by_cases h6 : k = 256
        · have HR := hide (numsV_long hp (by omega))
          clear hp
          subst h6
          go_wp2
          go_ret2
          exact ⟨NR.no HR.out, hbel⟩
        · have h6I : ¬ (k : Int) = 256 := by omega
          have HC := hide (i_readHex (w := wr) h8 (he.below hbel))
          have Hp := hide hp
          clear hp
          go_wp2_with fail
          refine HC.out.mono ?_
          rintro e w2 ⟨hb2, x, hx, hv, rfl⟩
          have hown2 := hide (own_below hown.out hb2)
          have hbel3 := hbel.trans (hb2.mono hbel.size)
          have hpr2 := hide (hpr.out.below hb2)
          have HRd : Hid (Rd (piecesOf s) (xs ++ [x])) := hide (hrd.out.snoc (by rw [hxl.out]; exact Hp.out) h8 hx hv)
          have HXl : Hid ((xs ++ [x]).length = k + 1) := hide (by simp [hxl.out])
          have hsz := hbel3.size
          have hg2 := Nat.lt_of_lt_of_le hg hb2.size
          clear hc hv hown HC Hp hb2
          have HO0 := fun o => own_below hown2.out ((Below.refl w2.heap.size w2).alloc (Nat.le_refl _) o)
          go_wp2_with (at_builtin; refine wpList_append1b rfl (.tmp 25) (.tmp 28) 22 rfl w.heap.size 37 (.float .f32 0) _ 4 info_f32 Tryz.underlying22 rfl rfl _ _ _ rfl hown2.out (by show Value.slice (some ⟨w2.heap.size, 0, none⟩) 1 1 = _; simp) rfl (by omega) (by omega) hsz ?_)
          intro v' w' hown' hb' hkeep hblk
          have hbel5 := hbel3.trans hb'
          have HO : Hid (w'.ownsRow w.heap.size 37 1 v' (k + 1) (fl .f32 (xs ++ [x]))) := hide (by simpa [fl] using hown')
          have HP : Hid (PR w' (some ⟨g, 0, none⟩) (piecesOf s)) := hide (fun j q hq => by
            obtain ⟨g', e, hg', hc'⟩ := hpr2.out j q hq
            injection e with e
            injection e with e
            subst e
            exact ⟨_, rfl, Nat.lt_of_lt_of_le hg' hb'.size, hkeep _ _ _ hg' hneg.out hc'⟩)
          have HN : Hid (∀ g', (some ⟨g, 0, none⟩ : Option Addr) = some ⟨g', 0, none⟩ → v'.ownBlock ≠ some g') := hide (fun g' e => by
            injection e with e
            injection e with e
            subst e
            exact hblk _ hg2 hneg.out)
          clear hown' hb' hkeep hblk hown2 hpr2 hneg
          go_wp2
          go_roundw
          case rel => exact ⟨k + 1, xs ++ [x], by omega, by omega, by go_num, HXl, HO, HRd, HP, HN, hbel5⟩
          case measure => (simp [intOf]; try omega)
      · have h8I : ¬ (p.size : Int) = 8 := by omega
        have HR := hide (numsV_size hp h8)
        clear hp
        go_wp2
        go_ret2
        exact ⟨NR.no HR.out, hbel⟩
    · obtain rfl : k = n := by omega
      obtain ⟨A1, c1, rfl⟩ := own_shape hown.out
      have hkI : ¬ (k : Int) < (k : Int) := by omega
      have hlt32 := hrd.out.lt (by rw [hxl.out, hn.out]; exact Nat.le_refl _)
      have HNt := hide (i_NumbersText (w := wr) (c := c1) (Reads.of_own hown.out) (fun x hx => wf_lt (hlt32 x hx)) hk6 ((hbel.cell (p := ⟨8, 15, none⟩) hlt).trans ht))
      replace hlt32 := hide hlt32
      rcases numsV_end (by rw [hxl.out, hn.out]) (by rw [hxl.out]; exact hk6) hrd.out with ⟨h1, h2⟩ | ⟨h1, h2⟩
      · have hs1 : (!(joinedB (tx xs)).toList == s.toList) = false := by rw [str_ne, decide_eq_true h1]; rfl
        have HR := hide h2
        clear h1 h2
        go_wp2_with fail
        refine HNt.out.mono ?_
        rintro e w2 ⟨rfl, hb2⟩
        have hown2 := hide (own_below hown.out hb2)
        have hbel2 := hbel.trans (hb2.mono hbel.size)
        clear hown hb2 HNt
        go_wp2
        go_ret2
        exact ⟨NR.yes HR.out hxl.out.symm hown2.out hlt32.out, hbel2⟩
      · have hs1 : (!(joinedB (tx xs)).toList == s.toList) = true := by rw [str_ne, decide_eq_false h1]; rfl
        have HR := hide h2
        clear h1 h2
        go_wp2_with fail
        refine HNt.out.mono ?_
        rintro e w2 ⟨rfl, hb2⟩
        have hbel2 := hbel.trans (hb2.mono hbel.size)
        clear hown hb2 HNt
        go_wp2
        go_ret2
        exact ⟨NR.no HR.out, hbel2⟩
end Go.Proofs.YtnpccnhamohnkaaGreatDoor
