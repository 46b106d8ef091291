/-
  The least sets of a list: the program's walk over the library's DeleteFunc, and 'least' itself.
-/
import Derived.Test.YtjfmjeffmnjilaaSysQ
import Derived.Test.YtjfmjeffmnjilaaLaySortI
import Derived.Test.YtjfmjeffmnjilaaLayCompactI
import Derived.Test.YtjfmjeffmnjilaaLayCloneI
import Derived.Shelf.SortM.Plain
import Derived.Shelf.SlicesE.Clone
import Derived.Shelf.SlicesE.Compact
import Derived.Lib.OwnBridge
namespace Go.Proofs.Ytjfmjeffmnjilaa
open Go.RowKit Fl Mem Go.Sort Go.Lib Go.Shelf
set_option linter.unusedVariables false
set_option maxRecDepth 100000

theorem kept_all {kp : Nat → Bool} {p : Int → Bool} {ys : List Int} (hk : ∀ j, j < ys.length → kp j = p ys.toArray[j]!) : keptUpTo kp ys.toArray ys.toArray.size = ys.filter p := by
  unfold keptUpTo
  have e : (List.range ys.toArray.size).map (ys.toArray[·]!) = ys := by
    apply List.ext_getElem
    · simp
    · intro i h1 h2
      have h3 : i < ys.toArray.size := by simpa using h2
      rw [List.getElem_map, List.getElem_range, getElem!_pos ys.toArray i h3]
      simp
  have h3 : (List.range ys.toArray.size).filter kp = (List.range ys.toArray.size).filter (p ∘ (ys.toArray[·]!)) := List.filter_congr (fun j hj => by rw [List.mem_range] at hj; exact hk j (by simpa using hj))
  rw [h3, ← List.filter_map, e]
theorem ixf_some {α : Type} {p : α → Bool} {xs : List α} {k : Nat} (h : ixf p xs = k) : ∃ hk : k < xs.length, p xs[k] = true ∧ ∀ j (hj : j < k), p (xs[j]'(by omega)) = false := by
  unfold ixf at h
  cases h1 : xs.findIdx? p with
  | none => rw [h1] at h; simp only at h; omega
  | some i =>
    rw [h1] at h
    simp only at h
    obtain rfl : i = k := by omega
    rw [List.findIdx?_eq_some_iff_getElem] at h1
    obtain ⟨hi, hp, hn⟩ := h1
    exact ⟨hi, hp, fun j hj => by simpa using hn j hj⟩
theorem ixf_neg {α : Type} {p : α → Bool} {xs : List α} (h : ∀ k : Nat, ixf p xs ≠ k) : ixf p xs = -1 ∧ xs.filter (fun x => !p x) = xs := by
  unfold ixf at h ⊢
  cases h1 : xs.findIdx? p with
  | none =>
    refine ⟨rfl, ?_⟩
    rw [List.findIdx?_eq_none_iff] at h1
    rw [List.filter_eq_self]
    intro a ha
    simp [h1 a ha]
  | some i => exact absurd (by rw [h1]) (h i)
theorem bel_setCells {B b : Nat} {a w : World} (hb : B ≤ b) (h : Below B a w) (o : Nat) (vs : List Value) : Below B a (w.setCells b o vs) := Go.Lib.below_setCells b hb vs o h
set_option maxHeartbeats 2000000 in
theorem deleteFunc_l1 {A : Option Addr} {n c B bs g cap : Nat} {xs ys : List Int} {w : World} (h : Reads w B 1 A n (il xs)) (hn : n ≤ maxLen) (hc : w.cell? ⟨bs, 0, none⟩ = some (.slice A n c)) (hbs : bs < B) (hBg : B ≤ g) (hg : g < w.heap.size)
    (hy : Holds eI w g 0 ys.toArray) (hcap : ys.length ≤ cap) (hm : ys.length ≤ 1048576) :
    Calls Try.prog 105 #[.slice (some ⟨g, 0, none⟩) ys.length cap, .func (.func 106) #[] #[.pointer (some ⟨bs, 0, none⟩)]] w fun e w' => ∃ k, e = .returned (.slice (some ⟨g, 0, none⟩) k cap) ∧ Reads w' w'.heap.size 1 (some ⟨g, 0, none⟩) k (il (ys.filter fun x => !badS xs x)) ∧ Below B w w' := by
  have hIF := indexFunc_l1 (cap := cap) h (by omega) hn hc (by omega) (holds_reads hy hg rfl) (by unfold maxLen; omega)
  by_cases hk : ∀ k : Nat, ixf (badS xs) ys ≠ k
  · obtain ⟨e1, e2⟩ := ixf_neg hk
    rw [e1] at hIF
    have Hy := hide hy
    clear hk
    go_enter Try.func105, Try.ntmps105
    go_wp2_with (go_at_call 121; refine hIF.mono ?_; rintro e w1 ⟨rfl, hb⟩)
    go_ret
    exact ⟨_, rfl, by rw [e2]; exact holds_reads (holds_bel Hy.out hb hg) (Nat.lt_of_lt_of_le hg hb.size) rfl, hb.mono (by omega)⟩
  · obtain ⟨k0, e1⟩ : ∃ k : Nat, ixf (badS xs) ys = k := Classical.byContradiction fun hn => hk fun k e => hn ⟨k, e⟩
    obtain ⟨hk0, hp0, hall⟩ := ixf_some e1
    rw [e1] at hIF
    have hne1 : ((k0 : Int) == -1) = false := beq_eq_false_iff_ne.2 (by omega)
    obtain ⟨kp, HK⟩ : ∃ kp : Nat → Bool, Hid (kp = fun j => !badS xs ys.toArray[j]!) := ⟨_, rfl⟩
    have ga : ∀ j (hj : j < ys.length), ys.toArray[j]! = ys[j] := fun j hj => by rw [getElem!_pos ys.toArray j (by simpa using hj)]; simp
    have HI : Hid (KeptInv kp ys.toArray (k0 + 1) k0 ys.toArray) := hide (KeptInv.start (fun j hj => by rw [HK.out]; show (!badS xs ys.toArray[j]!) = true; rw [ga j (by omega), hall j hj]; rfl) (by rw [HK.out]; show (!badS xs ys.toArray[k0]!) = false; rw [ga k0 hk0, hp0]; rfl))
    have Hy := hide hy
    have Ga := hide ga
    have hsz0 : ys.toArray.size = ys.length := by simp
    obtain ⟨m, hmm⟩ : ∃ m, m = ys.length := ⟨_, rfl⟩
    rw [← hmm] at hIF hcap hm hk0 hsz0 ⊢
    have HM := hide hmm
    clear hk e1 hp0 hall ga hy hmm
    go_enter Try.func105, Try.ntmps105
    go_wp2_with (go_at_call 121; refine hIF.mono ?_; rintro e w1 ⟨rfl, hb⟩)
    have Hb := hide hb
    have hb1 := hb.mono (show B ≤ w.heap.size by omega)
    have hy1 := hide (holds_bel Hy.out hb hg)
    have hg1 : g < w1.heap.size := Nat.lt_of_lt_of_le hg hb.size
    clear hb hIF
    go_loopw [5, 6, 7] (fun s5 s6 _ wr => ∃ (i j : Nat) (dk : Array Int), s5 = .int .i64 i ∧ s6 = .int .i64 j ∧ j ≤ m ∧ Below B w wr ∧ Hid (Holds eI wr g 0 dk) ∧ g < wr.heap.size ∧ Hid (KeptInv kp ys.toArray j i dk)) (fun _ s6 _ _ => m - (intOf s6).toNat)
    case atStart => exact ⟨k0, k0 + 1, ys.toArray, rfl, by go_num, by omega, hb1, hy1, hg1, HI⟩
    case round =>
      obtain ⟨i, j, dk, rfl, rfl, hjm, hbel, HH, hgr, I2⟩ := hrel
      have hij := I2.out.lt
      have hds : dk.size = m := by rw [I2.out.size, hsz0]
      by_cases hlt : j < m
      · have hltz : (j : Int) < (m : Int) := by omega
        have cj : wr.cell? ⟨g, 0 + j, none⟩ = some (.int .i64 dk[j]!) := (HH.out j (by omega)).1
        have ci : wr.cell? ⟨g, 0 + i, none⟩ = some (.int .i64 dk[i]!) := (HH.out i (by omega)).1
        have fi : wr.frozen? ⟨g, 0 + i, none⟩ = false := (HH.out i (by omega)).2
        rw [I2.out.high j (by omega)] at cj
        rw [Nat.zero_add] at cj ci fi
        have h1 := h.below hbel
        have hc1 : wr.cell? ⟨bs, 0, none⟩ = some (.slice A n c) := (hbel.cell hbs).trans hc
        generalize hu : ys.toArray[j]! = u at cj
        generalize dk[i]! = old at ci
        have C := hide hu
        clear hu
        cases hq : badS xs u with
        | false =>
          have ci' : (wr.alloc (.cells #[.int .i64 u] 2)).cell? ⟨g, i, none⟩ = some (.int .i64 old) := by rw [← ci]; exact World.cell?_alloc_lt _ _ _ hgr
          have fi' : (wr.alloc (.cells #[.int .i64 u] 2)).frozen? ⟨g, i, none⟩ = false := by
            rw [((Below.refl wr.heap.size wr).alloc (Nat.le_refl _) _).frozen (p := ⟨g, i, none⟩) hgr]
            exact fi
          go_wp2_with (go_at_call 106; refine (least_1 h1 (by omega) hn hc1 (by omega)).mono ?_; rintro e w' ⟨rfl, rfl⟩; rw [hq])
          go_roundw
          case rel =>
            have hH1 : Holds eI (wr.setCell ⟨g, i, none⟩ (.int .i64 u)) g 0 (dk.setIfInBounds i u) := by
              have := holds_setC HH.out (show i < dk.size by omega) u
              rw [Nat.zero_add] at this
              exact this
            have hs1 : (wr.setCell ⟨g, i, none⟩ (.int .i64 u)).heap.size = wr.heap.size := by simp [World.setCell]
            refine ⟨i + 1, j + 1, dk.setIfInBounds i u, by go_num, by go_num, by omega, (hbel.setCell (p := ⟨g, i, none⟩) hBg _).alloc (by omega) _, hide (holds_bel hH1 ((Below.refl _ _).alloc (Nat.le_refl _) _) (by omega)), by rw [World.size_alloc]; omega, hide ?_⟩
            · have := I2.out.keep (by omega) (by rw [HK.out]; show (!badS xs ys.toArray[j]!) = true; rw [C.out, hq]; rfl)
              rwa [C.out] at this
          case measure => simp [intOf]; omega
        | true =>
          go_wp2_with (go_at_call 106; refine (least_1 h1 (by omega) hn hc1 (by omega)).mono ?_; rintro e w' ⟨rfl, rfl⟩; rw [hq])
          go_roundw
          case rel => exact ⟨i, j + 1, dk, rfl, by go_num, by omega, hbel.alloc (by omega) _, hide (holds_bel HH.out ((Below.refl wr.heap.size wr).alloc (Nat.le_refl _) _) hgr), by simp; omega, hide (I2.out.skip (by rw [HK.out]; show (!badS xs ys.toArray[j]!) = false; rw [C.out, hq]; rfl))⟩
          case measure => simp [intOf]; omega
      · obtain rfl : j = m := by omega
        have hltz : ¬ (j : Int) < (j : Int) := by omega
        have hcl : ∀ ty, (Builtin.clear_ #[28] ty #[.slice (some ⟨g, i, none⟩) (j - i) (cap - i)]).run Try.prog wr = .ok (.tuple #[]) (wr.setCells g i (List.replicate (j - i) (eI 0))) :=
          fun ty => Lib.run_clear_slice wr _ _ ty _ Try.underlying28 Try.zeroValue2 rfl rfl g i _ _ (by omega) (fun t ht => by have := (HH.out (i + t) (by omega)).1; rw [Nat.zero_add] at this; rw [this]; rfl) (fun t ht => by have := (HH.out (i + t) (by omega)).2; rwa [Nat.zero_add] at this)
        go_wp2
        go_ret
        have hI := I2.out
        have hlen := hI.len
        rw [show j = ys.toArray.size by omega, kept_all (p := fun x => !badS xs x) (fun t ht => by rw [HK.out])] at hlen
        refine ⟨_, rfl, ?_, bel_setCells (B := B) hBg hbel i _⟩
        refine ⟨by simp [hlen], fun h0 => ⟨_, rfl, by have := (Go.Lib.below_setCells g (Nat.zero_le _) (List.replicate (j - i) (eI 0)) i (Below.refl 0 wr)).size; show g < _; omega, fun t u hu => ?_⟩⟩
        rw [List.getElem?_map, Option.map_eq_some_iff] at hu
        obtain ⟨a, ha, rfl⟩ := hu
        have hti : t < i := by rw [← hlen]; exact (List.getElem?_eq_some_iff.1 ha).1
        rw [Addr.add_lit, Nat.zero_add, World.cell?_setCells_out g _ i wr _ (fun _ _ => .inl hti)]
        have h5 := (HH.out t (by omega)).1
        rw [Nat.zero_add] at h5
        rw [h5]
        have h6 := hI.low t hti
        rw [show j = ys.toArray.size by omega, kept_all (p := fun x => !badS xs x) (fun t ht => by rw [HK.out])] at h6
        rw [ha] at h6
        injection h6 with h6
        rw [h6]
end Go.Proofs.Ytjfmjeffmnjilaa
