/-
  The reference's decimal numeral: its walk.
-/
import Derived.Test.YtnpccnhamohnkaaGreatDoorDec
namespace Go.Proofs.YtnpccnhamohnkaaGreatDoor
open Go.RowKit Mem
set_option linter.unusedVariables false
set_option maxRecDepth 100000

def lenOf : Value → Nat
  | .slice _ n _ => n
  | _ => 0
theorem own_lit {w : World} {base : Nat} {e : TypeId} {u : Value} (hb : base ≤ w.heap.size) : (w.alloc (.cells #[u] e)).ownsRow base e 1 (.slice (some ⟨w.heap.size, 0, none⟩) 1 1) 1 [u] :=
  ⟨rfl, .inr ⟨w.heap.size, 1, #[u], rfl, hb, heap_alloc_new w _, by omega, by simp [maxLen], rfl, rfl⟩⟩
/-- The bytes of a row. -/
def Row8 (w : World) (g : Nat) (L : List UInt8) : Prop := ∀ j (hj : j < L.length), w.cell? ⟨g, j, none⟩ = some (.int .u8 (L[j].toNat : Int))
theorem row8_own {w : World} {base m : Nat} {v : Value} {xs : List Value} {L : List UInt8} (hne : L ≠ []) (h : w.ownsRow base 5 1 v m xs) (hx : xs = by8 L) (hm : L.length = m) : ∃ g cap, v = .slice (some ⟨g, 0, none⟩) m cap ∧ base ≤ g ∧ g < w.heap.size ∧ Row8 w g L := by
  subst hx hm
  have hlen : 0 < L.length := List.length_pos_iff.2 hne
  obtain ⟨h1, h2⟩ := h
  rcases h2 with ⟨_, h2⟩ | ⟨g, cap, cur, rfl, hb, hg, hn, hc, hs, ht⟩
  · omega
  · refine ⟨g, cap, rfl, hb, ?_, fun j hj => ?_⟩
    · exact (Array.getElem?_eq_some_iff.1 hg).1
    · rw [cell_of_row w g j cur _ _ hg]
      have : (by8 L)[j]? = some (.int .u8 (L[j].toNat : Int)) := by simp [hj]
      rw [← ht, List.getElem?_take, if_pos (by omega)] at this
      rwa [← Array.getElem?_toList]
theorem by8_get {w : World} {g : Nat} {L : List UInt8} (h : Row8 w g L) : ∀ j u, (by8 L)[j]? = some u → w.cell? ((⟨g, 0, none⟩ : Addr).add j) = some u := by
  intro j u hu
  have hj : j < L.length := by have := (List.getElem?_eq_some_iff.1 hu).1; simpa using this
  have := h j hj
  simp [hj] at hu
  subst hu
  by_cases h0 : j = 0
  · subst h0; simpa [Addr.add] using this
  · simpa [Addr.add, h0] using this
theorem by8_one {L : List UInt8} : ∀ u ∈ by8 L, u.oneCell' = true := by
  intro u hu
  simp at hu
  obtain ⟨b, _, rfl⟩ := hu
  rfl

theorem dig_val (k : Nat) (h : k < 10) : (((UInt8.ofNat (48 + k)).toNat : Nat) : Int) = 48 + (k : Int) := by
  have : (UInt8.ofNat (48 + k)).toNat = 48 + k := by simp [UInt8.toNat_ofNat']; omega
  rw [this]; push_cast; rfl
theorem dig_neg {r : Int} (h : r.tmod 10 < 0) : wrap64 (48 + wrap64 (-r.tmod 10)) % 256 = (((UInt8.ofNat (48 + (r.tmod 10).natAbs)).toNat : Nat) : Int) := by
  have h2 := tmod_abs r
  rw [dig_val _ (by omega)]
  unfold wrap64
  omega
theorem dig_pos {r : Int} (h : ¬ r.tmod 10 < 0) : wrap64 (48 + r.tmod 10) % 256 = (((UInt8.ofNat (48 + (r.tmod 10).natAbs)).toNat : Nat) : Int) := by
  have h2 := tmod_abs r
  rw [dig_val _ (by omega)]
  unfold wrap64
  omega
theorem row8_one {w : World} {g : Nat} {b : UInt8} {v : Int} (h : w.cell? ⟨g, 0, none⟩ = some (.int .u8 v)) (hv : v = (b.toNat : Int)) : Row8 w g [b] := by
  intro j hj
  obtain rfl : j = 0 := by simp at hj; exact hj
  rw [h, hv]; rfl
theorem dec_meas {r : Int} {m : Nat} (h : r ≠ 0 ∨ m = 0) : (r.tdiv 10).natAbs < r.natAbs + (if m = 0 then 1 else 0) := by
  rw [tdiv_abs]
  rcases h with h | h
  · split <;> omega
  · rw [if_pos h]; omega

theorem add_zero' (g j : Nat) : (⟨g, 0, none⟩ : Addr).add j = ⟨g, j, none⟩ := by
  by_cases h0 : j = 0
  · subst h0; simp [Addr.add]
  · simp [Addr.add, h0]
theorem conv_row {w : World} {g m cap : Nat} {L : List UInt8} (h : Row8 w g L) (hm : L.length = m) : (convert 35 9 (.slice (some ⟨g, 0, none⟩) m cap)).run Tryz.prog w = .ok (.string ⟨L.toArray⟩) w := by
  subst hm
  exact run_convert_bytes_back w _ _ 5 _ cap L Tryz.underlying35 Tryz.underlying5 Tryz.underlying9 (fun j hj => by rw [add_zero']; exact h j hj)
set_option maxHeartbeats 1000000 in
theorem s_l01Dec {n : Int} {w : World} (h0 : -9223372036854775808 ≤ n) (h1 : n ≤ 9223372036854775807) :
    Calls Tryz.prog 154 #[.int .i64 n] w fun e w' => e = .returned (.string ⟨(Lib.itoa n).toArray⟩) ∧ Below w.heap.size w w' := by
  go_enter Tryz.func154, Tryz.ntmps154
  go_wp2
  go_loopw [3, 4] (fun out r wr => ∃ (L : List UInt8) (rr : Int) (g cap : Nat), out = .slice (some ⟨g, 0, none⟩) L.length cap ∧ r = .int .i64 rr ∧ Hid (DecAt n L rr) ∧ w.heap.size ≤ g ∧ g < wr.heap.size ∧ Hid (Row8 wr g L) ∧ Below w.heap.size w wr) (fun out r _ => (intOf r).natAbs + (if lenOf out = 0 then 1 else 0))
  case atStart => exact ⟨[], n, w.heap.size, 0, rfl, rfl, hide ⟨by simp, ⟨h0, h1⟩, .inl ⟨rfl, rfl⟩⟩, Nat.le_refl _, by simp, hide (fun j hj => by simp at hj), (Below.refl _ _).alloc (Nat.le_refl _) _⟩
  case round =>
    obtain ⟨L, rr, g, cap, rfl, rfl, hd, hg, hgl, hrow, hbel⟩ := hrel
    have hd1 := hd.out.1
    have hd2 := hd.out.2.1
    by_cases hL : L = []
    · subst hL
      by_cases hneg : rr.tmod 10 < 0
      · have hdg := hide (dig_neg hneg)
        go_wp2
        go_roundw
        case rel => exact ⟨[UInt8.ofNat (48 + (rr.tmod 10).natAbs)], rr.tdiv 10, wr.heap.size, 1, rfl, rfl, hide (dec_step (by omega) hd.out (.inl rfl)), hbel.size, by simp, hide (row8_one (by first | rfl | (simp; done)) hdg.out), hbel.alloc hbel.size _⟩
        case measure => simpa [intOf, lenOf] using dec_meas (r := rr) (m := 0) (.inr rfl)
      · have hdg := hide (dig_pos hneg)
        go_wp2
        go_roundw
        case rel => exact ⟨[UInt8.ofNat (48 + (rr.tmod 10).natAbs)], rr.tdiv 10, wr.heap.size, 1, rfl, rfl, hide (dec_step (by omega) hd.out (.inl rfl)), hbel.size, by simp, hide (row8_one (by first | rfl | (simp; done)) hdg.out), hbel.alloc hbel.size _⟩
        case measure => simpa [intOf, lenOf] using dec_meas (r := rr) (m := 0) (.inr rfl)
    · have hl0 : ¬ ((L.length : Int) = 0) := by have := List.length_pos_iff.2 hL; omega
      have hbw : w.heap.size ≤ wr.heap.size := hbel.size
      have hnews := fun (o : Obj) => by8_get (w := wr.alloc o) (g := g) (L := L) (fun j hj => by rw [World.cell?_alloc_lt _ _ _ hgl]; exact hrow.out j hj)
      by_cases hr : rr = 0
      · have hdone := hide (dec_done hd.out hL hr)
        subst hr
        by_cases hn0 : n < 0
        · have Hs : Hid (Lib.itoa n = 45 :: L) := hide (by rw [itoa_of, if_pos hn0, hdone.out])
          go_wp2_with (at_builtin; refine wpList_appendN rfl (.tmp 31) (.tmp 32) 35 rfl w.heap.size 5 (.int .u8 0) 1 info_u8 Tryz.underlying35 rfl _ 1 _ rfl (own_lit hbw) ⟨g, 0, none⟩ L.length cap (by8 L) rfl (by simp) (hnews _) by8_one (by omega) (by omega) (by simp; omega) ?_)
          intro v' w' hown' hgr'
          have hbl : Below w.heap.size w w' := (hbel.alloc hbw _).grown hgr' (by simp; omega) (fun k hk => by simp [Value.ownBlock] at hk; omega)
          obtain ⟨g', cap', rfl, hg', hgl', hrow'⟩ := row8_own (L := 45 :: L) (by simp) hown' rfl (by simp [Nat.add_comm])
          have hcv := conv_row (cap := cap') hrow' (show (45 :: L).length = 1 + L.length by simp [Nat.add_comm])
          replace hrow' := hide hrow'
          clear hown' hgr' hnews
          go_wp2
          go_ret
          exact ⟨congrArg (fun l : List UInt8 => Ending.returned (.string ⟨l.toArray⟩)) Hs.out.symm, hbl⟩
        · have Hs : Hid (Lib.itoa n = L) := hide (by rw [itoa_of, if_neg hn0, hdone.out])
          have hcv := conv_row (cap := cap) hrow.out rfl
          clear hnews
          go_wp2
          go_ret
          exact ⟨congrArg (fun l : List UInt8 => Ending.returned (.string ⟨l.toArray⟩)) Hs.out.symm, hbel⟩
      · by_cases hneg : rr.tmod 10 < 0
        · have hdg := hide (dig_neg hneg)
          go_wp2_with (at_builtin; refine wpList_appendN rfl (.tmp 24) (.tmp 25) 35 rfl w.heap.size 5 (.int .u8 0) 1 info_u8 Tryz.underlying35 rfl _ 1 _ rfl (own_lit hbw) ⟨g, 0, none⟩ L.length cap (by8 L) rfl (by simp) (hnews _) by8_one (by omega) (by omega) (by simp; omega) ?_)
          intro v' w' hown' hgr'
          have hbl : Below w.heap.size w w' := (hbel.alloc hbw _).grown hgr' (by simp; omega) (fun k hk => by simp [Value.ownBlock] at hk; omega)
          obtain ⟨g', cap', rfl, hg', hgl', hrow'⟩ := row8_own (L := UInt8.ofNat (48 + (rr.tmod 10).natAbs) :: L) (by simp) hown' (by rw [hdg.out]; rfl) (by simp [Nat.add_comm])
          replace hrow' := hide hrow'
          clear hown' hgr' hnews
          go_wp2
          go_roundw
          case rel => exact ⟨UInt8.ofNat (48 + (rr.tmod 10).natAbs) :: L, rr.tdiv 10, g', cap', by simp [Nat.add_comm], rfl, hide (dec_step (by omega) hd.out (.inr hr)), hg', hgl', hrow', hbl⟩
          case measure => simpa [intOf, lenOf] using dec_meas (r := rr) (m := L.length) (.inl hr)
        · have hdg := hide (dig_pos hneg)
          go_wp2_with (at_builtin; refine wpList_appendN rfl (.tmp 24) (.tmp 25) 35 rfl w.heap.size 5 (.int .u8 0) 1 info_u8 Tryz.underlying35 rfl _ 1 _ rfl (own_lit hbw) ⟨g, 0, none⟩ L.length cap (by8 L) rfl (by simp) (hnews _) by8_one (by omega) (by omega) (by simp; omega) ?_)
          intro v' w' hown' hgr'
          have hbl : Below w.heap.size w w' := (hbel.alloc hbw _).grown hgr' (by simp; omega) (fun k hk => by simp [Value.ownBlock] at hk; omega)
          obtain ⟨g', cap', rfl, hg', hgl', hrow'⟩ := row8_own (L := UInt8.ofNat (48 + (rr.tmod 10).natAbs) :: L) (by simp) hown' (by rw [hdg.out]; rfl) (by simp [Nat.add_comm])
          replace hrow' := hide hrow'
          clear hown' hgr' hnews
          go_wp2
          go_roundw
          case rel => exact ⟨UInt8.ofNat (48 + (rr.tmod 10).natAbs) :: L, rr.tdiv 10, g', cap', by simp [Nat.add_comm], rfl, hide (dec_step (by omega) hd.out (.inr hr)), hg', hgl', hrow', hbl⟩
          case measure => simpa [intOf, lenOf] using dec_meas (r := rr) (m := L.length) (.inl hr)
end Go.Proofs.YtnpccnhamohnkaaGreatDoor
