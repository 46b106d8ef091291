/-
  Marks of lists of texts: contracts of the helpers of the laws.
-/
import Derived.Test.YthflejkkcnglgaaDoorMark
import Derived.Test.YthflejkkcnglgaaDoorDecS
import Derived.Test.YthflejkkcnglgaaDoorStrs
import Derived.Test.YthflejkkcnglgaaDoorCutL
import Derived.Deep.RegionHeld3
import Derived.Laws.Concat
namespace Go.Proofs.YthflejkkcnglgaaDoor
open Go.RowKit Mem
set_option linter.unusedVariables false
set_option maxRecDepth 100000

/-- The mark of a place as a text. -/
def mtx (k : Nat) : ByteArray := ⟨(109 :: Lib.decDigits k).toArray⟩
theorem mtx_size {k : Nat} (h : k ≤ 9223372036854775808) : (mtx k).size ≤ 20 := by
  show (109 :: Lib.decDigits k).toArray.size ≤ 20
  have h1 := nDigits_le h
  rw [List.size_toArray, List.length_cons, dec_len]; omega
def MtAt (K r : Nat) (L : List UInt8) : Prop := (r ≠ 0 → Lib.decDigits K = Lib.decDigits r ++ L) ∧ (r = 0 → Lib.decDigits K = L) ∧ L.length ≤ 20
theorem mt_step {K r : Nat} {L : List UInt8} (hK : K ≤ 9223372036854775807) (h : MtAt K r L) (hr : r ≠ 0) : MtAt K (r / 10) (UInt8.ofNat (48 + r % 10) :: L) := by
  have h1 := h.1 hr
  have hlen := congrArg List.length h1
  have hd := nDigits_le (u := K) (by omega)
  rw [List.length_append, dec_len, dec_len] at hlen
  have hp := Lib.nDigits_pos r
  refine ⟨fun h0 => ?_, fun h0 => ?_, by simp; omega⟩
  · rw [h1, decDigits_split r (by omega)]; simp
  · rw [h1, decDigits_one r (by omega), Nat.mod_eq_of_lt (by omega)]; rfl
set_option maxHeartbeats 1000000 in
theorem l_markText {K : Nat} {w : World} (hK : K ≤ 1099511627776) : Calls Tryd.prog 15 #[.int .i64 (K : Int)] w fun e w' => e = .returned (.string (mtx K)) ∧ Below w.heap.size w w' := by
  rcases Nat.eq_zero_or_pos K with h0 | h0
  · subst h0
    go_enter Tryd.func15, Tryd.ntmps15
    go_wp2
    go_ret
    exact ⟨by unfold mtx; rw [decDigits_one 0 (by omega)]; rfl, Below.refl _ _⟩
  · have i1 : ¬ (K : Int) ≤ 0 := by omega
    go_enter Tryd.func15, Tryd.ntmps15
    go_wp2
    go_loopw [0, 3] (fun kv out wr => ∃ (r : Nat) (L : List UInt8), kv = .int .i64 (r : Int) ∧ out = .string ⟨L.toArray⟩ ∧ r ≤ 1099511627776 ∧ Hid (MtAt K r L) ∧ Below w.heap.size w wr) (fun kv _ _ => (intOf kv).toNat)
    case atStart => exact ⟨K, [], rfl, rfl, hK, hide ⟨fun _ => by simp, fun h => absurd h (by omega), by simp⟩, Below.refl _ _⟩
    case round =>
      obtain ⟨r, L, rfl, rfl, hr, hm, hbel⟩ := hrel
      have hL := hm.out.2.2
      by_cases hr0 : r = 0
      · subst hr0
        have hs := fun w => run_string_add_sum (P := Tryd.prog) w ⟨#[109]⟩ ⟨L.toArray⟩ (by show (1 : Nat) + L.toArray.size ≤ _; rw [List.size_toArray]; omega)
        have HE : Hid (mtx K = ⟨#[109]⟩ ++ ⟨L.toArray⟩) := hide (by
          unfold mtx; rw [hm.out.2.1 rfl]; rfl)
        go_wp2
        go_ret
        exact ⟨by rw [HE.out]; rfl, hbel⟩
      · have HS := hide (mt_step (by omega) hm.out hr0)
        have hr1 : (0 : Int) < r := by omega
        obtain ⟨b, hb, hbv⟩ : ∃ b : UInt8, b = UInt8.ofNat (48 + r % 10) ∧ (48 + (r : Int) % 10) = (b.toNat : Int) := ⟨_, rfl, by rw [dig_val _ (by omega)]; omega⟩
        rw [← hb] at HS
        have hcv := conv_row (w := wr.alloc (.cells #[.int .u8 (48 + (r : Int) % 10)] 5)) (g := wr.heap.size) (m := 1) (cap := 1) (L := [b]) (row8_one (v := 48 + (r : Int) % 10) (by simp) hbv) rfl
        have hs := fun w => run_string_add_sum (P := Tryd.prog) w ⟨[b].toArray⟩ ⟨L.toArray⟩ (by show (1 : Nat) + L.toArray.size ≤ _; rw [List.size_toArray]; omega)
        have HE : Hid ((⟨[b].toArray⟩ : ByteArray) ++ ⟨L.toArray⟩ = ⟨(b :: L).toArray⟩) := hide (by apply ba_ext; simp)
        clear hb hbv
        go_wp2
        go_roundw
        case rel => exact ⟨r / 10, b :: L, by go_num, by rw [← HE.out], by omega, HS, hbel.alloc hbel.size _⟩
        case measure => (simp [intOf]; try omega)
def mkS (k : Int) : Value := .string (mtx k.toNat)
set_option maxHeartbeats 1000000 in
theorem markStringS (v : Value) (n k : Nat) (cs : List Value) (base : Nat) (w : World) (ho : w.ownsRow base 9 1 v n cs) (hn : n + k ≤ 1099511627776) :
    Calls Tryd.prog 8 #[v, .int .i64 (k : Int)] w fun e w' => e = .returned (.int .i64 ((k + n : Nat) : Int)) ∧ w'.ownsRow base 9 1 v n (marksOf mkS k n) ∧ w.grownBy w' v.ownBlock := by
  have hl := own_len ho
  rcases Nat.eq_zero_or_pos n with h0 | h0
  · subst h0
    obtain rfl : cs = [] := List.eq_nil_of_length_eq_zero hl
    obtain ⟨A, c, rfl⟩ := own_shape ho
    go_enter Tryd.func8, Tryd.ntmps8
    go_wp2
    go_loop [1, 5] (fun a i => a = .int .i64 k ∧ i = .int .i64 0) (fun _ _ => 0)
    case atStart => exact ⟨rfl, rfl⟩
    case round =>
      obtain ⟨rfl, rfl⟩ := hrel
      go_wp2
      go_ret
      exact ⟨ret_int (by simp), ho, World.grownBy.refl _ _⟩
  · obtain ⟨g, c, rfl⟩ := own_addr ho h0
    have hbg : g < w.heap.size := (ho.lt g rfl).2
    have Hl := hide hl
    have Ho := hide ho
    clear hl ho
    go_enter Tryd.func8, Tryd.ntmps8
    go_wp2
    go_loopw [1, 5] (fun a i wr => ∃ j : Nat, j ≤ n ∧ a = .int .i64 ((k + j : Nat) : Int) ∧ i = .int .i64 j ∧ Hid (wr.ownsRow base 9 1 (.slice (some ⟨g, 0, none⟩) n c) n (half mkS k j cs)) ∧ Hid (w.grownBy wr (some g))) (fun _ i _ => n - (intOf i).toNat)
    case atStart => exact ⟨0, Nat.zero_le _, by go_num, rfl, by simpa [half, marksOf] using Ho, hide (World.grownBy.refl _ _)⟩
    case round =>
      obtain ⟨j, hj, rfl, rfl, hown, hgr⟩ := hrel
      by_cases hlt : j < n
      · obtain ⟨u, hu⟩ : ∃ u, (half mkS k j cs)[j]? = some u := ⟨_, List.getElem?_eq_getElem (by rw [half_len (by rw [Hl.out]; omega), Hl.out]; exact hlt)⟩
        have hgw := (hown.out.lt g rfl).2
        have h1 : (0 : Int) ≤ j := by omega
        have h2 : (j : Int) < n := by omega
        have h3 : (0 : Int) ≤ ((k + j : Nat) : Int) := by omega
        go_wp2_with fail
        refine (l_markText (by omega)).mono ?_
        rintro e w2 ⟨rfl, hb2⟩
        have hown2 := hide (own_below hown.out hb2)
        have hgr2 := hide (hgr.out.trans (only_of_below (a := wr) hb2 (some g)))
        obtain ⟨hc, hf⟩ := own_cell hown2.out hu
        clear hu hb2 hown hgr
        go_wp2
        go_roundw
        case rel => exact ⟨j + 1, by omega, by go_num, by go_num, by
            have h9 := own_set hown2.out hlt (mkS ((k + j : Nat) : Int))
            rw [half_set (by rw [Hl.out]; exact hlt)] at h9
            exact h9, hide (only_setCell hgr2.out (.inl rfl) _)⟩
        case measure => simp [intOf]; omega
      · go_wp2
        go_ret
        obtain rfl : j = n := by omega
        refine ⟨rfl, ?_, hgr.out⟩
        have h9 := hown.out
        rw [← Hl.out, half_all, Hl.out] at h9
        exact h9
set_option maxHeartbeats 1000000 in
theorem heldStringS (A : Option Addr) (n c k : Nat) (B : Nat) (w : World) (h : Reads w B 1 A n (marksOf mkS k n)) (hB : B ≤ w.heap.size) (hn : n + k ≤ 1099511627776) :
    Calls Tryd.prog 9 #[.slice A n c, .int .i64 (k : Int)] w fun e w' => e = .returned (.int .i64 ((k + n : Nat) : Int)) ∧ Below w.heap.size w w' := by
  go_enter Tryd.func9, Tryd.ntmps9
  go_wp2
  go_loopw [1, 5] (fun a i wr => ∃ j : Nat, j ≤ n ∧ a = .int .i64 ((k + j : Nat) : Int) ∧ i = .int .i64 j ∧ Below w.heap.size w wr) (fun _ i _ => n - (intOf i).toNat)
  case atStart => exact ⟨0, Nat.zero_le _, by go_num, rfl, Below.refl _ _⟩
  case round =>
    obtain ⟨j, hj, rfl, rfl, hbel⟩ := hrel
    by_cases hlt : j < n
    · obtain ⟨ad, u, rfl, had, hx, hc⟩ := (h.below (hbel.mono hB)).at_ hlt
      rw [marksOf_at hlt] at hx
      injection hx with hx
      subst hx
      have hadl : (ad.add j).block < wr.heap.size := by rw [block_of_add]; have := hbel.size; omega
      have hc' : wr.cell? (ad.add j) = some (.string (mtx (k + j))) := by rw [hc]; show some (Value.string (mtx (((k + j : Nat) : Int)).toNat)) = _; rw [Int.toNat_natCast]
      clear hc
      have ne0 := World.new_ne wr _ hc'
      have h3 : (0 : Int) ≤ ((k + j : Nat) : Int) := by omega
      have h4 : (0 : Int) ≤ j := by omega
      have h5 : (j : Int) < n := by omega
      have hs1 : (!(mtx (k + j)).toList == (mtx (k + j)).toList) = false := by simp
      go_wp2_with fail
      go_region_held3 (fun w' => w'.cell? (ad.add j) = some (.string (mtx (k + j)))) (first | assumption | go_keep)
        (first | (go_at_call 15; refine (l_markText (K := k + j) (by omega)).mono ?_; rintro e wd ⟨rfl, hbd⟩; have KD : wd.cell? (ad.add j) = some (.string (mtx (k + j))) := (hbd.cell hadl).trans hc'; have BD := below_undrew hbd))
      all_goals
        have hbel4 := hbel.trans (BD.mono hbel.size)
        go_wp2
        go_roundw
        case rel => exact ⟨j + 1, by omega, by go_num, by go_num, hbel4⟩
        case measure => simp [intOf]; omega
    · go_wp2
      go_ret
      obtain rfl : j = n := by omega
      exact ⟨rfl, hbel⟩
end Go.Proofs.YthflejkkcnglgaaDoor
