/-
  The reference's reading of a decimal text.
-/
import Derived.Test.YtnpccnhamohnkaaGreatDoorVal
namespace Go.Proofs.YtnpccnhamohnkaaGreatDoor
open Go.RowKit Mem Go.Shelf
set_option linter.unusedVariables false
set_option maxRecDepth 100000

theorem digN_take {l : List UInt8} {k : Nat} {b : UInt8} (h : l[k]? = some b) : digN 0 (l.take (k + 1)) = if 48 ≤ b.toNat ∧ b.toNat ≤ 57 then 10 * digN 0 (l.take k) + (b.toNat - 48) else digN 0 (l.take k) := by
  unfold digN; rw [take_eq h, List.foldl_append]; rfl
theorem digN_bd {s : ByteArray} {k : Nat} (h : s.size ≤ 17) : digN 0 (s.data.toList.take k) < 100000000000000000 := by
  have h1 := digN_lt (s.data.toList.take k) 0
  have hl : s.data.toList.length = s.size := Array.length_toList
  have h2 : (s.data.toList.take k).length ≤ 17 := by rw [List.length_take]; omega
  have h3 : 10 ^ (s.data.toList.take k).length ≤ 10 ^ 17 := Nat.pow_le_pow_right (by decide) h2
  rw [Nat.zero_add, Nat.one_mul] at h1; omega
theorem valV_far {s : ByteArray} (h : ¬ (sgnV s).natAbs ≤ 1000000000000000) : valV s = none := by unfold valV; rw [if_neg (fun x => h x.1)]
theorem valV_not {s : ByteArray} (h : ¬ numS (sgnV s) = s) : valV s = none := by unfold valV; rw [if_neg (fun x => h x.2)]
theorem valV_yes {s : ByteArray} (h1 : (sgnV s).natAbs ≤ 1000000000000000) (h2 : numS (sgnV s) = s) : valV s = some (sgnV s) := by unfold valV; rw [if_pos ⟨h1, h2⟩]
set_option maxHeartbeats 2000000 in
theorem s_l01Value {s : ByteArray} {w : World} (hs : s.size ≤ 1048576) :
    Calls Tryz.prog 163 #[.string s] w fun e w' => e = .returned (rdV s) ∧ Below w.heap.size w w' := by
  have HV := hide (fun n => valV_len (s := s) (n := n))
  by_cases h1 : 1 ≤ s.size ∧ s.size ≤ 17
  · obtain ⟨h1, h2⟩ := h1
    have i1 : ¬ (s.size : Int) < 1 := by omega
    have i2 : ¬ (17 : Int) < (s.size : Int) := by omega
    have i3 : (0 : Int) < (s.size : Int) := by omega
    go_enter Tryz.func163, Tryz.ntmps163
    go_wp2
    go_loopw [4, 5] (fun nv i wr => ∃ k m : Nat, k ≤ s.size ∧ i = .int .i64 k ∧ nv = .int .i64 m ∧ Hid (m = digN 0 (s.data.toList.take k)) ∧ m < 100000000000000000 ∧ wr = w) (fun _ i _ => s.size - (intOf i).toNat)
    case atStart => exact ⟨0, 0, Nat.zero_le _, rfl, rfl, hide rfl, by decide, rfl⟩
    case round =>
      obtain ⟨k, m, hk, rfl, rfl, hm, hmlt, rfl⟩ := hrel
      by_cases hk2 : k < s.size
      · have HT := hide (digN_take (byte_at hk2))
        have hbd := digN_bd (k := k + 1) h2
        have hkI : (k : Int) < (s.size : Int) := by omega
        have hk0 : (0 : Int) ≤ k := by omega
        have hb : (s[k]).toNat < 256 := UInt8.toNat_lt _
        by_cases hd : 48 ≤ (s[k]).toNat ∧ (s[k]).toNat ≤ 57
        · obtain ⟨d1, d2⟩ := hd
          have HE : Hid (digN 0 (s.data.toList.take (k + 1)) = 10 * m + ((s[k]).toNat - 48)) := hide (by rw [HT.out, if_pos ⟨d1, d2⟩, ← hm.out])
          rw [HE.out] at hbd
          have e1 : (48 : Int) ≤ ((s[k]).toNat : Int) := by omega
          have e2 : ((s[k]).toNat : Int) ≤ 57 := by omega
          go_wp2
          go_roundw
          case rel => exact ⟨k + 1, 10 * m + ((s[k]).toNat - 48), by omega, by go_num, ret_int' (by omega), hide (by rw [HE.out]), hbd, trivial⟩
          case measure => (simp [intOf]; try omega)
        · have HE : Hid (digN 0 (s.data.toList.take (k + 1)) = m) := hide (by rw [HT.out, if_neg hd, ← hm.out])
          by_cases d1 : 48 ≤ (s[k]).toNat
          · have e1 : (48 : Int) ≤ ((s[k]).toNat : Int) := by omega
            have e2 : ¬ ((s[k]).toNat : Int) ≤ 57 := by omega
            clear hd hbd
            go_wp2
            go_roundw
            case rel => exact ⟨k + 1, m, by omega, by go_num, rfl, hide (by rw [HE.out]), hmlt, trivial⟩
            case measure => (simp [intOf]; try omega)
          · have e1 : ¬ (48 : Int) ≤ ((s[k]).toNat : Int) := by omega
            clear hd hbd
            go_wp2
            go_roundw
            case rel => exact ⟨k + 1, m, by omega, by go_num, rfl, hide (by rw [HE.out]), hmlt, trivial⟩
            case measure => (simp [intOf]; try omega)
      · have hke : k = s.size := by omega
        subst hke
        have hkI : ¬ (s.size : Int) < (s.size : Int) := by omega
        have h00 : 0 < s.size := by omega
        have hl : s.data.toList.length = s.size := Array.length_toList
        have hm2 : m = digN 0 s.data.toList := by rw [hm.out, List.take_of_length_le (by omega)]
        have hh : s.data.toList.head? = some (s[0]'h00) := by rw [List.head?_eq_getElem?]; exact byte_at h00
        clear hm hl
        by_cases hneg : s[0]'h00 = 45
        · have hn1 : ((s[0]'h00).toNat : Int) = 45 := by rw [hneg]; rfl
          have hg : sgnV s = -(m : Int) := by unfold sgnV; rw [hh, hneg, if_pos rfl, hm2]
          clear hh hneg hm2
          have hsv : sgnV s = (-(m : Int)) := hg
          have hvb : -100000000000000000 < (-(m : Int)) ∧ (-(m : Int)) < 100000000000000000 := by omega
          cases hin : inB ((-(m : Int))) (-1000000000000000) 1000000000000000 with
          | false =>
            have HR := hide (rdV_none (s := s) (valV_far (by rw [hsv]; unfold inB at hin; simp at hin; omega)))
            clear hsv
            go_wp2_with fail
            refine (s_l00InT hin).mono ?_
            rintro e w2 ⟨rfl, rfl⟩
            go_wp2
            go_ret2
            exact ⟨by rw [HR.out]; rfl, Below.refl _ _⟩
          | true =>
            have hva : ((-(m : Int))).natAbs ≤ 1000000000000000 := by unfold inB at hin; simp at hin; omega
            go_wp2_with fail
            refine (s_l00InT hin).mono ?_
            rintro e w2 ⟨rfl, rfl⟩
            go_wp2_with fail
            refine (s_l01DecS (by omega) (by omega)).mono ?_
            rintro e w3 ⟨rfl, hb3⟩
            by_cases hq : numS ((-(m : Int))) = s
            · have HR := hide (rdV_some (valV_yes (by rw [hsv]; exact hva) (by rw [hsv]; exact hq)))
              rw [hsv] at HR
              have hs1 : (!(numS ((-(m : Int)))).toList == s.toList) = false := by rw [str_ne, decide_eq_true hq]; rfl
              clear hsv hq
              go_wp2
              go_ret2
              exact ⟨by rw [HR.out]; rfl, hb3⟩
            · have HR := hide (rdV_none (s := s) (valV_not (by rw [hsv]; exact hq)))
              have hs1 : (!(numS ((-(m : Int)))).toList == s.toList) = true := by rw [str_ne, decide_eq_false hq]; rfl
              clear hsv hq
              go_wp2
              go_ret2
              exact ⟨by rw [HR.out]; rfl, hb3⟩
        · have hn1 : ¬ ((s[0]'h00).toNat : Int) = 45 := fun e => hneg (UInt8.toNat_inj.1 (by show (s[0]).toNat = 45; omega))
          have hg : sgnV s = (m : Int) := by unfold sgnV; rw [hh, if_neg (by intro e; injection e with e; exact hneg e), hm2]
          clear hh hneg hm2
          have hsv : sgnV s = ((m : Nat) : Int) := hg
          have hvb : -100000000000000000 < ((m : Nat) : Int) ∧ ((m : Nat) : Int) < 100000000000000000 := by omega
          cases hin : inB (((m : Nat) : Int)) (-1000000000000000) 1000000000000000 with
          | false =>
            have HR := hide (rdV_none (s := s) (valV_far (by rw [hsv]; unfold inB at hin; simp at hin; omega)))
            clear hsv
            go_wp2_with fail
            refine (s_l00InT hin).mono ?_
            rintro e w2 ⟨rfl, rfl⟩
            go_wp2
            go_ret2
            exact ⟨by rw [HR.out]; rfl, Below.refl _ _⟩
          | true =>
            have hva : (((m : Nat) : Int)).natAbs ≤ 1000000000000000 := by unfold inB at hin; simp at hin; omega
            go_wp2_with fail
            refine (s_l00InT hin).mono ?_
            rintro e w2 ⟨rfl, rfl⟩
            go_wp2_with fail
            refine (s_l01DecS (by omega) (by omega)).mono ?_
            rintro e w3 ⟨rfl, hb3⟩
            by_cases hq : numS (((m : Nat) : Int)) = s
            · have HR := hide (rdV_some (valV_yes (by rw [hsv]; exact hva) (by rw [hsv]; exact hq)))
              rw [hsv] at HR
              have hs1 : (!(numS (((m : Nat) : Int))).toList == s.toList) = false := by rw [str_ne, decide_eq_true hq]; rfl
              clear hsv hq
              go_wp2
              go_ret2
              exact ⟨by rw [HR.out]; rfl, hb3⟩
            · have HR := hide (rdV_none (s := s) (valV_not (by rw [hsv]; exact hq)))
              have hs1 : (!(numS (((m : Nat) : Int))).toList == s.toList) = true := by rw [str_ne, decide_eq_false hq]; rfl
              clear hsv hq
              go_wp2
              go_ret2
              exact ⟨by rw [HR.out]; rfl, hb3⟩
  · have HR := hide (rdV_none (s := s) (by
      cases hv : valV s with
      | none => rfl
      | some n => exact absurd (valV_len hv) h1))
    by_cases h0 : s.size < 1
    · have i1 : (s.size : Int) < 1 := by omega
      clear h1
      go_enter Tryz.func163, Tryz.ntmps163
      go_wp2
      go_ret2
      exact ⟨by rw [HR.out]; rfl, Below.refl _ _⟩
    · have i1 : ¬ (s.size : Int) < 1 := by omega
      have i2 : (17 : Int) < (s.size : Int) := by omega
      clear h1
      go_enter Tryz.func163, Tryz.ntmps163
      go_wp2
      go_ret2
      exact ⟨by rw [HR.out]; rfl, Below.refl _ _⟩
end Go.Proofs.YtnpccnhamohnkaaGreatDoor
