/-
  Is a system with a signal valid: names, systems, and all of it; the program's walk and the reference's, but the loop over the sets.
-/
import Derived.Test.YtjfmjeffmnjilaaSysL
import Derived.Test.YtjfmjeffmnjilaaBelW
import Derived.Deep.RegionHeld3
namespace Go.Proofs.Ytjfmjeffmnjilaa
open Go.RowKit Fl Mem
set_option linter.unusedVariables false
set_option maxRecDepth 100000

/-- Is a text a name. -/
def lowB (b : UInt8) : Bool := decide (97 ≤ b.toNat) && decide (b.toNat ≤ 122)
def nameB (s : ByteArray) : Bool := s.data.toList.all lowB && (decide (1 ≤ s.size) && decide (s.size ≤ 8))
theorem byteAt {s : ByteArray} {k : Nat} (h : k < s.size) : s.data.toList[k]? = some s[k] := by
  rw [List.getElem?_eq_getElem (show k < s.data.toList.length by simp only [Array.length_toList]; exact h)]; rfl
theorem nameB_no {s : ByteArray} {k : Nat} (h : k < s.size) (hb : lowB s[k] = false) : nameB s = false := by
  unfold nameB
  have : s.data.toList.all lowB = false := by
    rw [List.all_eq_false]
    exact ⟨s[k], List.mem_of_getElem? (byteAt h), by rw [hb]; simp⟩
  rw [this]; rfl
theorem nameB_step {s : ByteArray} {k : Nat} (h : k < s.size) (hb : lowB s[k] = true) (hp : (s.data.toList.take k).all lowB = true) : (s.data.toList.take (k + 1)).all lowB = true := by
  rw [take_eq (byteAt h), List.all_append, hp]
  simp [hb]
theorem nameB_all {s : ByteArray} (hp : (s.data.toList.take s.size).all lowB = true) : nameB s = (decide (1 ≤ s.size) && decide (s.size ≤ 8)) := by
  rw [List.take_of_length_le (by simp only [Array.length_toList]; exact Nat.le_refl _)] at hp
  unfold nameB
  rw [hp, Bool.true_and]
set_option maxHeartbeats 1000000 in
theorem i_IsName {s : ByteArray} {w : World} (hs : s.size ≤ 9223372036854775807) : Calls Try.prog 48 #[.string s] w fun e w' => e = .returned (.bool (nameB s)) ∧ w' = w := by
  go_enter Try.func48, Try.ntmps48
  go_wp2
  go_loopw [3, 6] (fun _ i wr => ∃ k : Nat, k ≤ s.size ∧ i = .int .i64 k ∧ Hid ((s.data.toList.take k).all lowB = true) ∧ wr = w) (fun _ i _ => s.size - (intOf i).toNat)
  case atStart => exact ⟨0, Nat.zero_le _, rfl, hide rfl, rfl⟩
  case round =>
    obtain ⟨k, hk, rfl, hp, rfl⟩ := hrel
    by_cases hk2 : k < s.size
    · have hkI : (k : Int) < (s.size : Int) := by omega
      by_cases h1 : 97 ≤ (s[k]).toNat
      · have i1 : ¬ ((s[k]).toNat : Int) < 97 := by omega
        by_cases h2 : (s[k]).toNat ≤ 122
        · have i2 : ¬ (122 : Int) < ((s[k]).toNat : Int) := by omega
          have HP := hide (nameB_step hk2 (by unfold lowB; rw [decide_eq_true h1, decide_eq_true h2]; rfl) hp.out)
          clear h1 h2
          go_wp2
          go_roundw
          case rel => exact ⟨k + 1, by omega, by go_num, HP, trivial⟩
          case measure => (simp [intOf]; try omega)
        · have i2 : (122 : Int) < ((s[k]).toNat : Int) := by omega
          have HP := hide (nameB_no hk2 (by unfold lowB; rw [decide_eq_false h2, Bool.and_false]))
          clear h1 h2
          go_wp2
          go_ret
          exact ⟨ret_bool HP.out.symm, rfl⟩
      · have i1 : ((s[k]).toNat : Int) < 97 := by omega
        have HP := hide (nameB_no hk2 (by unfold lowB; rw [decide_eq_false h1, Bool.false_and]))
        clear h1
        go_wp2
        go_ret
        exact ⟨ret_bool HP.out.symm, rfl⟩
    · obtain rfl : k = s.size := by omega
      have hkI : ¬ (s.size : Int) < (s.size : Int) := by omega
      have HM := hide (nameB_all hp.out)
      by_cases h1 : 1 ≤ s.size
      · have i1 : (1 : Int) ≤ (s.size : Int) := by omega
        have HM2 : Hid (nameB s = decide (s.size ≤ 8)) := hide (by rw [HM.out, decide_eq_true h1, Bool.true_and])
        by_cases h2 : s.size ≤ 8
        · have i2 : (s.size : Int) ≤ 8 := by omega
          go_wp2
          go_ret
          exact ⟨ret_bool (by rw [HM2.out, decide_eq_true h2]), rfl⟩
        · have i2 : ¬ (s.size : Int) ≤ 8 := by omega
          go_wp2
          go_ret
          exact ⟨ret_bool (by rw [HM2.out, decide_eq_false h2]), rfl⟩
      · have i1 : ¬ (1 : Int) ≤ (s.size : Int) := by omega
        go_wp2
        go_ret
        exact ⟨ret_bool (by rw [HM.out, decide_eq_false h1]; rfl), rfl⟩
set_option maxHeartbeats 1000000 in
theorem s_l07Name {s : ByteArray} {w : World} (hs : s.size ≤ 9223372036854775807) : Calls Try.prog 76 #[.string s] w fun e w' => e = .returned (.bool (nameB s)) ∧ w' = w := by
  go_enter Try.func76, Try.ntmps76
  go_wp2
  go_loopw [3] (fun i wr => ∃ k : Nat, k ≤ s.size ∧ i = .int .i64 k ∧ Hid ((s.data.toList.take k).all lowB = true) ∧ wr = w) (fun i _ => s.size - (intOf i).toNat)
  case atStart => exact ⟨0, Nat.zero_le _, rfl, hide rfl, rfl⟩
  case round =>
    obtain ⟨k, hk, rfl, hp, rfl⟩ := hrel
    by_cases hk2 : k < s.size
    · have hkI : (k : Int) < (s.size : Int) := by omega
      by_cases h1 : 97 ≤ (s[k]).toNat
      · have i1 : ¬ ((s[k]).toNat : Int) < 97 := by omega
        by_cases h2 : (s[k]).toNat ≤ 122
        · have i2 : ¬ (122 : Int) < ((s[k]).toNat : Int) := by omega
          have HP := hide (nameB_step hk2 (by unfold lowB; rw [decide_eq_true h1, decide_eq_true h2]; rfl) hp.out)
          clear h1 h2
          go_wp2
          go_roundw
          case rel => exact ⟨k + 1, by omega, by go_num, HP, trivial⟩
          case measure => (simp [intOf]; try omega)
        · have i2 : (122 : Int) < ((s[k]).toNat : Int) := by omega
          have HP := hide (nameB_no hk2 (by unfold lowB; rw [decide_eq_false h2, Bool.and_false]))
          clear h1 h2
          go_wp2
          go_ret
          exact ⟨ret_bool HP.out.symm, rfl⟩
      · have i1 : ((s[k]).toNat : Int) < 97 := by omega
        have HP := hide (nameB_no hk2 (by unfold lowB; rw [decide_eq_false h1, Bool.false_and]))
        clear h1
        go_wp2
        go_ret
        exact ⟨ret_bool HP.out.symm, rfl⟩
    · obtain rfl : k = s.size := by omega
      have hkI : ¬ (s.size : Int) < (s.size : Int) := by omega
      have HM := hide (nameB_all hp.out)
      by_cases h1 : 1 ≤ s.size
      · have i1 : (1 : Int) ≤ (s.size : Int) := by omega
        have HM2 : Hid (nameB s = decide (s.size ≤ 8)) := hide (by rw [HM.out, decide_eq_true h1, Bool.true_and])
        by_cases h2 : s.size ≤ 8
        · have i2 : (s.size : Int) ≤ 8 := by omega
          go_wp2
          go_ret
          exact ⟨ret_bool (by rw [HM2.out, decide_eq_true h2]), rfl⟩
        · have i2 : ¬ (s.size : Int) ≤ 8 := by omega
          go_wp2
          go_ret
          exact ⟨ret_bool (by rw [HM2.out, decide_eq_false h2]), rfl⟩
      · have i1 : ¬ (1 : Int) ≤ (s.size : Int) := by omega
        go_wp2
        go_ret
        exact ⟨ret_bool (by rw [HM.out, decide_eq_false h1]; rfl), rfl⟩

theorem i_areParts {p : Int} {w : World} : Calls Try.prog 80 #[.int .i64 p] w fun e w' => e = .returned (.bool (inB p 1 10)) ∧ w' = w := by
  go_enter Try.func80, Try.ntmps80
  go_wp2_with (go_at_call 89; refine (i_within _ _ _ _).mono ?_; rintro e w' ⟨rfl, rfl⟩)
  go_ret
  exact ⟨rfl, rfl⟩
theorem s_l03Parts {p : Int} {w : World} : Calls Try.prog 98 #[.int .i64 p] w fun e w' => e = .returned (.bool (inB p 1 10)) ∧ w = w' := by
  go_enter Try.func98, Try.ntmps98
  go_wp2_with (go_at_call 99; refine (s_l00In _ _ _ _).mono ?_; rintro e w' ⟨rfl, rfl⟩)
  go_ret
  exact ⟨rfl, rfl⟩
theorem s_l00In_b {a lo hi : Int} {b : Bool} {w : World} (h : inB a lo hi = b) : Calls Try.prog 99 #[.int .i64 a, .int .i64 lo, .int .i64 hi] w fun e w' => e = .returned (.bool b) ∧ w' = w :=
  (s_l00In a lo hi w).mono fun _ _ ⟨h1, h2⟩ => ⟨by rw [h1, h], h2.symm⟩
/-- Are there so many, and are they all within bounds. -/
def manyB (xs : List Int) (n : Nat) (a b lo hi : Int) : Bool := inB n a b && xs.all (fun x => inB x lo hi)
theorem i_areMany {A : Option Addr} {n c B : Nat} {xs : List Int} {a b lo hi : Int} {w : World} (h : Reads w B 1 A n (il xs)) (hB : B ≤ w.heap.size) (hn : n ≤ 9223372036854775807) :
    Calls Try.prog 81 #[.slice A n c, .int .i64 a, .int .i64 b, .int .i64 lo, .int .i64 hi] w fun e w' => e = .returned (.bool (manyB xs n a b lo hi)) ∧ Below w.heap.size w w' := by
  have Hu : Hid (manyB xs n a b lo hi = (inB n a b && xs.all (fun x => inB x lo hi))) := hide rfl
  cases hq : inB n a b with
  | false =>
    rw [hq] at Hu
    go_enter Try.func81, Try.ntmps81
    go_wp2_with (go_at_call 89; refine (i_within _ _ _ _).mono ?_; rintro e w' ⟨rfl, rfl⟩; rw [hq])
    go_ret
    exact ⟨ret_bool Hu.out.symm, Below.refl _ _⟩
  | true =>
    rw [hq, Bool.true_and] at Hu
    go_enter Try.func81, Try.ntmps81
    go_wp2_with (first | (go_at_call 89; refine (i_within _ _ _ _).mono ?_; rintro e w' ⟨rfl, rfl⟩; rw [hq]) | (go_at_call 101; refine (i_areWithin h hB (by unfold maxLen; omega)).mono ?_; rintro e w' ⟨rfl, hb⟩))
    go_ret
    exact ⟨ret_bool Hu.out.symm, hb⟩
end Go.Proofs.Ytjfmjeffmnjilaa
