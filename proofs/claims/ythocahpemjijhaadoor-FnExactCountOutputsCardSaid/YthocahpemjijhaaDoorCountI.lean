/-
  CountOutputs: the program's loop.
-/
import Derived.Test.YthocahpemjijhaaDoorLinesS
namespace Go.Proofs.YthocahpemjijhaaDoor
open Go.RowKit Mem Go.Shelf
set_option linter.unusedVariables false
set_option maxRecDepth 100000

def badB (x : ByteArray) : Bool := (x.toList == [110, 111]) || (x.toList == [119, 104, 97, 116])
def badN (L : List ByteArray) (k : Nat) : Nat := ((L.take k).filter badB).length
theorem badN_le (L : List ByteArray) (k : Nat) : badN L k ≤ k := by
  unfold badN
  have h1 := List.length_filter_le badB (L.take k)
  have h2 := List.length_take_le k L
  omega
theorem badN_succ {L : List ByteArray} {k : Nat} {x : ByteArray} (h : L[k]? = some x) : badN L (k + 1) = badN L k + (if badB x then 1 else 0) := by
  unfold badN
  rw [List.take_add_one, h]
  simp [List.filter_append, List.filter_cons]
  split <;> simp
set_option maxHeartbeats 1000000 in
theorem i_CountOutputs {s x : ByteArray} {b : Int} {w : World} (hs : s.size ≤ 1048576) (hm : w.cell? ⟨renSplit.g 1, 0, none⟩ = some (.int .i64 b)) (hx : (splitS s 10)[(splitS s 10).length - 1]? = some x) (hok : (decide (s.size ≤ 16000) && x.toList.isEmpty) = true) :
    Calls Tryd.prog 21 #[.string s] w fun e w' => e = .returned (.tuple #[.int .i64 (badN (splitS s 10) ((splitS s 10).length - 1)), .int .i64 (((splitS s 10).length - 1 : Nat) - badN (splitS s 10) ((splitS s 10).length - 1)), .bool true]) ∧ Below w.heap.size w w' := by
  have hp := splitS_pos s 10
  have hle := splitS_le s 10
  go_enter Tryd.func21, Tryd.ntmps21
  go_wp2_with fail
  refine (i_linesOf hs hm hx).mono ?_
  rintro e w1 ⟨rfl, hblk, hb⟩
  rw [hok]
  have HC : Hid (∀ (j : Nat) (u : ByteArray), (splitS s 10)[j]? = some u → w1.cell? ⟨w.heap.size, j, none⟩ = some (.string u)) := hide (fun j u hu => by rw [hblk.cell]; simp [hu])
  clear hx hok hblk
  generalize hL : splitS s 10 = L at *
  obtain ⟨n, hn⟩ : ∃ n, L.length = n + 1 := ⟨_, (Nat.succ_pred_eq_of_pos hp).symm⟩
  rw [hn] at hle ⊢
  simp only [Nat.add_sub_cancel]
  have Hn := hide hn
  have HL := hide hL
  clear hp hn hL
  go_wp2
  go_loopw [7, 19] (fun bad i wr => ∃ k : Nat, k ≤ n ∧ i = .int .i64 k ∧ bad = .int .i64 (badN L k) ∧ (∃ m, wr = w1.drewN m)) (fun _ i _ => n - (intOf i).toNat)
  case atStart => exact ⟨0, Nat.zero_le _, rfl, rfl, 0, rfl⟩
  case round =>
    obtain ⟨k, hk, rfl, rfl, m, rfl⟩ := hrel
    have hbk := badN_le L k
    by_cases hlt : k < n
    · have hxk : L[k]? = some (L[k]'(by rw [Hn.out]; omega)) := List.getElem?_eq_getElem _
      generalize L[k]'(by rw [Hn.out]; omega) = y at hxk
      have hc := HC.out k y hxk
      have HS := hide (badN_succ hxk)
      clear hxk
      have hlk : (0 : Int) ≤ k := by omega
      have hlk2 : (k : Int) < n := by omega
      cases h1 : (y.toList == [110, 111]) with
      | true =>
        have HB : Hid (badN L (k + 1) = badN L k + 1) := hide (by rw [HS.out, show badB y = true by unfold badB; rw [h1]; rfl]; rfl)
        go_wp2
        go_roundw
        case rel => exact ⟨k + 1, by omega, by go_num, by rw [HB.out]; go_num, m, rfl⟩
        case measure => (simp [intOf]; try omega)
      | false =>
        cases h2 : (y.toList == [119, 104, 97, 116]) with
        | true =>
          have HB : Hid (badN L (k + 1) = badN L k + 1) := hide (by rw [HS.out, show badB y = true by unfold badB; rw [h1, h2]; rfl]; rfl)
          go_wp2
          go_roundw
          case rel => exact ⟨k + 1, by omega, by go_num, by rw [HB.out]; go_num, m, rfl⟩
          case measure => (simp [intOf]; try omega)
        | false =>
          have HB : Hid (badN L (k + 1) = badN L k) := hide (by rw [HS.out, show badB y = false by unfold badB; rw [h1, h2]; rfl]; rfl)
          go_wp2
          go_roundw
          case rel => exact ⟨k + 1, by omega, by go_num, by rw [HB.out], m, rfl⟩
          case measure => (simp [intOf]; try omega)
    · obtain rfl : k = n := by omega
      go_wp2
      go_ret3
      exact ⟨by (try rw [HL.out]); rw [Hn.out]; rfl, below_drewN hb _⟩
end Go.Proofs.YthocahpemjijhaaDoor
