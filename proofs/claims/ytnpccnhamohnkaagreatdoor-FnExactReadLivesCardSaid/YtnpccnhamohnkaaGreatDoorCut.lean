/-
  The reference's cutting of a text at a mark.
-/
import Derived.Test.YtnpccnhamohnkaaGreatDoorPlanT
namespace Go.Proofs.YtnpccnhamohnkaaGreatDoor
open Go.RowKit Mem
set_option linter.unusedVariables false
set_option maxRecDepth 100000

theorem info_str : (Tryz.prog.info? 9).map (fun i => (i.zero, i.size, i.bytes)) = some (some (.string ByteArray.empty), 1, 16) := by kernel_rfl
/-- One step of the cutting: what is cut off so far, and where the next part begins. -/
def cutStep (s : ByteArray) (m : UInt8) (p : List ByteArray × Nat) (i : Nat) : List ByteArray × Nat :=
  if i = s.size ∨ s.data.toList[i]? = some m then (p.1 ++ [s.extract p.2 i], i + 1) else p
def cutTo (s : ByteArray) (m : UInt8) (k : Nat) : List ByteArray × Nat := (List.range k).foldl (cutStep s m) ([], 0)
def cutAll (s : ByteArray) (m : UInt8) : List ByteArray := (cutTo s m (s.size + 1)).1
theorem cutTo_succ (s : ByteArray) (m : UInt8) (k : Nat) : cutTo s m (k + 1) = cutStep s m (cutTo s m k) k := by
  unfold cutTo; rw [List.range_succ, List.foldl_append]; rfl
theorem cutTo_le (s : ByteArray) (m : UInt8) (k : Nat) : (cutTo s m k).2 ≤ k ∧ (cutTo s m k).1.length ≤ k := by
  induction k with
  | zero => exact ⟨Nat.le_refl _, Nat.le_refl _⟩
  | succ k ih =>
    rw [cutTo_succ]
    unfold cutStep
    split
    · simp; omega
    · omega

set_option maxHeartbeats 1000000 in
theorem s_l01Cut {s : ByteArray} {m : UInt8} {w : World} (hs : s.size ≤ 1048576) :
    Calls Tryz.prog 107 #[.string s, .int .u8 (m.toNat : Int)] w fun e w' => ∃ v, e = .returned v ∧ w'.ownsRow w.heap.size 9 1 v (cutAll s m).length ((cutAll s m).map .string) ∧ Below w.heap.size w w' := by
  go_enter Tryz.func107, Tryz.ntmps107
  go_wp2
  go_loopw [5, 6, 7] (fun out from_ i wr => ∃ k f : Nat, k ≤ s.size + 1 ∧ i = .int .i64 k ∧ from_ = .int .i64 f ∧ Hid (f = (cutTo s m k).2) ∧ f ≤ k ∧ Hid (wr.ownsRow w.heap.size 9 1 out (cutTo s m k).1.length ((cutTo s m k).1.map .string)) ∧ Below w.heap.size w wr) (fun _ _ i _ => s.size + 1 - (intOf i).toNat)
  case atStart => exact ⟨0, 0, Nat.zero_le _, rfl, rfl, hide rfl, Nat.le_refl _, hide (World.ownsRow_made _ _ _ (Nat.le_refl _) (by simp [maxLen]) (by simp)), (Below.refl _ _).alloc (Nat.le_refl _) _⟩
  case round =>
    obtain ⟨k, f, hk, rfl, rfl, hf, hfk, hown, hbel⟩ := hrel
    have hc := (cutTo_le s m k).2
    by_cases hlt : k ≤ s.size
    · by_cases he : k = s.size
      · subst he
        have HS : Hid (cutTo s m (s.size + 1) = ((cutTo s m s.size).1 ++ [s.extract f s.size], s.size + 1)) := hide (by rw [cutTo_succ, hf.out]; exact if_pos (.inl rfl))
        go_wp2_with (at_builtin; refine wpList_append1 rfl (.tmp 26) (.tmp 31) 72 rfl w.heap.size 9 (.string ByteArray.empty) _ 16 info_str Tryz.underlying72 rfl rfl _ _ _ rfl hown.out rfl rfl (by omega) (by omega) hbel.size ?_)
        intro v' w' hown' hb'
        have hbel' := hbel.trans hb'
        have HO : Hid (w'.ownsRow w.heap.size 9 1 v' (cutTo s m (s.size + 1)).1.length ((cutTo s m (s.size + 1)).1.map .string)) := hide (by rw [HS.out]; simpa using hown')
        clear hown' hb'
        go_wp2
        go_roundw
        case rel => exact ⟨s.size + 1, s.size + 1, by omega, by go_num, by go_num, hide (by rw [HS.out]), Nat.le_refl _, HO, hbel'⟩
        case measure => (simp [intOf]; try omega)
      · have hkk : k < s.size := by omega
        have hb : s.data.toList[k]? = some s[k] := by
          rw [List.getElem?_eq_getElem (show k < s.data.toList.length by simp only [Array.length_toList]; exact hkk)]; rfl
        have hke : ¬ (k : Int) = (s.size : Int) := by omega
        have hk1 : (k : Int) < (s.size : Int) := by omega
        by_cases hm : ((s[k]).toNat : Int) = (m.toNat : Int)
        · have hm' : s[k] = m := UInt8.toNat_inj.1 (by omega)
          have HS : Hid (cutTo s m (k + 1) = ((cutTo s m k).1 ++ [s.extract f k], k + 1)) := hide (by rw [cutTo_succ, hf.out]; exact if_pos (.inr (by rw [hb, hm'])))
          clear hm' hb
          go_wp2_with (at_builtin; refine wpList_append1 rfl (.tmp 26) (.tmp 31) 72 rfl w.heap.size 9 (.string ByteArray.empty) _ 16 info_str Tryz.underlying72 rfl rfl _ _ _ rfl hown.out rfl rfl (by omega) (by omega) hbel.size ?_)
          intro v' w' hown' hb'
          have hbel' := hbel.trans hb'
          have HO : Hid (w'.ownsRow w.heap.size 9 1 v' (cutTo s m (k + 1)).1.length ((cutTo s m (k + 1)).1.map .string)) := hide (by rw [HS.out]; simpa using hown')
          clear hown' hb'
          go_wp2
          go_roundw
          case rel => exact ⟨k + 1, k + 1, by omega, by go_num, by go_num, hide (by rw [HS.out]), Nat.le_refl _, HO, hbel'⟩
          case measure => (simp [intOf]; try omega)
        · have HS : Hid (cutTo s m (k + 1) = cutTo s m k) := hide (by
            rw [cutTo_succ]
            exact if_neg (fun h => by
              rcases h with h | h
              · exact he h
              · rw [hb] at h; injection h with h; exact hm (by rw [h])))
          clear hb
          go_wp2
          go_roundw
          case rel => exact ⟨k + 1, f, by omega, by go_num, rfl, hide (by rw [HS.out]; exact hf.out), by omega, hide (by rw [HS.out]; exact hown.out), hbel⟩
          case measure => (simp [intOf]; try omega)
    · obtain rfl : k = s.size + 1 := by omega
      go_wp2
      go_ret
      exact ⟨_, rfl, hown.out, hbel⟩
end Go.Proofs.YtnpccnhamohnkaaGreatDoor
