/-
  JournalOf: the reference's walk.
-/
import Derived.Test.YtempapfphliniaaDoorJour
import Derived.Deep.RegionHeld3
namespace Go.Proofs.YtempapfphliniaaDoor
open Go.RowKit Mem Go.Shelf
set_option linter.unusedVariables false
set_option maxRecDepth 100000

set_option maxHeartbeats 2000000 in
theorem s_l08Journal {A : Option Addr} {n c : Nat} {xs : List ByteArray} {w : World} (hr : Reads w w.heap.size 1 A n (xs.map Value.string)) (hn : n ≤ 1048576) (hx : ∀ x ∈ xs, x.size ≤ 1048576) (ht : tot xs ≤ 1000000) :
    Calls Tryd.prog 34 #[.slice A n c] w fun e w' => e = .returned (.string (jour xs).2) ∧ Below w.heap.size w w' := by
  have hl := hr.map_len
  have hjt := jour_tot xs
  go_enter Tryd.func34, Tryd.ntmps34
  go_wp2
  go_loopw [3, 4, 5] (fun out cv i wr => ∃ k m : Nat, k ≤ n ∧ i = .int .i64 k ∧ cv = .int .i64 m ∧ Hid (m = (jour (xs.take k)).1) ∧ out = .string (jour (xs.take k)).2 ∧ Below w.heap.size w wr) (fun _ _ i _ => n - (intOf i).toNat)
  case atStart => exact ⟨0, 0, Nat.zero_le _, rfl, rfl, hide rfl, rfl, Below.refl _ _⟩
  case round =>
    obtain ⟨k, m, hk, rfl, rfl, hmm, rfl, hbel⟩ := hrel
    by_cases hk2 : k < n
    · obtain ⟨ad, x, rfl, had, hxk, hc⟩ := (hr.below hbel).map_at hk2
      have hkI : (k : Int) < (n : Int) := by omega
      have hxs := hx x (List.mem_of_getElem? hxk)
      have mlt : m < 65003 := by rw [hmm.out]; exact jour_lt _
      have he := entry_size mlt x
      have hadl : (ad.add k).block < wr.heap.size := by rw [block_of_add]; have := hbel.size; omega
      have HJ : Hid (jour (xs.take (k + 1)) = (chk m x, (jour (xs.take k)).2 ++ entryB m x)) := hide (by rw [jour_succ hxk, hmm.out]; rfl)
      have hjs := jour_take xs k
      have hclt : chk m x < 65003 := chkL_lt mlt _
      obtain ⟨hs1, hs2, hs3⟩ := entry_ops mlt x (by omega)
      have hs4 := fun w => run_string_add_sum (P := Tryd.prog) w (jour (xs.take k)).2 (entryB m x) (by omega)
      have ne0 := World.new_ne wr _ hc
      clear hxk he hjs
      go_wp2_with fail
      refine (s_l01Check mlt (by omega)).mono ?_
      rintro e w1 ⟨rfl, rfl⟩
      go_wp2
      go_region_held3 (fun w' => w'.cell? (ad.add k) = some (.string x)) (first | assumption | go_keep)
        (first | (go_at_call 65; refine (s_l01DecS (n := (chk m x : Nat)) (by omega) (by omega)).mono ?_; rintro e wd ⟨rfl, hbd⟩; have KD : wd.cell? (ad.add k) = some (.string x) := (hbd.cell hadl).trans hc; have BD := below_undrew hbd))
      all_goals
        go_wp2
        go_roundw
        case rel => exact ⟨k + 1, chk m x, by omega, by go_num, rfl, hide (by rw [HJ.out]), by rw [HJ.out], hbel.trans (BD.mono hbel.size)⟩
        case measure => (simp [intOf]; try omega)
    · have hke : k = n := by omega
      have hta : xs.take k = xs := List.take_of_length_le (by omega)
      have hkI : ¬ (k : Int) < (n : Int) := by omega
      rw [hta]
      go_wp2
      go_ret
      exact ⟨rfl, hbel⟩
theorem noNl_no {s : ByteArray} {j : Nat} (h : j < s.size) (hb : s[j] = 10) : noNl s = false := by
  unfold noNl
  exact List.all_eq_false.2 ⟨10, by have := List.mem_of_getElem? (byte_at h); rwa [hb] at this, by simp⟩
theorem noNl_succ {s : ByteArray} {j : Nat} (h : j < s.size) (hb : s[j] ≠ 10) (h1 : (s.data.toList.take j).all (· != 10) = true) : (s.data.toList.take (j + 1)).all (· != 10) = true := by
  rw [take_eq (byte_at h), List.all_append, h1]; simpa using hb
theorem noNl_yes {s : ByteArray} (h1 : (s.data.toList.take s.size).all (· != 10) = true) : noNl s = true := by
  unfold noNl
  rwa [List.take_of_length_le (by simp only [Array.length_toList]; exact Nat.le_refl _)] at h1
set_option maxHeartbeats 2000000 in
theorem s_JournalOf {A : Option Addr} {n c : Nat} {xs : List ByteArray} {w : World} (hr : Reads w w.heap.size 1 A n (xs.map Value.string)) (hn : n ≤ 1048576) (hx : ∀ x ∈ xs, x.size ≤ 1048576) :
    Calls Tryd.prog 10 #[.slice A n c] w fun e w' => e = .returned (.tuple #[.string (jourT xs), .bool (jourOk xs)]) ∧ Below w.heap.size w w' := by
  have hl := hr.map_len
  have hjt := jour_tot xs
  go_enter Tryd.func10, Tryd.ntmps10
  go_wp2
  go_loopw [4, 5] (fun tv i wr => ∃ k m : Nat, k ≤ n ∧ i = .int .i64 k ∧ tv = .int .i64 m ∧ m = tot (xs.take k) ∧ m ≤ 16000 ∧ Hid ((xs.take k).all noNl = true) ∧ wr = w) (fun _ i _ => n - (intOf i).toNat)
  case atStart => exact ⟨0, 0, Nat.zero_le _, rfl, rfl, rfl, Nat.zero_le _, hide rfl, rfl⟩
  case round =>
    obtain ⟨k, m, hk, rfl, rfl, hm, hm2, hall, rfl⟩ := hrel
    by_cases hk2 : k < n
    · obtain ⟨ad, x, rfl, had, hxk, hc⟩ := hr.map_at hk2
      have hkI : (k : Int) < (n : Int) := by omega
      have hxs := hx x (List.mem_of_getElem? hxk)
      have htk := tot_succ hxk
      have htt := tot_take xs (k + 1)
      by_cases hbig : m + (x.size + 3) ≤ 16000
      · have hbi : ¬ (16000 : Int) < (m : Int) + ((x.size : Int) + 3) := by omega
        go_wp2_with fail
        go_loopw [6] (fun jv wz => ∃ q : Nat, q ≤ x.size ∧ jv = .int .i64 q ∧ Hid ((x.data.toList.take q).all (· != 10) = true) ∧ wz = wr) (fun j _ => x.size - (intOf j).toNat)
        case atStart => exact ⟨0, Nat.zero_le _, rfl, hide rfl, rfl⟩
        case round =>
          obtain ⟨q, hq, rfl, hqa, rfl⟩ := hrel
          by_cases hq2 : q < x.size
          · have hqI : (q : Int) < (x.size : Int) := by omega
            by_cases hb : x[q] = 10
            · have hbn : (x[q]).toNat = 10 := by rw [hb]; rfl
              have hbi2 : ((x[q]).toNat : Int) = 10 := by omega
              have HN := hide (jourOk_nl hxk (noNl_no hq2 hb))
              go_wp2
              go_ret2
              exact ⟨by rw [HN.out, jourT_no HN.out]; rfl, Below.refl _ _⟩
            · have hbi2 : ¬ ((x[q]).toNat : Int) = 10 := fun e => hb (UInt8.toNat_inj.1 (by show (x[q]).toNat = 10; omega))
              have HQ := hide (noNl_succ hq2 hb hqa.out)
              go_wp2
              go_roundw
              case rel => exact ⟨q + 1, by omega, by go_num, HQ, trivial⟩
              case measure => (simp [intOf]; try omega)
          · have hqe : q = x.size := by omega
            have hqI : ¬ (q : Int) < (x.size : Int) := by omega
            have HA := hide (all_succ hxk hall.out (noNl_yes (by rw [← hqe]; exact hqa.out)))
            go_wp2
            go_roundw
            case rel => exact ⟨k + 1, m + (x.size + 3), by omega, by go_num, by go_num, by omega, by omega, HA, trivial⟩
            case measure => (simp [intOf]; try omega)
      · have hbi : (16000 : Int) < (m : Int) + ((x.size : Int) + 3) := by omega
        have HN := hide (jourOk_big (xs := xs) (by omega))
        go_wp2
        go_ret2
        exact ⟨by rw [HN.out, jourT_no HN.out]; rfl, Below.refl _ _⟩
    · have hke : k = n := by omega
      have hta : xs.take k = xs := List.take_of_length_le (by omega)
      have hkI : ¬ (k : Int) < (n : Int) := by omega
      rw [hta] at hm hall
      go_wp2_with fail
      refine (s_l08Journal hr hn hx (by omega)).mono ?_
      rintro e w1 ⟨rfl, hb1⟩
      by_cases hbig : (jour xs).2.size ≤ 16000
      · have hbi : ¬ (16000 : Int) < ((jour xs).2.size : Int) := by omega
        have HN := hide (jourOk_yes hall.out hbig)
        go_wp2
        go_ret2
        exact ⟨by rw [HN.out, jourT_yes HN.out]; rfl, hb1⟩
      · have hbi : (16000 : Int) < ((jour xs).2.size : Int) := by omega
        have HN := hide (jourOk_big (xs := xs) (by omega))
        go_wp2
        go_ret2
        exact ⟨by rw [HN.out, jourT_no HN.out]; rfl, hb1⟩
end Go.Proofs.YtempapfphliniaaDoor
