/-
  The least sets of a list: the program's walk, down to the two closures.
-/
import Derived.Test.YtjfmjeffmnjilaaSysP
import Derived.Test.YtjfmjeffmnjilaaWithin
import Derived.Lib.SlKept
import Derived.Lib.SlBuf
import Derived.Lib.SliceRun
import Derived.Laws.IdiomCopy
import Derived.Sort.Grow
namespace Go.Proofs.Ytjfmjeffmnjilaa
open Go.RowKit Fl Mem Go.Sort
set_option linter.unusedVariables false
set_option maxRecDepth 100000

abbrev eI : Int → Value := Value.int .i64
theorem holds_bel {w w' : World} {g off M : Nat} {d : Array Int} (h : Holds eI w g off d) (hb : Below M w w') (hg : g < M) : Holds eI w' g off d := fun j hj => ⟨(hb.cell hg).trans (h j hj).1, (hb.frozen hg).trans (h j hj).2⟩
theorem holds_setC {w : World} {g off i : Nat} {d : Array Int} (h : Holds eI w g off d) (hi : i < d.size) (x : Int) : Holds eI (w.setCell ⟨g, off + i, none⟩ (eI x)) g off (d.setIfInBounds i x) := by
  intro j hj
  have hj' : j < d.size := by simpa using hj
  have e : w.setCell ⟨g, off + i, none⟩ (eI x) = w.setCells g (off + i) [eI x] := rfl
  rw [e]
  refine ⟨?_, by rw [World.frozen?_setCells]; exact (h j hj').2⟩
  by_cases hij : j = i
  · subst hij
    have h1 := World.cell?_setCells_in g [eI x] (off + j) w (fun t ht => by
      obtain rfl : t = 0 := by simpa using ht
      rw [Nat.add_zero, (h j hi).1]
      rfl) 0 (by simp)
    rw [Nat.add_zero] at h1
    rw [h1, getElem!_set_same d j x hi]
    rfl
  · rw [World.cell?_setCells_out g [eI x] (off + i) w _ (fun _ _ => by simp; omega), (h j hj').1]
    rw [getElem!_pos (d.setIfInBounds i x) j hj, getElem!_pos d j hj', Array.getElem_setIfInBounds_ne hj' (fun e => hij e.symm)]
theorem holds_reads {w : World} {g off m : Nat} {l : List Int} (h : Holds eI w g off l.toArray) (hg : g < w.heap.size) (hm : l.length = m) : Reads w w.heap.size 1 (some ⟨g, off, none⟩) m (il l) := by
  refine ⟨by simp [hm], fun _ => ⟨_, rfl, hg, fun j u hu => ?_⟩⟩
  simp only [List.getElem?_map, Option.map_eq_some_iff] at hu
  obtain ⟨a, ha, rfl⟩ := hu
  obtain ⟨hj, rfl⟩ := List.getElem?_eq_some_iff.1 ha
  have h1 := (h j (by simpa using hj)).1
  rw [getElem!_pos l.toArray j (by simpa using hj)] at h1
  rw [Addr.add_lit]
  simpa using h1
theorem reads_addr {w : World} {B n : Nat} {A : Option Addr} {xs : List Int} (h : Reads w B 1 A n (il xs)) (hn : 0 < n) : ∃ b off, A = some ⟨b, off, none⟩ ∧ b < B := by
  obtain ⟨ad, x, rfl, hb, hx, hc⟩ := h.map_at hn
  rcases ad with ⟨b, off, spot⟩
  have h0 : (Addr.mk b off spot).add 0 = ⟨b, off, spot⟩ := rfl
  simp only [h0] at hc
  cases spot with
  | none => exact ⟨b, off, rfl, hb⟩
  | some q =>
    unfold World.cell? at hc
    split at hc
    · cases hc
    · cases hc

theorem i_has {set part : Int} {w : World} : Calls Try.prog 109 #[.int .i64 set, .int .i64 part] w fun e w' => e = .returned (.bool (hasB set part)) ∧ w' = w := by
  go_enter Try.func109, Try.ntmps109
  go_wp2
  go_ret
  exact ⟨rfl, rfl⟩
/-- What the inner closure says. -/
def otherB (x y : Int) : Bool := (y != x) && hasB x y
theorem least_11 {x y : Int} {b : Nat} {w : World} (h : w.cell? ⟨b, 0, none⟩ = some (.int .i64 x)) :
    Calls Try.prog 108 #[.int .i64 y, .pointer (some ⟨b, 0, none⟩)] w fun e w' => e = .returned (.bool (otherB x y)) ∧ w' = w := by
  have Hu : Hid (otherB x y = ((y != x) && hasB x y)) := hide rfl
  cases hne : y != x with
  | false =>
    rw [hne] at Hu
    go_enter Try.func108, Try.ntmps108
    go_wp2
    go_ret
    exact ⟨ret_bool Hu.out.symm, rfl⟩
  | true =>
    rw [hne, Bool.true_and] at Hu
    go_enter Try.func108, Try.ntmps108
    go_wp2_with (go_at_call 109; refine (i_has).mono ?_; rintro e w' ⟨rfl, rfl⟩)
    go_ret
    exact ⟨ret_bool Hu.out.symm, rfl⟩
set_option maxHeartbeats 400000 in
theorem indexFunc_l11 {A : Option Addr} {n c : Nat} {xs : List Int} {B : Nat} {x : Int} {b : Nat} {w : World} (h : Reads w B 1 A n (il xs)) (hn : n ≤ maxLen) (h1 : w.cell? ⟨b, 0, none⟩ = some (.int .i64 x)) :
    Calls Try.prog 121 #[.slice A n c, .func (.func 108) #[] #[.pointer (some ⟨b, 0, none⟩)]] w fun e w' => e = .returned (.int .i64 (ixf (otherB x) xs)) ∧ w' = w := by
  unfold maxLen at hn
  have Hlen := hide h.map_len
  go_enter Try.func121, Try.ntmps121
  go_wp2
  go_loopw [5, 8] (fun _ i wr => ∃ k : Nat, k ≤ n ∧ i = .int .i64 k ∧ wr = w ∧ Hid ((xs.take k).all (fun y => !otherB x y) = true)) (fun _ i _ => n - (intOf i).toNat)
  case atStart => exact ⟨0, Nat.zero_le _, rfl, rfl, rfl⟩
  case round =>
    obtain ⟨k, hk, rfl, rfl, ha⟩ := hrel
    by_cases hlt : k < n
    · obtain ⟨ad, y, rfl, _, hx, hc⟩ := h.map_at hlt
      have Hx := hide hx
      clear hx
      cases hb : otherB x y with
      | true =>
        go_wp2_with (go_at_call 108; refine (least_11 h1).mono ?_; rintro e w' ⟨rfl, rfl⟩; rw [hb])
        go_ret
        exact ⟨ret_int (ixf_at Hx.out ha.out hb).symm, rfl⟩
      | false =>
        have HA : Hid ((xs.take (k + 1)).all (fun y => !otherB x y) = true) := hide (by rw [take_eq Hx.out, List.all_append, ha.out]; simp [hb])
        go_wp2_with (go_at_call 108; refine (least_11 h1).mono ?_; rintro e w' ⟨rfl, rfl⟩; rw [hb])
        go_roundw
        case rel => exact ⟨k + 1, by omega, by go_num, trivial, HA⟩
        case measure => simp [intOf]; omega
    · go_wp2
      go_ret
      refine ⟨ret_int (ixf_none ?_).symm, rfl⟩
      rw [← ha.out, List.take_of_length_le (by rw [Hlen.out]; omega)]
theorem containsFunc_l11 {A : Option Addr} {n c : Nat} {xs : List Int} {B : Nat} {x : Int} {b : Nat} {w : World} (h : Reads w B 1 A n (il xs)) (hn : n ≤ maxLen) (h1 : w.cell? ⟨b, 0, none⟩ = some (.int .i64 x)) :
    Calls Try.prog 107 #[.slice A n c, .func (.func 108) #[] #[.pointer (some ⟨b, 0, none⟩)]] w fun e w' => e = .returned (.bool (xs.any (otherB x))) ∧ w' = w := by
  go_enter Try.func107, Try.ntmps107
  go_wp2_with (go_at_call 121; refine (indexFunc_l11 h hn h1).mono ?_; rintro e w' ⟨rfl, rfl⟩)
  go_ret
  refine ⟨ret_bool ?_, rfl⟩
  rw [← ixf_ge]
/-- What the outer closure says: the set has all parts of another one of the list. -/
def badS (xs : List Int) (x : Int) : Bool := xs.any (otherB x)
theorem least_1 {A : Option Addr} {n c B bs : Nat} {xs : List Int} {x : Int} {w : World} (h : Reads w B 1 A n (il xs)) (hB : B ≤ w.heap.size) (hn : n ≤ maxLen) (hc : w.cell? ⟨bs, 0, none⟩ = some (.slice A n c)) (hbs : bs < w.heap.size) :
    Calls Try.prog 106 #[.int .i64 x, .pointer (some ⟨bs, 0, none⟩)] w fun e w' => e = .returned (.bool (badS xs x)) ∧ w' = w.alloc (.cells #[.int .i64 x] 2) := by
  have h1 := h.alloc hB (.cells #[.int .i64 x] 2)
  have hc1 : (w.alloc (.cells #[.int .i64 x] 2)).cell? ⟨bs, 0, none⟩ = some (.slice A n c) := by rw [← hc]; exact World.cell?_alloc_lt _ _ _ hbs
  clear hc
  go_enter Try.func106, Try.ntmps106
  go_wp2_with (go_at_call 107; refine (containsFunc_l11 (x := x) h1 hn (by simp)).mono ?_; rintro e w' ⟨rfl, rfl⟩)
  go_ret
  exact ⟨rfl, rfl⟩
set_option maxHeartbeats 400000 in
theorem indexFunc_l1 {A : Option Addr} {n c B bs g off m cap : Nat} {xs ys : List Int} {w : World} (h : Reads w B 1 A n (il xs)) (hB : B ≤ w.heap.size) (hn : n ≤ maxLen) (hc : w.cell? ⟨bs, 0, none⟩ = some (.slice A n c)) (hbs : bs < w.heap.size)
    (hy : Reads w w.heap.size 1 (some ⟨g, off, none⟩) m (il ys)) (hm : m ≤ maxLen) :
    Calls Try.prog 121 #[.slice (some ⟨g, off, none⟩) m cap, .func (.func 106) #[] #[.pointer (some ⟨bs, 0, none⟩)]] w fun e w' => e = .returned (.int .i64 (ixf (badS xs) ys)) ∧ Below w.heap.size w w' := by
  unfold maxLen at hm
  have Hlen := hide hy.map_len
  go_enter Try.func121, Try.ntmps121
  go_wp2
  go_loopw [5, 8] (fun _ i wr => ∃ k : Nat, k ≤ m ∧ i = .int .i64 k ∧ Below w.heap.size w wr ∧ Hid ((ys.take k).all (fun y => !badS xs y) = true)) (fun _ i _ => m - (intOf i).toNat)
  case atStart => exact ⟨0, Nat.zero_le _, rfl, Below.refl _ _, rfl⟩
  case round =>
    obtain ⟨k, hk, rfl, hbel, ha⟩ := hrel
    have hsz := hbel.size
    by_cases hlt : k < m
    · obtain ⟨ad, y, had, _, hx, hcy⟩ := (hy.below hbel).map_at hlt
      obtain rfl : (⟨g, off, none⟩ : Addr) = ad := Option.some.inj had
      have Hx := hide hx
      have h1 := h.below (hbel.mono hB)
      have hc1 : wr.cell? ⟨bs, 0, none⟩ = some (.slice A n c) := (hbel.cell hbs).trans hc
      have hy1 : wr.cell? ⟨g, off + k, none⟩ = some (.int .i64 y) := by rw [← Addr.add_lit]; exact hcy
      clear hx had hcy
      cases hb : badS xs y with
      | true =>
        go_wp2_with (go_at_call 106; refine (least_1 h1 (by omega) hn hc1 (by omega)).mono ?_; rintro e w' ⟨rfl, rfl⟩; rw [hb])
        go_ret
        exact ⟨ret_int (ixf_at Hx.out ha.out hb).symm, hbel.alloc hsz _⟩
      | false =>
        have HA : Hid ((ys.take (k + 1)).all (fun y => !badS xs y) = true) := hide (by rw [take_eq Hx.out, List.all_append, ha.out]; simp [hb])
        go_wp2_with (go_at_call 106; refine (least_1 h1 (by omega) hn hc1 (by omega)).mono ?_; rintro e w' ⟨rfl, rfl⟩; rw [hb])
        go_roundw
        case rel => exact ⟨k + 1, by omega, by go_num, hbel.alloc hsz _, HA⟩
        case measure => simp [intOf]; omega
    · go_wp2
      go_ret
      refine ⟨ret_int (ixf_none ?_).symm, hbel⟩
      rw [← ha.out, List.take_of_length_le (by rw [Hlen.out]; omega)]
end Go.Proofs.Ytjfmjeffmnjilaa
