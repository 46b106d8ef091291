/-
  Are two lists of systems with signals the same: both sides' walks.
-/
import Derived.Test.YtjfmjeffmnjilaaSvI
import Derived.BigQuiet
namespace Go.Proofs.Ytjfmjeffmnjilaa
open Go.RowKit Fl Mem
set_option linter.unusedVariables false
set_option maxRecDepth 100000

set_option maxHeartbeats 2000000 in
theorem equalFunc_saved {A A' : Option Addr} {n n' c c' B : Nat} {xs ys : List Sv} {w : World} (h : SvR w B A n xs) (h' : SvR w B A' n' ys) (hB : B ≤ w.heap.size) (hn : n ≤ 1099511627776) (hn' : n' ≤ 1099511627776) (hx : ∀ a ∈ xs, SvLe 1099511627776 a) (hy : ∀ a ∈ ys, SvLe 1099511627776 a) :
    Calls Try.prog 38 #[.slice A n c, .slice A' n' c', .func (.func 39) #[] #[]] w fun e w' => e = .returned (.bool (sameSvs xs ys)) ∧ Below w.heap.size w w' := by
  have Hl := hide h.len
  have Hl' := hide h'.len
  by_cases hnn : n = n'
  · subst hnn
    go_enter Try.func38, Try.ntmps38
    go_wp2
    go_loopw [17] (fun i wr => ∃ k : Nat, k ≤ n ∧ i = .int .i64 k ∧ Below w.heap.size w wr ∧ Hid ((xs.take k).map svK = (ys.take k).map svK)) (fun i _ => n - (intOf i).toNat)
    case atStart => exact ⟨0, Nat.zero_le _, rfl, Below.refl _ _, hide rfl⟩
    case round =>
      obtain ⟨k, hk, rfl, hbel, hp⟩ := hrel
      have hsz := hbel.size
      by_cases hlt : k < n
      · obtain ⟨ad, s, rfl, hab, hx1, o1, c0, c1, c2, c3⟩ := (h.below (hbel.mono hB)).at hlt
        obtain ⟨ad', t, rfl, hab', hy1, o2, d0, d1, d2, d3⟩ := (h'.below (hbel.mono hB)).at hlt
        have hbl : (ad'.add (k * 4)).block < wr.heap.size := by rw [block_of_add]; omega
        have e0 : ∀ o, (wr.alloc o).cell? (ad'.add (k * 4)) = some (.string t.nm) := fun o => by rw [← d0]; exact World.cell?_alloc_lt _ _ _ hbl
        have e1 : ∀ o, (wr.alloc o).cell? ⟨(ad'.add (k * 4)).block, (ad'.add (k * 4)).off + 1, none⟩ = some (.int .i64 t.parts) := fun o => by rw [← d1]; exact World.cell?_alloc_lt _ _ _ hbl
        have e2 : ∀ o, (wr.alloc o).cell? ⟨(ad'.add (k * 4)).block, (ad'.add (k * 4)).off + 2, none⟩ = some (.slice t.PA t.pn t.pc) := fun o => by rw [← d2]; exact World.cell?_alloc_lt _ _ _ hbl
        have e3 : ∀ o, (wr.alloc o).cell? ⟨(ad'.add (k * 4)).block, (ad'.add (k * 4)).off + 3, none⟩ = some (.slice t.SA t.sn t.sc) := fun o => by rw [← d3]; exact World.cell?_alloc_lt _ _ _ hbl
        have wx := hx s (List.mem_of_getElem? hx1)
        have wy := hy t (List.mem_of_getElem? hy1)
        have O1 := fun q1 q2 => (o1.alloc (by omega : B ≤ wr.heap.size) q1).alloc (by simp; omega) q2
        have O2 := fun q1 q2 => (o2.alloc (by omega : B ≤ wr.heap.size) q1).alloc (by simp; omega) q2
        have Hx := hide hx1
        have Hy := hide hy1
        have i1 : (0 : Int) ≤ k := by omega
        have i2 : (k : Int) < n := by omega
        clear hx1 hy1 hbl d0 d1 d2 d3
        cases hs : sameSv s t with
        | false =>
          have Hs := hide (sameSvs_no Hx.out Hy.out hs)
          go_wp2_with (go_at_call 39; refine (i_SameSaved_1 (O1 _ _) (O2 _ _) (by simp; omega) wx wy).mono ?_; rintro e w1 ⟨rfl, hb⟩)
          go_ret
          exact ⟨ret_bool Hs.out.symm, ((hbel.alloc hsz _).alloc (by simp; omega) _).trans (hb.mono (by simp; omega))⟩
        | true =>
          have Hs := hide (sameSvs_take Hx.out Hy.out hs hp.out)
          go_wp2_with (go_at_call 39; refine (i_SameSaved_1 (O1 _ _) (O2 _ _) (by simp; omega) wx wy).mono ?_; rintro e w1 ⟨rfl, hb⟩)
          have hbel1 : Below w.heap.size w w1 := ((hbel.alloc hsz _).alloc (by simp; omega) _).trans (hb.mono (by simp; omega))
          go_roundw
          case rel => exact ⟨k + 1, by omega, by go_num, hbel1, Hs⟩
          case measure => simp [intOf]; omega
      · go_wp2
        go_ret
        obtain rfl : k = n := by omega
        exact ⟨ret_bool (sameSvs_all Hl.out Hl'.out hp.out).symm, hbel⟩
  · have hne : ((n : Int) != (n' : Int)) = true := by simp; omega
    have Hs := hide (sameSvs_len (ss := xs) (ts := ys) (by rw [Hl.out, Hl'.out]; exact hnn))
    clear hnn
    go_enter Try.func38, Try.ntmps38
    go_wp2
    go_ret
    exact ⟨ret_bool Hs.out.symm, Below.refl _ _⟩
theorem i_SameSaved {A A' : Option Addr} {n n' c c' B : Nat} {xs ys : List Sv} {w : World} (h : SvR w B A n xs) (h' : SvR w B A' n' ys) (hB : B ≤ w.heap.size) (hn : n ≤ 1099511627776) (hn' : n' ≤ 1099511627776) (hx : ∀ a ∈ xs, SvLe 1099511627776 a) (hy : ∀ a ∈ ys, SvLe 1099511627776 a) :
    Calls Try.prog 14 #[.slice A n c, .slice A' n' c'] w fun e w' => e = .returned (.bool (sameSvs xs ys)) ∧ Below w.heap.size w w' := by
  go_enter Try.func14, Try.ntmps14
  go_wp2_with (go_at_call 38; refine (equalFunc_saved h h' hB hn hn' hx hy).mono ?_; rintro e w1 ⟨rfl, hb⟩)
  go_ret
  exact ⟨rfl, hb⟩
end Go.Proofs.Ytjfmjeffmnjilaa
