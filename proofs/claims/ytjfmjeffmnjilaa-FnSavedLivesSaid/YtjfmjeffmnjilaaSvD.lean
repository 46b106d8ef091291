/-
  Are two lists of systems with signals the same: both sides' walks.
-/
import Derived.Test.YtjfmjeffmnjilaaSvI
import Derived.BigQuiet
import Derived.Shelf.SlSortCmp.QuietGrown
import Derived.Test.YtjfmjeffmnjilaaSvC
import Derived.Deep.RegionHeld3
namespace Go.Proofs.Ytjfmjeffmnjilaa
open Go.RowKit Fl Mem
set_option linter.unusedVariables false
set_option maxRecDepth 100000

set_option maxHeartbeats 2000000 in
theorem equalFunc_saved {A A' : Option Addr} {n n' c c' B : Nat} {xs ys : List Sv} {w : World} (h : SvR w B A n xs) (h' : SvR w B A' n' ys) (hB : B ≤ w.heap.size) (hn : n ≤ 1099511627776) (hn' : n' ≤ 1099511627776) (hx : ∀ a ∈ xs, SvLe 1099511627776 a) (hy : ∀ a ∈ ys, SvLe 1099511627776 a) :
    Calls Try.prog 38 #[.slice A n c, .slice A' n' c', .func (.func 39) #[] #[]] w fun e w' => e = .returned (.bool (sameSvs xs ys)) ∧ Below w.heap.size w w' := by
  have Hl := hide h.len
  have Hl' := hide h'.len
  by_cases hnn : n = n'
  · subst hnn
    go_enter Try.func38, Try.ntmps38
    go_wp2
    go_loopw [17] (fun i wr => ∃ k : Nat, k ≤ n ∧ i = .int .i64 k ∧ Below w.heap.size w wr ∧ Hid ((xs.take k).map svK = (ys.take k).map svK)) (fun i _ => n - (intOf i).toNat)
    case atStart => exact ⟨0, Nat.zero_le _, rfl, Below.refl _ _, hide rfl⟩
    case round =>
      obtain ⟨k, hk, rfl, hbel, hp⟩ := hrel
      have hsz := hbel.size
      by_cases hlt : k < n
      · obtain ⟨ad, s, rfl, hab, hx1, o1, c0, c1, c2, c3⟩ := (h.below (hbel.mono hB)).at hlt
        obtain ⟨ad', t, rfl, hab', hy1, o2, d0, d1, d2, d3⟩ := (h'.below (hbel.mono hB)).at hlt
        have hbl : (ad'.add (k * 4)).block < wr.heap.size := by rw [block_of_add]; omega
        have e0 : ∀ o, (wr.alloc o).cell? (ad'.add (k * 4)) = some (.string t.nm) := fun o => by rw [← d0]; exact World.cell?_alloc_lt _ _ _ hbl
        have e1 : ∀ o, (wr.alloc o).cell? ⟨(ad'.add (k * 4)).block, (ad'.add (k * 4)).off + 1, none⟩ = some (.int .i64 t.parts) := fun o => by rw [← d1]; exact World.cell?_alloc_lt _ _ _ hbl
        have e2 : ∀ o, (wr.alloc o).cell? ⟨(ad'.add (k * 4)).block, (ad'.add (k * 4)).off + 2, none⟩ = some (.slice t.PA t.pn t.pc) := fun o => by rw [← d2]; exact World.cell?_alloc_lt _ _ _ hbl
        have e3 : ∀ o, (wr.alloc o).cell? ⟨(ad'.add (k * 4)).block, (ad'.add (k * 4)).off + 3, none⟩ = some (.slice t.SA t.sn t.sc) := fun o => by rw [← d3]; exact World.cell?_alloc_lt _ _ _ hbl
        have wx := hx s (List.mem_of_getElem? hx1)
        have wy := hy t (List.mem_of_getElem? hy1)
        have O1 := fun q1 q2 => (o1.alloc (by omega : B ≤ wr.heap.size) q1).alloc (by simp; omega) q2
        have O2 := fun q1 q2 => (o2.alloc (by omega : B ≤ wr.heap.size) q1).alloc (by simp; omega) q2
        have Hx := hide hx1
        have Hy := hide hy1
        have i1 : (0 : Int) ≤ k := by omega
        have i2 : (k : Int) < n := by omega
        clear hx1 hy1 hbl d0 d1 d2 d3
        cases hs : sameSv s t with
        | false =>
          have Hs := hide (sameSvs_no Hx.out Hy.out hs)
          go_wp2_with (go_at_call 39; refine (i_SameSaved_1 (O1 _ _) (O2 _ _) (by simp; omega) wx wy).mono ?_; rintro e w1 ⟨rfl, hb⟩)
          go_ret
          exact ⟨ret_bool Hs.out.symm, ((hbel.alloc hsz _).alloc (by simp; omega) _).trans (hb.mono (by simp; omega))⟩
        | true =>
          have Hs := hide (sameSvs_take Hx.out Hy.out hs hp.out)
          go_wp2_with (go_at_call 39; refine (i_SameSaved_1 (O1 _ _) (O2 _ _) (by simp; omega) wx wy).mono ?_; rintro e w1 ⟨rfl, hb⟩)
          have hbel1 : Below w.heap.size w w1 := ((hbel.alloc hsz _).alloc (by simp; omega) _).trans (hb.mono (by simp; omega))
          go_roundw
          case rel => exact ⟨k + 1, by omega, by go_num, hbel1, Hs⟩
          case measure => simp [intOf]; omega
      · go_wp2
        go_ret
        obtain rfl : k = n := by omega
        exact ⟨ret_bool (sameSvs_all Hl.out Hl'.out hp.out).symm, hbel⟩
  · have hne : ((n : Int) != (n' : Int)) = true := by simp; omega
    have Hs := hide (sameSvs_len (ss := xs) (ts := ys) (by rw [Hl.out, Hl'.out]; exact hnn))
    clear hnn
    go_enter Try.func38, Try.ntmps38
    go_wp2
    go_ret
    exact ⟨ret_bool Hs.out.symm, Below.refl _ _⟩
theorem i_SameSaved {A A' : Option Addr} {n n' c c' B : Nat} {xs ys : List Sv} {w : World} (h : SvR w B A n xs) (h' : SvR w B A' n' ys) (hB : B ≤ w.heap.size) (hn : n ≤ 1099511627776) (hn' : n' ≤ 1099511627776) (hx : ∀ a ∈ xs, SvLe 1099511627776 a) (hy : ∀ a ∈ ys, SvLe 1099511627776 a) :
    Calls Try.prog 14 #[.slice A n c, .slice A' n' c'] w fun e w' => e = .returned (.bool (sameSvs xs ys)) ∧ Below w.heap.size w w' := by
  go_enter Try.func14, Try.ntmps14
  go_wp2_with (go_at_call 38; refine (equalFunc_saved h h' hB hn hn' hx hy).mono ?_; rintro e w1 ⟨rfl, hb⟩)
  go_ret
  exact ⟨rfl, hb⟩
end Go.Proofs.Ytjfmjeffmnjilaa

/-
  Are two lists of systems with signals the same: the reference's walk.
-/
namespace Go.Proofs.Ytjfmjeffmnjilaa
open Go.RowKit Fl Mem
open Go.Sort (grow)
set_option linter.unusedVariables false
set_option maxRecDepth 100000

theorem reads_grown {w : World} {B size n : Nat} {A : Option Addr} {xs : List Value} (h : Reads w B size A n xs) (hB : B ≤ w.heap.size) (q : Nat) (os : Array Obj) : Reads (Go.Sort.grow (w.drewN q) os) B size A n xs :=
  h.keep fun p hp => by rw [Go.Sort.cell?_grow _ _ _ (by show p.block < w.heap.size; omega)]; rfl
theorem below_grown (w : World) (q : Nat) (os : Array Obj) : Below w.heap.size w (Go.Sort.grow (w.drewN q) os) := ⟨rfl, rfl, rfl, by rw [Go.Sort.size_grow]; exact Nat.le_add_right _ _, fun k hk => Go.Sort.heap_grow_old _ _ hk⟩
theorem grown_size (w : World) (q : Nat) (os : Array Obj) : w.heap.size ≤ (Go.Sort.grow (w.drewN q) os).heap.size := (below_grown w q os).size
theorem al2_grow (w : World) (o1 o2 : Obj) (m : Nat) : ((w.alloc o1).alloc o2).drewN m = Go.Sort.grow (w.drewN m) #[o1, o2] := by
  rw [Go.Sort.alloc_eq_grow, Go.Sort.alloc_eq_grow, Go.Sort.grow_grow]
  rfl
theorem al2_grow0 (w : World) (o1 o2 : Obj) : (w.alloc o1).alloc o2 = Go.Sort.grow (w.drewN 0) #[o1, o2] := al2_grow w o1 o2 0
set_option maxHeartbeats 1000000 in
theorem s_SameSystem_gr {p q : Int} {A A' : Option Addr} {n n' c c' B B' : Nat} {xs ys : List Int} {r : Bool} {w : World} (h : Reads w B 1 A n (il xs)) (h' : Reads w B' 1 A' n' (il ys)) (hB : B ≤ w.heap.size) (hB' : B' ≤ w.heap.size) (hn : n ≤ 1099511627776) (hn' : n' ≤ 1099511627776) (hr : sameSys p q xs ys = r) :
    Calls Try.prog 36 #[sysV p A n c, sysV q A' n' c'] w fun e w' => e = .returned (.bool r) ∧ ∃ m os, w' = Go.Sort.grow (w.drewN m) os := by
  have R1 := fun o1 o2 => (h.alloc hB o1).alloc (by simp; omega) o2
  have R2 := fun o1 o2 => (h'.alloc hB' o1).alloc (by simp; omega) o2
  have Hr := hide hr
  clear hr
  cases hk : p == q with
  | false =>
    have Hs : Hid (sameSys p q xs ys = false) := hide (by unfold sameSys; rw [hk]; rfl)
    go_enter Try.func36, Try.ntmps36
    go_wp2
    go_ret
    exact ⟨ret_bool (by rw [← Hr.out, Hs.out]), by first | exact ⟨_, _, al2_grow0 _ _ _⟩ | exact ⟨_, _, al2_grow _ _ _ _⟩ | exact ⟨_, _, al2_grow _ _ _ 1⟩⟩
  | true =>
    have Hs : Hid (sameSys p q xs ys = decide (xs = ys)) := hide (by unfold sameSys; rw [hk]; rfl)
    go_enter Try.func36, Try.ntmps36
    go_wp2_with (go_at_call 71; refine (s_l00Same (R1 _ _) (R2 _ _) hn hn').mono ?_; rintro e w1 ⟨rfl, m, rfl⟩)
    go_ret
    exact ⟨ret_bool (by rw [← Hr.out, Hs.out]), by first | exact ⟨_, _, al2_grow _ _ _ _⟩ | exact ⟨_, _, al2_grow _ _ _ m⟩⟩
theorem drewN_grow (w : World) (m : Nat) : w.drewN m = Go.Sort.grow (w.drewN m) #[] := by rw [Go.Sort.grow_empty]
theorem s_l01SameAll_gr {A A' : Option Addr} {n n' c c' B B' : Nat} {xs ys : List Nat} {r : Bool} {w : World} (h : Reads w B 1 A n (fl .f32 xs)) (h' : Reads w B' 1 A' n' (fl .f32 ys)) (hn : n ≤ 1099511627776) (hn' : n' ≤ 1099511627776) (hx : ∀ a ∈ xs, Wf .f32 a) (hy : ∀ a ∈ ys, Wf .f32 a) (hr : sameL xs ys = r) :
    Calls Try.prog 37 #[.slice A n c, .slice A' n' c'] w fun e w' => e = .returned (.bool r) ∧ ∃ m os, w' = Go.Sort.grow (w.drewN m) os :=
  (s_l01SameAll h h' hn hn' hx hy).mono fun _ _ ⟨h1, m, h2⟩ => ⟨by rw [h1, hr], m, #[], by rw [h2]; exact drewN_grow _ _⟩
set_option maxHeartbeats 4000000 in
theorem s_SameSaved {A A' : Option Addr} {n n' c c' B : Nat} {xs ys : List Sv} {w : World} (h : SvR w B A n xs) (h' : SvR w B A' n' ys) (hB : B ≤ w.heap.size) (hn : n ≤ 1099511627776) (hn' : n' ≤ 1099511627776) (hx : ∀ a ∈ xs, SvLe 1099511627776 a) (hy : ∀ a ∈ ys, SvLe 1099511627776 a) :
    Calls Try.prog 12 #[.slice A n c, .slice A' n' c'] w fun e w' => e = .returned (.bool (sameSvs xs ys)) ∧ Below w.heap.size w w' := by
  have Hl := hide h.len
  have Hl' := hide h'.len
  by_cases hnn : n = n'
  · subst hnn
    go_enter Try.func12, Try.ntmps12
    go_wp2
    go_loopw [5, 13] (fun z i wr => ∃ k : Nat, k ≤ n ∧ i = .int .i64 k ∧ Below w.heap.size w wr ∧ Hid ((xs.take k).map svK = (ys.take k).map svK)) (fun _ i _ => n - (intOf i).toNat)
    case atStart => exact ⟨0, Nat.zero_le _, rfl, Below.refl _ _, hide rfl⟩
    case round =>
      obtain ⟨k, hk, rfl, hbel, hp⟩ := hrel
      have hsz := hbel.size
      by_cases hlt : k < n
      · obtain ⟨ad, s, rfl, hab, hx1, o1, c0, c1, c2, c3⟩ := (h.below (hbel.mono hB)).at hlt
        obtain ⟨ad', t, rfl, hab', hy1, o2, d0, d1, d2, d3⟩ := (h'.below (hbel.mono hB)).at hlt
        have l1 := (hx s (List.mem_of_getElem? hx1)).pn
        have l2 := (hy t (List.mem_of_getElem? hy1)).pn
        have l3 := (hx s (List.mem_of_getElem? hx1)).sn
        have l4 := (hy t (List.mem_of_getElem? hy1)).sn
        have Hx := hide hx1
        have Hy := hide hy1
        have i1 : (0 : Int) ≤ k := by omega
        have i2 : (k : Int) < n := by omega
        have hBw : B ≤ wr.heap.size := by omega
        have hb1 : (ad.add (k * 4)).block < wr.heap.size := by rw [block_of_add]; omega
        have hb2 : (ad'.add (k * 4)).block < wr.heap.size := by rw [block_of_add]; omega
        clear hx1 hy1
        have Hu : Hid (sameSv s t = (decide (s.nm = t.nm) && (sameSys s.parts t.parts s.ps t.ps && sameL s.xs t.xs))) := hide rfl
        by_cases hk : s.nm = t.nm
        · have hk1 : (!s.nm.toList == t.nm.toList) = false := by rw [strNe, decide_eq_true hk]; rfl
          rw [decide_eq_true hk, Bool.true_and] at Hu
          clear hk
          have g0 := cell_grown (by exact hb1) c0
          have g1 := cell_grown (by exact hb1) c1
          have g2 := cell_grown (by exact hb1) c2
          have g3 := cell_grown (by exact hb1) c3
          have j0 := cell_grown (by exact hb2) d0
          have j1 := cell_grown (by exact hb2) d1
          have j2 := cell_grown (by exact hb2) d2
          have j3 := cell_grown (by exact hb2) d3
          have P1 := reads_grown o1.paths hBw
          have P2 := reads_grown o2.paths hBw
          have S1 := reads_grown o1.sig hBw
          have S2 := reads_grown o2.sig hBw
          have hBg : ∀ q os, B ≤ (Go.Sort.grow (wr.drewN q) os).heap.size := fun q os => Nat.le_trans hBw (grown_size wr q os)
          have mixed : Try.prog.follows .mixedOrders = true := by kernel_rfl
          clear c0 c1 c2 c3 d0 d1 d2 d3
          cases hq : sameSys s.parts t.parts s.ps t.ps with
          | false =>
            rw [hq] at Hu
            have Hs := hide (sameSvs_no Hx.out Hy.out Hu.out)
            have HC1 : ∀ q os, Calls Try.prog 36 #[.agg #[.int .i64 s.parts, .slice s.PA s.pn s.pc], .agg #[.int .i64 t.parts, .slice t.PA t.pn t.pc]] (grow (wr.drewN q) os) fun e w' => e = .returned (.bool false) ∧ ∃ m os', w' = grow ((grow (wr.drewN q) os).drewN m) os' := fun q os => s_SameSystem_gr (P1 q os) (P2 q os) (hBg q os) (hBg q os) l1 l2 hq
            have HC2 : ∀ q os, Calls Try.prog 37 #[.slice s.SA s.sn s.sc, .slice t.SA t.sn t.sc] (grow (wr.drewN q) os) fun e w' => e = .returned (.bool (sameL s.xs t.xs)) ∧ ∃ m os', w' = grow ((grow (wr.drewN q) os).drewN m) os' := fun q os => s_l01SameAll_gr (S1 q os) (S2 q os) l3 l4 o1.wf o2.wf rfl
            clear P1 P2 S1 S2 hBg
            go_wp2
            refine wp_region_quiet_grown (by assumption) (by kernel_rfl) ?_
            repeat (go_big_quiet_step ((first | (go_at_call 36; refine Calls.grown_of (HC1 _ _)) | (go_at_call 37; refine Calls.grown_of (HC2 _ _)))))
            refine wpQuiet_nil ?_
            intro _ hw'
            obtain ⟨⟨nq, osq⟩, hw''⟩ := hw'
            subst hw''
            clear HC1 HC2
            go_wp2
            go_ret
            exact ⟨ret_bool Hs.out.symm, hbel.trans ((below_grown _ _ _).mono hsz)⟩
          | true =>
            rw [hq, Bool.true_and] at Hu
            cases hz : sameL s.xs t.xs with
            | false =>
              rw [hz] at Hu
              have Hs := hide (sameSvs_no Hx.out Hy.out Hu.out)
              have HC1 : ∀ q os, Calls Try.prog 36 #[.agg #[.int .i64 s.parts, .slice s.PA s.pn s.pc], .agg #[.int .i64 t.parts, .slice t.PA t.pn t.pc]] (grow (wr.drewN q) os) fun e w' => e = .returned (.bool true) ∧ ∃ m os', w' = grow ((grow (wr.drewN q) os).drewN m) os' := fun q os => s_SameSystem_gr (P1 q os) (P2 q os) (hBg q os) (hBg q os) l1 l2 hq
              have HC2 : ∀ q os, Calls Try.prog 37 #[.slice s.SA s.sn s.sc, .slice t.SA t.sn t.sc] (grow (wr.drewN q) os) fun e w' => e = .returned (.bool false) ∧ ∃ m os', w' = grow ((grow (wr.drewN q) os).drewN m) os' := fun q os => s_l01SameAll_gr (S1 q os) (S2 q os) l3 l4 o1.wf o2.wf hz
              clear P1 P2 S1 S2 hBg
              go_wp2
              refine wp_region_quiet_grown (by assumption) (by kernel_rfl) ?_
              repeat (go_big_quiet_step ((first | (go_at_call 36; refine Calls.grown_of (HC1 _ _)) | (go_at_call 37; refine Calls.grown_of (HC2 _ _)))))
              refine wpQuiet_nil ?_
              intro _ hw'
              obtain ⟨⟨nq, osq⟩, hw''⟩ := hw'
              subst hw''
              clear HC1 HC2
              go_wp2
              go_ret
              exact ⟨ret_bool Hs.out.symm, hbel.trans ((below_grown _ _ _).mono hsz)⟩
            | true =>
              rw [hz] at Hu
              have Hs := hide (sameSvs_take Hx.out Hy.out Hu.out hp.out)
              have HC1 : ∀ q os, Calls Try.prog 36 #[.agg #[.int .i64 s.parts, .slice s.PA s.pn s.pc], .agg #[.int .i64 t.parts, .slice t.PA t.pn t.pc]] (grow (wr.drewN q) os) fun e w' => e = .returned (.bool true) ∧ ∃ m os', w' = grow ((grow (wr.drewN q) os).drewN m) os' := fun q os => s_SameSystem_gr (P1 q os) (P2 q os) (hBg q os) (hBg q os) l1 l2 hq
              have HC2 : ∀ q os, Calls Try.prog 37 #[.slice s.SA s.sn s.sc, .slice t.SA t.sn t.sc] (grow (wr.drewN q) os) fun e w' => e = .returned (.bool true) ∧ ∃ m os', w' = grow ((grow (wr.drewN q) os).drewN m) os' := fun q os => s_l01SameAll_gr (S1 q os) (S2 q os) l3 l4 o1.wf o2.wf hz
              clear P1 P2 S1 S2 hBg
              go_wp2
              refine wp_region_quiet_grown (by assumption) (by kernel_rfl) ?_
              repeat (go_big_quiet_step ((first | (go_at_call 36; refine Calls.grown_of (HC1 _ _)) | (go_at_call 37; refine Calls.grown_of (HC2 _ _)))))
              refine wpQuiet_nil ?_
              intro _ hw'
              obtain ⟨⟨nq, osq⟩, hw''⟩ := hw'
              subst hw''
              clear HC1 HC2
              go_wp2
              go_roundw
              case rel => exact ⟨k + 1, by omega, by go_num, hbel.trans ((below_grown _ _ _).mono hsz), Hs⟩
              case measure => simp [intOf]; omega
        · have hk1 : (!s.nm.toList == t.nm.toList) = true := by rw [strNe, decide_eq_false hk]; rfl
          rw [decide_eq_false hk, Bool.false_and] at Hu
          clear hk
          have Hs := hide (sameSvs_no Hx.out Hy.out Hu.out)
          go_wp2
          go_region
          all_goals
            go_wp2
            go_ret
            exact ⟨ret_bool Hs.out.symm, below_drewN hbel _⟩
      · go_wp2
        go_ret
        obtain rfl : k = n := by omega
        exact ⟨ret_bool (sameSvs_all Hl.out Hl'.out hp.out).symm, hbel⟩
  · have hne : ((n : Int) != (n' : Int)) = true := by simp; omega
    have Hs := hide (sameSvs_len (ss := xs) (ts := ys) (by rw [Hl.out, Hl'.out]; exact hnn))
    clear hnn
    go_enter Try.func12, Try.ntmps12
    go_wp2
    go_ret
    exact ⟨ret_bool Hs.out.symm, Below.refl _ _⟩
end Go.Proofs.Ytjfmjeffmnjilaa

/-
  What the laws do with lists of systems with signals: how many cells they have, and that two are the same.
-/
namespace Go.Proofs.Ytjfmjeffmnjilaa
open Go.RowKit Fl Mem
set_option linter.unusedVariables false
set_option maxRecDepth 100000

/-- What is known of one that may be long. -/
def SvBig (s : Sv) : Prop := s.nm.size ≤ 9223372036854775807 ∧ s.pn ≤ 9223372036854775807 ∧ s.sn ≤ 9223372036854775807
set_option maxHeartbeats 1000000 in
theorem l_szSavedS {A : Option Addr} {n c B : Nat} {ss : List Sv} {left : Int} {w : World} (h : SvR w B A n ss) (hB : B ≤ w.heap.size) (hn : n ≤ 9223372036854775807) (h0 : 0 ≤ left) (h1 : left ≤ 1048576) (hl : ∀ s ∈ ss, SvBig s) :
    Calls Try.prog 11 #[.slice A n c, .int .i64 left] w fun e w' => ∃ r : Int, e = .returned (.int .i64 r) ∧ (r < 0 ∨ (0 ≤ r ∧ r ≤ left ∧ n ≤ left ∧ ∀ s ∈ ss, SvLe 1048576 s)) ∧ Below w.heap.size w w' := by
  have Hl := hide h.len
  by_cases hnl : (n : Int) ≤ left
  · have i1 : ¬ left - (n : Int) < 0 := by omega
    go_enter Try.func11, Try.ntmps11
    go_wp2
    go_loopw [1, 5] (fun r i wr => ∃ (k : Nat) (q : Int), k ≤ n ∧ i = .int .i64 k ∧ r = .int .i64 q ∧ 0 ≤ q ∧ q ≤ left ∧ (∀ s ∈ ss.take k, SvLe 1048576 s) ∧ Below w.heap.size w wr) (fun _ i _ => n - (intOf i).toNat)
    case atStart => exact ⟨0, left - n, Nat.zero_le _, rfl, rfl, by omega, by omega, (fun s hs => by simp at hs), Below.refl _ _⟩
    case round =>
      obtain ⟨k, q, hk, rfl, rfl, q0, q1, hls, hbel⟩ := hrel
      have hsz := hbel.size
      have Hls := hide hls
      clear hls
      by_cases hlt : k < n
      · obtain ⟨ad, s, rfl, hab, hx, o1, c0, c1, c2, c3⟩ := (h.below (hbel.mono hB)).at hlt
        have hle := hl s (List.mem_of_getElem? hx)
        rcases s with ⟨nm, parts, PA, pn, pc, ps, SA, sn, sc, xs⟩
        obtain ⟨l3, l1, l2⟩ := hle
        have Hx := hide hx
        have i1 : (0 : Int) ≤ k := by omega
        have i2 : (k : Int) < n := by omega
        clear hx
        dsimp only at c0 c1 c2 c3 l1 l2 l3
        go_wp2_with fail
        refine (l_szSaved q0 (by omega) l1 l2 l3).mono ?_
        rintro e w1 ⟨r, rfl, hr, hb⟩
        have hbel1 : Below w.heap.size w w1 := hbel.trans (hb.mono hsz)
        clear hb c0 c1 c2 c3
        rcases hr with hr | ⟨hr, hr1⟩
        · go_wp2
          go_ret
          exact ⟨_, rfl, .inl (by omega), hbel1⟩
        · have i3 : ¬ r < 0 := by omega
          have Hr1 := hide hr1
          clear hr1
          go_wp2
          go_roundw
          case rel => exact ⟨k + 1, r, by omega, by go_num, rfl, hr, by have := Hr1.out; omega, fun s hs => by
            rw [take_eq Hx.out] at hs
            rcases List.mem_append.1 hs with hs | hs
            · exact Hls.out s hs
            · obtain rfl := List.mem_singleton.1 hs
              have := Hr1.out
              exact ⟨by show nm.size ≤ _; omega, by show pn ≤ _; omega, by show sn ≤ _; omega⟩, hbel1⟩
          case measure => simp [intOf]; omega
      · go_wp2
        go_ret
        obtain rfl : k = n := by omega
        exact ⟨_, rfl, .inr ⟨q0, q1, hnl, fun s hs => Hls.out s (by rw [List.take_of_length_le (by rw [Hl.out]; exact Nat.le_refl _)]; exact hs)⟩, hbel⟩
  · have i1 : left - (n : Int) < 0 := by omega
    go_enter Try.func11, Try.ntmps11
    go_wp2
    go_ret
    exact ⟨_, rfl, .inl (by omega), Below.refl _ _⟩

theorem svK_iff {s t : Sv} : svK s = svK t ↔ s.nm = t.nm ∧ s.parts = t.parts ∧ s.ps = t.ps ∧ s.xs.map (cn .f32) = t.xs.map (cn .f32) := by
  unfold svK
  rw [Prod.mk.injEq, Prod.mk.injEq, Prod.mk.injEq]
set_option maxHeartbeats 2000000 in
theorem l_eqSaved {s t : Sv} {B B' : Nat} {w : World} (h : SvOk w B s) (h' : SvOk w B' t) (hB : B ≤ w.heap.size) (hB' : B' ≤ w.heap.size) (hs : SvLe 1099511627776 s) (ht : SvLe 1099511627776 t) (he : svK s = svK t) :
    Calls Try.prog 20 #[svV s, svV t] w fun e w' => e = .returned (.bool true) ∧ Below w.heap.size w w' := by
  rcases s with ⟨nm, parts, PA, pn, pc, ps, SA, sn, sc, xs⟩
  rcases t with ⟨nm', parts', PA', pn', pc', ps', SA', sn', sc', xs'⟩
  obtain ⟨rfl, rfl, rfl, he⟩ := svK_iff.1 he
  dsimp only at he
  have He := hide he
  clear he
  have P1 := fun o1 o2 => (h.paths.alloc hB o1).alloc (by simp; omega) o2
  have P2 := fun o1 o2 => (h'.paths.alloc hB' o1).alloc (by simp; omega) o2
  have S1 := fun o1 o2 => (h.sig.alloc hB o1).alloc (by simp; omega) o2
  have S2 := fun o1 o2 => (h'.sig.alloc hB' o1).alloc (by simp; omega) o2
  have l1 := hs.pn
  have l2 := ht.pn
  have l3 := hs.sn
  have l4 := ht.sn
  dsimp only at P1 P2 S1 S2 l1 l2 l3 l4
  have hk1 : (!nm.toList == nm.toList) = false := by simp
  go_enter Try.func20, Try.ntmps20
  go_wp2_with fail
  refine (l_eqSystem parts (B := B) (B' := B') (P1 _ _) (P2 _ _) (by simp; omega) (by simp; omega) l1).mono ?_
  rintro e w3 ⟨rfl, hb⟩
  have b1 := (((blk_new' w w.heap.size _ _ rfl).alloc _).below hb (by simp; omega) : Blk w3 w.heap.size 38 _)
  have b2 := ((blk_new' (w.alloc _) (w.heap.size + 1) _ _ (by simp)).below hb (by simp) : Blk w3 (w.heap.size + 1) 38 _)
  have c1 : w3.cell? ⟨w.heap.size, 2, none⟩ = none ∨ True := .inr trivial
  have c2 : w3.cell? ⟨w.heap.size, 3, none⟩ = some (.slice SA sn sc) := b1.cell 3
  have c3 : w3.cell? ⟨w.heap.size + 1, 3, none⟩ = some (.slice SA' sn' sc') := b2.cell 3
  clear b1 b2 c1
  have S1' := (S1 _ _).below (hb.mono (by simp; omega))
  have S2' := (S2 _ _).below (hb.mono (by simp; omega))
  clear S1 S2 P1 P2
  go_wp2_with (go_at_call 52; refine (eqF S1' S2' l3 He.out).mono ?_; rintro e w4 ⟨rfl, hb4⟩)
  go_ret
  exact ⟨rfl, ((below_al' (Nat.le_refl _) _).alloc (by simp) _).trans ((hb.trans (hb4.mono hb.size)).mono (by simp; omega))⟩

theorem svK_len {ss ts : List Sv} (h : ss.map svK = ts.map svK) : ss.length = ts.length := by have := congrArg List.length h; simpa using this
theorem svK_at {ss ts : List Sv} (h : ss.map svK = ts.map svK) {k : Nat} {s t : Sv} (hx : ss[k]? = some s) (hy : ts[k]? = some t) : svK s = svK t := by
  have h1 := congrArg (fun l => l[k]?) h
  simpa [hx, hy] using h1
theorem sv_cell {w w' : World} {B : Nat} {p : Addr} {v : Value} (h : w.cell? p = some v) (hb : Below B w w') (hp : p.block < B) : w'.cell? p = some v := (hb.cell hp).trans h
theorem sv_undrew {w w' : World} (h : Below w.drew.heap.size w.drew w') : Below w.heap.size w w' := ⟨h.os, h.tape, h.output, h.size, h.block⟩
set_option maxHeartbeats 4000000 in
theorem l_eqSavedS {A A' : Option Addr} {n n' c c' B B' : Nat} {xs ys : List Sv} {w : World} (h : SvR w B A n xs) (h' : SvR w B' A' n' ys) (hB : B ≤ w.heap.size) (hB' : B' ≤ w.heap.size) (hn : n ≤ 1099511627776) (hx : ∀ a ∈ xs, SvLe 1099511627776 a) (hy : ∀ a ∈ ys, SvLe 1099511627776 a) (he : xs.map svK = ys.map svK) :
    Calls Try.prog 15 #[.slice A n c, .slice A' n' c'] w fun e w' => e = .returned (.bool true) ∧ Below w.heap.size w w' := by
  obtain rfl : n' = n := by rw [← h.len, ← h'.len, svK_len he]
  have He := hide he
  clear he
  have hne : ((n' : Int) != (n' : Int)) = false := by simp
  go_enter Try.func15, Try.ntmps15
  go_wp2
  go_loopw [5] (fun i wr => ∃ k : Nat, k ≤ n' ∧ i = .int .i64 k ∧ Below w.heap.size w wr) (fun i _ => n' - (intOf i).toNat)
  case atStart => exact ⟨0, Nat.zero_le _, rfl, Below.refl _ _⟩
  case round =>
    obtain ⟨k, hk, rfl, hbel⟩ := hrel
    have hsz := hbel.size
    by_cases hlt : k < n'
    · obtain ⟨ad, s, rfl, hab, hx1, o1, c0, c1, c2, c3⟩ := (h.below (hbel.mono hB)).at hlt
      obtain ⟨ad', t, rfl, hab', hy1, o2, d0, d1, d2, d3⟩ := (h'.below (hbel.mono hB')).at hlt
      have hK := svK_at He.out hx1 hy1
      have wx := hx s (List.mem_of_getElem? hx1)
      have wy := hy t (List.mem_of_getElem? hy1)
      have i1 : (0 : Int) ≤ k := by omega
      have i2 : (k : Int) < n' := by omega
      have hBw : B ≤ wr.heap.size := by omega
      have hBw' : B' ≤ wr.heap.size := by omega
      have hb1 : (ad.add (k * 4)).block < wr.heap.size := by rw [block_of_add]; omega
      have hb2 : (ad'.add (k * 4)).block < wr.heap.size := by rw [block_of_add]; omega
      have HK := hide hK
      have O1 : SvOk wr.drew B s := ⟨o1.paths.drew, o1.sig.drew, o1.wf, o1.wfi, o1.wfp⟩
      have O2 : SvOk wr.drew B' t := ⟨o2.paths.drew, o2.sig.drew, o2.wf, o2.wfi, o2.wfp⟩
      clear hx1 hy1 hK
      go_wp2
      go_region_held3 (fun w' => w'.cell? (ad.add (k * 4)) = some (.string s.nm) ∧ w'.cell? (ad'.add (k * 4)) = some (.string t.nm) ∧ w'.cell? ⟨(ad.add (k * 4)).block, (ad.add (k * 4)).off + 1, none⟩ = some (.int .i64 s.parts) ∧ w'.cell? ⟨(ad'.add (k * 4)).block, (ad'.add (k * 4)).off + 1, none⟩ = some (.int .i64 t.parts) ∧ w'.cell? ⟨(ad.add (k * 4)).block, (ad.add (k * 4)).off + 2, none⟩ = some (.slice s.PA s.pn s.pc) ∧ w'.cell? ⟨(ad'.add (k * 4)).block, (ad'.add (k * 4)).off + 2, none⟩ = some (.slice t.PA t.pn t.pc) ∧ w'.cell? ⟨(ad.add (k * 4)).block, (ad.add (k * 4)).off + 3, none⟩ = some (.slice s.SA s.sn s.sc) ∧ w'.cell? ⟨(ad'.add (k * 4)).block, (ad'.add (k * 4)).off + 3, none⟩ = some (.slice t.SA t.sn t.sc)) (first | assumption | go_keep)
        (first
          | (go_at_call 20; refine (l_eqSaved (B := B) (B' := B') O1 O2 hBw hBw' wx wy HK.out).mono ?_; rintro e w3 ⟨rfl, hb⟩; have B3 : Below wr.heap.size wr w3 := sv_undrew hb; have K3 : w3.cell? (ad.add (k * 4)) = some (.string s.nm) ∧ w3.cell? (ad'.add (k * 4)) = some (.string t.nm) ∧ w3.cell? ⟨(ad.add (k * 4)).block, (ad.add (k * 4)).off + 1, none⟩ = some (.int .i64 s.parts) ∧ w3.cell? ⟨(ad'.add (k * 4)).block, (ad'.add (k * 4)).off + 1, none⟩ = some (.int .i64 t.parts) ∧ w3.cell? ⟨(ad.add (k * 4)).block, (ad.add (k * 4)).off + 2, none⟩ = some (.slice s.PA s.pn s.pc) ∧ w3.cell? ⟨(ad'.add (k * 4)).block, (ad'.add (k * 4)).off + 2, none⟩ = some (.slice t.PA t.pn t.pc) ∧ w3.cell? ⟨(ad.add (k * 4)).block, (ad.add (k * 4)).off + 3, none⟩ = some (.slice s.SA s.sn s.sc) ∧ w3.cell? ⟨(ad'.add (k * 4)).block, (ad'.add (k * 4)).off + 3, none⟩ = some (.slice t.SA t.sn t.sc) := ⟨sv_cell c0 B3 hb1, sv_cell d0 B3 hb2, sv_cell c1 B3 hb1, sv_cell d1 B3 hb2, sv_cell c2 B3 hb1, sv_cell d2 B3 hb2, sv_cell c3 B3 hb1, sv_cell d3 B3 hb2⟩))
      have hbel1 := hbel.trans (B3.mono hsz)
      clear K3 B3 hb c0 c1 c2 c3 d0 d1 d2 d3 O1 O2
      go_wp2
      go_roundw
      case rel => exact ⟨k + 1, by omega, by go_num, hbel1⟩
      case measure => simp [intOf]; omega
    · go_wp2
      go_ret
      exact ⟨rfl, hbel⟩
end Go.Proofs.Ytjfmjeffmnjilaa
