/-
  Are two lists of systems with signals the same: the reference's walk.
-/
import Derived.Test.YtjfmjeffmnjilaaSvJ
import Derived.Shelf.SlSortCmp.QuietGrown
namespace Go.Proofs.Ytjfmjeffmnjilaa
open Go.RowKit Fl Mem
open Go.Sort (grow)
set_option linter.unusedVariables false
set_option maxRecDepth 100000

theorem reads_grown {w : World} {B size n : Nat} {A : Option Addr} {xs : List Value} (h : Reads w B size A n xs) (hB : B ≤ w.heap.size) (q : Nat) (os : Array Obj) : Reads (Go.Sort.grow (w.drewN q) os) B size A n xs :=
  h.keep fun p hp => by rw [Go.Sort.cell?_grow _ _ _ (by show p.block < w.heap.size; omega)]; rfl
theorem below_grown (w : World) (q : Nat) (os : Array Obj) : Below w.heap.size w (Go.Sort.grow (w.drewN q) os) := ⟨rfl, rfl, rfl, by rw [Go.Sort.size_grow]; exact Nat.le_add_right _ _, fun k hk => Go.Sort.heap_grow_old _ _ hk⟩
theorem grown_size (w : World) (q : Nat) (os : Array Obj) : w.heap.size ≤ (Go.Sort.grow (w.drewN q) os).heap.size := (below_grown w q os).size
theorem al2_grow (w : World) (o1 o2 : Obj) (m : Nat) : ((w.alloc o1).alloc o2).drewN m = Go.Sort.grow (w.drewN m) #[o1, o2] := by
  rw [Go.Sort.alloc_eq_grow, Go.Sort.alloc_eq_grow, Go.Sort.grow_grow]
  rfl
theorem al2_grow0 (w : World) (o1 o2 : Obj) : (w.alloc o1).alloc o2 = Go.Sort.grow (w.drewN 0) #[o1, o2] := al2_grow w o1 o2 0
set_option maxHeartbeats 1000000 in
theorem s_SameSystem_gr {p q : Int} {A A' : Option Addr} {n n' c c' B B' : Nat} {xs ys : List Int} {r : Bool} {w : World} (h : Reads w B 1 A n (il xs)) (h' : Reads w B' 1 A' n' (il ys)) (hB : B ≤ w.heap.size) (hB' : B' ≤ w.heap.size) (hn : n ≤ 1099511627776) (hn' : n' ≤ 1099511627776) (hr : sameSys p q xs ys = r) :
    Calls Try.prog 36 #[sysV p A n c, sysV q A' n' c'] w fun e w' => e = .returned (.bool r) ∧ ∃ m os, w' = Go.Sort.grow (w.drewN m) os := by
  have R1 := fun o1 o2 => (h.alloc hB o1).alloc (by simp; omega) o2
  have R2 := fun o1 o2 => (h'.alloc hB' o1).alloc (by simp; omega) o2
  have Hr := hide hr
  clear hr
  cases hk : p == q with
  | false =>
    have Hs : Hid (sameSys p q xs ys = false) := hide (by unfold sameSys; rw [hk]; rfl)
    go_enter Try.func36, Try.ntmps36
    go_wp2
    go_ret
    exact ⟨ret_bool (by rw [← Hr.out, Hs.out]), by first | exact ⟨_, _, al2_grow0 _ _ _⟩ | exact ⟨_, _, al2_grow _ _ _ _⟩ | exact ⟨_, _, al2_grow _ _ _ 1⟩⟩
  | true =>
    have Hs : Hid (sameSys p q xs ys = decide (xs = ys)) := hide (by unfold sameSys; rw [hk]; rfl)
    go_enter Try.func36, Try.ntmps36
    go_wp2_with (go_at_call 71; refine (s_l00Same (R1 _ _) (R2 _ _) hn hn').mono ?_; rintro e w1 ⟨rfl, m, rfl⟩)
    go_ret
    exact ⟨ret_bool (by rw [← Hr.out, Hs.out]), by first | exact ⟨_, _, al2_grow _ _ _ _⟩ | exact ⟨_, _, al2_grow _ _ _ m⟩⟩
theorem drewN_grow (w : World) (m : Nat) : w.drewN m = Go.Sort.grow (w.drewN m) #[] := by rw [Go.Sort.grow_empty]
theorem s_l01SameAll_gr {A A' : Option Addr} {n n' c c' B B' : Nat} {xs ys : List Nat} {r : Bool} {w : World} (h : Reads w B 1 A n (fl .f32 xs)) (h' : Reads w B' 1 A' n' (fl .f32 ys)) (hn : n ≤ 1099511627776) (hn' : n' ≤ 1099511627776) (hx : ∀ a ∈ xs, Wf .f32 a) (hy : ∀ a ∈ ys, Wf .f32 a) (hr : sameL xs ys = r) :
    Calls Try.prog 37 #[.slice A n c, .slice A' n' c'] w fun e w' => e = .returned (.bool r) ∧ ∃ m os, w' = Go.Sort.grow (w.drewN m) os :=
  (s_l01SameAll h h' hn hn' hx hy).mono fun _ _ ⟨h1, m, h2⟩ => ⟨by rw [h1, hr], m, #[], by rw [h2]; exact drewN_grow _ _⟩
set_option maxHeartbeats 4000000 in
theorem s_SameSaved {A A' : Option Addr} {n n' c c' B : Nat} {xs ys : List Sv} {w : World} (h : SvR w B A n xs) (h' : SvR w B A' n' ys) (hB : B ≤ w.heap.size) (hn : n ≤ 1099511627776) (hn' : n' ≤ 1099511627776) (hx : ∀ a ∈ xs, SvLe 1099511627776 a) (hy : ∀ a ∈ ys, SvLe 1099511627776 a) :
    Calls Try.prog 12 #[.slice A n c, .slice A' n' c'] w fun e w' => e = .returned (.bool (sameSvs xs ys)) ∧ Below w.heap.size w w' := by
  have Hl := hide h.len
  have Hl' := hide h'.len
  by_cases hnn : n = n'
  · subst hnn
    go_enter Try.func12, Try.ntmps12
    go_wp2
    go_loopw [5, 13] (fun z i wr => ∃ k : Nat, k ≤ n ∧ i = .int .i64 k ∧ Below w.heap.size w wr ∧ Hid ((xs.take k).map svK = (ys.take k).map svK)) (fun _ i _ => n - (intOf i).toNat)
    case atStart => exact ⟨0, Nat.zero_le _, rfl, Below.refl _ _, hide rfl⟩
    case round =>
      obtain ⟨k, hk, rfl, hbel, hp⟩ := hrel
      have hsz := hbel.size
      by_cases hlt : k < n
      · obtain ⟨ad, s, rfl, hab, hx1, o1, c0, c1, c2, c3⟩ := (h.below (hbel.mono hB)).at hlt
        obtain ⟨ad', t, rfl, hab', hy1, o2, d0, d1, d2, d3⟩ := (h'.below (hbel.mono hB)).at hlt
        have l1 := (hx s (List.mem_of_getElem? hx1)).pn
        have l2 := (hy t (List.mem_of_getElem? hy1)).pn
        have l3 := (hx s (List.mem_of_getElem? hx1)).sn
        have l4 := (hy t (List.mem_of_getElem? hy1)).sn
        have Hx := hide hx1
        have Hy := hide hy1
        have i1 : (0 : Int) ≤ k := by omega
        have i2 : (k : Int) < n := by omega
        have hBw : B ≤ wr.heap.size := by omega
        have hb1 : (ad.add (k * 4)).block < wr.heap.size := by rw [block_of_add]; omega
        have hb2 : (ad'.add (k * 4)).block < wr.heap.size := by rw [block_of_add]; omega
        clear hx1 hy1
        have Hu : Hid (sameSv s t = (decide (s.nm = t.nm) && (sameSys s.parts t.parts s.ps t.ps && sameL s.xs t.xs))) := hide rfl
        by_cases hk : s.nm = t.nm
        · have hk1 : (!s.nm.toList == t.nm.toList) = false := by rw [strNe, decide_eq_true hk]; rfl
          rw [decide_eq_true hk, Bool.true_and] at Hu
          clear hk
          have g0 := cell_grown (by exact hb1) c0
          have g1 := cell_grown (by exact hb1) c1
          have g2 := cell_grown (by exact hb1) c2
          have g3 := cell_grown (by exact hb1) c3
          have j0 := cell_grown (by exact hb2) d0
          have j1 := cell_grown (by exact hb2) d1
          have j2 := cell_grown (by exact hb2) d2
          have j3 := cell_grown (by exact hb2) d3
          have P1 := reads_grown o1.paths hBw
          have P2 := reads_grown o2.paths hBw
          have S1 := reads_grown o1.sig hBw
          have S2 := reads_grown o2.sig hBw
          have hBg : ∀ q os, B ≤ (Go.Sort.grow (wr.drewN q) os).heap.size := fun q os => Nat.le_trans hBw (grown_size wr q os)
          have mixed : Try.prog.follows .mixedOrders = true := by kernel_rfl
          clear c0 c1 c2 c3 d0 d1 d2 d3
          cases hq : sameSys s.parts t.parts s.ps t.ps with
          | false =>
            rw [hq] at Hu
            have Hs := hide (sameSvs_no Hx.out Hy.out Hu.out)
            have HC1 : ∀ q os, Calls Try.prog 36 #[.agg #[.int .i64 s.parts, .slice s.PA s.pn s.pc], .agg #[.int .i64 t.parts, .slice t.PA t.pn t.pc]] (grow (wr.drewN q) os) fun e w' => e = .returned (.bool false) ∧ ∃ m os', w' = grow ((grow (wr.drewN q) os).drewN m) os' := fun q os => s_SameSystem_gr (P1 q os) (P2 q os) (hBg q os) (hBg q os) l1 l2 hq
            have HC2 : ∀ q os, Calls Try.prog 37 #[.slice s.SA s.sn s.sc, .slice t.SA t.sn t.sc] (grow (wr.drewN q) os) fun e w' => e = .returned (.bool (sameL s.xs t.xs)) ∧ ∃ m os', w' = grow ((grow (wr.drewN q) os).drewN m) os' := fun q os => s_l01SameAll_gr (S1 q os) (S2 q os) l3 l4 o1.wf o2.wf rfl
            clear P1 P2 S1 S2 hBg
            go_wp2
            refine wp_region_quiet_grown (by assumption) (by kernel_rfl) ?_
            repeat (go_big_quiet_step ((first | (go_at_call 36; refine Calls.grown_of (HC1 _ _)) | (go_at_call 37; refine Calls.grown_of (HC2 _ _)))))
            refine wpQuiet_nil ?_
            intro _ hw'
            obtain ⟨⟨nq, osq⟩, hw''⟩ := hw'
            subst hw''
            clear HC1 HC2
            go_wp2
            go_ret
            exact ⟨ret_bool Hs.out.symm, hbel.trans ((below_grown _ _ _).mono hsz)⟩
          | true =>
            rw [hq, Bool.true_and] at Hu
            cases hz : sameL s.xs t.xs with
            | false =>
              rw [hz] at Hu
              have Hs := hide (sameSvs_no Hx.out Hy.out Hu.out)
              have HC1 : ∀ q os, Calls Try.prog 36 #[.agg #[.int .i64 s.parts, .slice s.PA s.pn s.pc], .agg #[.int .i64 t.parts, .slice t.PA t.pn t.pc]] (grow (wr.drewN q) os) fun e w' => e = .returned (.bool true) ∧ ∃ m os', w' = grow ((grow (wr.drewN q) os).drewN m) os' := fun q os => s_SameSystem_gr (P1 q os) (P2 q os) (hBg q os) (hBg q os) l1 l2 hq
              have HC2 : ∀ q os, Calls Try.prog 37 #[.slice s.SA s.sn s.sc, .slice t.SA t.sn t.sc] (grow (wr.drewN q) os) fun e w' => e = .returned (.bool false) ∧ ∃ m os', w' = grow ((grow (wr.drewN q) os).drewN m) os' := fun q os => s_l01SameAll_gr (S1 q os) (S2 q os) l3 l4 o1.wf o2.wf hz
              clear P1 P2 S1 S2 hBg
              go_wp2
              refine wp_region_quiet_grown (by assumption) (by kernel_rfl) ?_
              repeat (go_big_quiet_step ((first | (go_at_call 36; refine Calls.grown_of (HC1 _ _)) | (go_at_call 37; refine Calls.grown_of (HC2 _ _)))))
              refine wpQuiet_nil ?_
              intro _ hw'
              obtain ⟨⟨nq, osq⟩, hw''⟩ := hw'
              subst hw''
              clear HC1 HC2
              go_wp2
              go_ret
              exact ⟨ret_bool Hs.out.symm, hbel.trans ((below_grown _ _ _).mono hsz)⟩
            | true =>
              rw [hz] at Hu
              have Hs := hide (sameSvs_take Hx.out Hy.out Hu.out hp.out)
              have HC1 : ∀ q os, Calls Try.prog 36 #[.agg #[.int .i64 s.parts, .slice s.PA s.pn s.pc], .agg #[.int .i64 t.parts, .slice t.PA t.pn t.pc]] (grow (wr.drewN q) os) fun e w' => e = .returned (.bool true) ∧ ∃ m os', w' = grow ((grow (wr.drewN q) os).drewN m) os' := fun q os => s_SameSystem_gr (P1 q os) (P2 q os) (hBg q os) (hBg q os) l1 l2 hq
              have HC2 : ∀ q os, Calls Try.prog 37 #[.slice s.SA s.sn s.sc, .slice t.SA t.sn t.sc] (grow (wr.drewN q) os) fun e w' => e = .returned (.bool true) ∧ ∃ m os', w' = grow ((grow (wr.drewN q) os).drewN m) os' := fun q os => s_l01SameAll_gr (S1 q os) (S2 q os) l3 l4 o1.wf o2.wf hz
              clear P1 P2 S1 S2 hBg
              go_wp2
              refine wp_region_quiet_grown (by assumption) (by kernel_rfl) ?_
              repeat (go_big_quiet_step ((first | (go_at_call 36; refine Calls.grown_of (HC1 _ _)) | (go_at_call 37; refine Calls.grown_of (HC2 _ _)))))
              refine wpQuiet_nil ?_
              intro _ hw'
              obtain ⟨⟨nq, osq⟩, hw''⟩ := hw'
              subst hw''
              clear HC1 HC2
              go_wp2
              go_roundw
              case rel => exact ⟨k + 1, by omega, by go_num, hbel.trans ((below_grown _ _ _).mono hsz), Hs⟩
              case measure => simp [intOf]; omega
        · have hk1 : (!s.nm.toList == t.nm.toList) = true := by rw [strNe, decide_eq_false hk]; rfl
          rw [decide_eq_false hk, Bool.false_and] at Hu
          clear hk
          have Hs := hide (sameSvs_no Hx.out Hy.out Hu.out)
          go_wp2
          go_region
          all_goals
            go_wp2
            go_ret
            exact ⟨ret_bool Hs.out.symm, below_drewN hbel _⟩
      · go_wp2
        go_ret
        obtain rfl : k = n := by omega
        exact ⟨ret_bool (sameSvs_all Hl.out Hl'.out hp.out).symm, hbel⟩
  · have hne : ((n : Int) != (n' : Int)) = true := by simp; omega
    have Hs := hide (sameSvs_len (ss := xs) (ts := ys) (by rw [Hl.out, Hl'.out]; exact hnn))
    clear hnn
    go_enter Try.func12, Try.ntmps12
    go_wp2
    go_ret
    exact ⟨ret_bool Hs.out.symm, Below.refl _ _⟩
end Go.Proofs.Ytjfmjeffmnjilaa
