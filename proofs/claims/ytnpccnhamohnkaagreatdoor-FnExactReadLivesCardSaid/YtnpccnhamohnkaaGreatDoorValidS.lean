/-
  Contracts of 'valid' for desks: the program's last part, and the reference's.
-/
import Derived.Test.YtnpccnhamohnkaaGreatDoorValid
import Derived.Deep.RegionHeld3
import Derived.BigQuiet
namespace Go.Proofs.YtnpccnhamohnkaaGreatDoor
open Go.RowKit Fl Mem
set_option linter.unusedVariables false
set_option maxRecDepth 100000

def deskOk (xs : List (Nat × Bool)) (kd : Int) (sh sc : Nat) (st : Int) (rs : List Nat) (sz ac : Int) : Bool := livesOk xs && (lawOk kd sh sc && (chainOk st rs && planOk sz ac))

theorem s_l02Least (x : Nat) (w : World) : Calls Tryz.prog 165 #[.float .f32 x] w fun e w' => e = .returned (.bool (leastF x)) ∧ ∃ n, w' = w.drewN n := by
  have hp : Hid (leastF x = (fin .f32 x && (FloatKind.f32.format.order x 0 == some .gt || FloatKind.f32.format.order x 0 == some .eq))) := hide rfl
  cases hf : fin .f32 x
  all_goals
    go_enter Tryz.func165, Tryz.ntmps165
    go_wp2_with (go_at_call 206; refine (s_l01Finite _ _).mono ?_; rintro e w' ⟨rfl, m', rfl⟩)
    go_ret
    exact ⟨ret_bool (by rw [hp.out, hf]; simp), _, rfl⟩

theorem livesOk_no {xs : List (Nat × Bool)} {k : Nat} {p : Nat × Bool} (h : xs[k]? = some p) (hp : pos p.1 = false) : livesOk xs = false := by
  unfold livesOk
  have : (xs.all fun p => pos p.1) = false := by
    rw [List.all_eq_false]
    exact ⟨p, List.mem_of_getElem? h, by simp [hp]⟩
  rw [this]; simp

set_option maxHeartbeats 1000000 in
theorem s_l02Lives {A : Option Addr} {n c B : Nat} {xs : List (Nat × Bool)} {w : World} (h : Reads w B 2 A n (ll xs)) (hn : n ≤ 1099511627776) :
    Calls Tryz.prog 109 #[.slice A n c] w fun e w' => e = .returned (.bool (livesOk xs)) ∧ ∃ m, w' = w.drewN m := by
  have Hl := hide (lives_len h)
  go_enter Tryz.func109, Tryz.ntmps109
  go_wp2
  go_loopw [3] (fun i wr => ∃ k m : Nat, k ≤ n ∧ i = .int .i64 k ∧ wr = w.drewN m ∧ Hid ((xs.take k).all (fun p => pos p.1) = true)) (fun i _ => n - (intOf i).toNat)
  case atStart => exact ⟨0, 0, Nat.zero_le _, rfl, rfl, hide rfl⟩
  case round =>
    obtain ⟨k, m, hk, rfl, rfl, ha⟩ := hrel
    by_cases hlt : k < n
    · obtain ⟨ad, p, rfl, hab, hx, hc, hc2⟩ := reads_ll h hlt
      have Hx := hide hx
      clear hx hc2
      cases hp : pos p.1 with
      | false =>
        go_wp2_with (go_at_call 171; refine (s_l02Above _ _).mono ?_; rintro e w1 ⟨rfl, m1, rfl⟩)
        go_ret
        exact ⟨ret_bool (livesOk_no Hx.out hp).symm, _, rfl⟩
      | true =>
        go_wp2_with (go_at_call 171; refine (s_l02Above _ _).mono ?_; rintro e w1 ⟨rfl, m1, rfl⟩)
        go_roundw
        case rel => exact ⟨k + 1, _, by omega, by go_num, rfl, hide (by rw [take_eq Hx.out, List.all_append, ha.out]; simp [hp])⟩
        case measure => simp [intOf]; omega
    · obtain rfl : k = n := by omega
      have hall : (xs.all fun p => pos p.1) = true := by rw [← ha.out, List.take_of_length_le (by rw [Hl.out]; omega)]
      have Hs : Hid (livesOk xs = (decide (1 ≤ k) && decide (k ≤ 48))) := hide (by unfold livesOk; rw [Hl.out, hall]; simp)
      clear hall
      by_cases h1 : 1 ≤ k
      · have b1 : (1 : Int) ≤ (k : Int) := by omega
        by_cases h2 : k ≤ 48
        · have b2 : (k : Int) ≤ 48 := by omega
          replace Hs : Hid (livesOk xs = true) := hide (by rw [Hs.out]; simp [h1, h2])
          clear h1 h2
          go_wp2
          go_ret
          exact ⟨ret_bool Hs.out.symm, _, rfl⟩
        · have b2 : ¬ (k : Int) ≤ 48 := by omega
          replace Hs : Hid (livesOk xs = false) := hide (by rw [Hs.out]; simp [h2])
          clear h1 h2
          go_wp2
          go_ret
          exact ⟨ret_bool Hs.out.symm, _, rfl⟩
      · have b1 : ¬ (1 : Int) ≤ (k : Int) := by omega
        replace Hs : Hid (livesOk xs = false) := hide (by rw [Hs.out]; simp [h1])
        clear h1
        go_wp2
        go_ret
        exact ⟨ret_bool Hs.out.symm, _, rfl⟩

theorem s_l00In_eq {a lo hi : Int} {b : Bool} {w : World} (h : inB a lo hi = b) : Calls Tryz.prog 164 #[.int .i64 a, .int .i64 lo, .int .i64 hi] w fun e w' => e = .returned (.bool b) ∧ w' = w :=
  (s_l00In _ _ _ _).mono fun _ _ k => ⟨by rw [k.1, h], k.2.symm⟩
theorem quiet_add {P : Program} {f : FuncId} {args : Array Value} {w : World} {a n : Nat} {v : Value}
    (h : Calls P f args (w.drewN (a + n)) fun e w' => e = .returned v ∧ ∃ m, w' = (w.drewN (a + n)).drewN m) :
    Calls P f args (w.drewN (a + n)) fun e w'' => e = .returned v ∧ ∃ m, w'' = w.drewN (a + m) :=
  h.mono fun _ _ ⟨he, m, hm⟩ => ⟨he, n + m, by rw [hm, World.drewN_drewN, Nat.add_assoc]⟩
theorem s_l02Least_eq {x : Nat} {b : Bool} {w : World} (h : leastF x = b) : Calls Tryz.prog 165 #[.float .f32 x] w fun e w' => e = .returned (.bool b) ∧ ∃ n, w' = w.drewN n :=
  (s_l02Least _ _).mono fun _ _ k => ⟨by rw [k.1, h], k.2⟩
theorem chain_end {xs : List Nat} {s : Nat} (hl : xs.length = s * s) :
    (∀ j, j < s * s → ∀ x, xs[j]? = some x → leastF x = true ∧ (j % (s + 1) = 0 → zeroF x = true)) ↔ (xs.all leastF && diagOk xs s) = true := by
  rw [Bool.and_eq_true, diagOk_iff, List.all_eq_true]
  constructor
  · intro h
    refine ⟨fun x hx => ?_, fun j hj => ?_⟩
    · obtain ⟨j, hj⟩ := List.getElem?_of_mem hx
      have hlt : j < s * s := by rw [← hl]; exact (List.getElem?_eq_some_iff.1 hj).1
      exact (h j hlt x hj).1
    · have hd := diag_lt hj
      have hlt : j * s + j < xs.length := by rw [hl]; exact hd
      have := (h _ hd _ (List.getElem?_eq_getElem hlt)).2 (by rw [show j * s + j = j * (s + 1) from by rw [Nat.mul_add, Nat.mul_one]]; exact Nat.mul_mod_left _ _)
      rwa [List.getD_eq_getElem?_getD, List.getElem?_eq_getElem hlt]
  · rintro ⟨h1, h2⟩ j hj x hx
    refine ⟨h1 x (List.mem_of_getElem? hx), fun hm => ?_⟩
    obtain ⟨q, rfl⟩ := Nat.dvd_of_mod_eq_zero hm
    have hq : q < s := by
      rcases Nat.lt_or_ge q s with h | h
      · exact h
      · have := Nat.mul_le_mul_left (s + 1) h
        rw [Nat.add_mul, Nat.one_mul] at this
        omega
    have := h2 q hq
    rw [show q * s + q = (s + 1) * q from by rw [Nat.add_mul, Nat.one_mul, Nat.mul_comm], List.getD_eq_getElem?_getD, hx] at this
    exact this

set_option maxHeartbeats 2000000 in
theorem s_l04Is {g o n c B : Nat} {st : Int} {A : Option Addr} {xs : List Nat} {w : World} (h1 : w.cell? ⟨g, o, none⟩ = some (.int .i64 st)) (h2 : w.cell? ⟨g, o + 1, none⟩ = some (.slice A n c)) (h : Reads w B 1 A n (fl .f32 xs)) (hn : n ≤ 1099511627776) :
    Calls Tryz.prog 103 #[.pointer (some ⟨g, o, none⟩)] w fun e w' => e = .returned (.bool (chainOk st xs)) ∧ ∃ m, w' = w.drewN m := by
  have Hl := hide h.map_len
  cases hb : inB st 1 8 with
  | false =>
    have Hs : Hid (chainOk st xs = false) := hide (by unfold chainOk; rw [hb]; rfl)
    go_enter Tryz.func103, Tryz.ntmps103
    go_wp2
    go_quiet ((go_at_call 164; exact Calls.quiet_of_same (s_l00In_eq hb)))
    all_goals
      go_wp2
      go_ret
      exact ⟨ret_bool Hs.out.symm, _, rfl⟩
  | true =>
    have hin := inB_iff.1 hb
    obtain ⟨s, rfl⟩ := Int.eq_ofNat_of_zero_le (show 0 ≤ st by omega)
    have hs1 : 1 ≤ s := by omega
    have hs2 : s ≤ 8 := by omega
    have hq64 : s * s ≤ 64 := Nat.mul_le_mul hs2 hs2
    obtain ⟨q, hq⟩ : ∃ q, s * s = q := ⟨_, rfl⟩
    have hmul : (s : Int) * (s : Int) = (q : Int) := by rw [← hq]; push_cast; rfl
    have Hq := hide hq
    rw [hq] at hq64
    clear hq hin
    by_cases hlen : n = q
    · subst hlen
      have hne : ((n : Int) != (n : Int)) = false := by simp
      have Hs : Hid (chainOk (s : Int) xs = (xs.all leastF && diagOk xs s)) := hide (by unfold chainOk; rw [hb, Hl.out, decide_eq_true hmul.symm]; simp)
      go_enter Tryz.func103, Tryz.ntmps103
      go_wp2
      go_quiet ((go_at_call 164; exact Calls.quiet_of_same (s_l00In_eq hb)))
      go_wp2
      go_loopw [3] (fun i wr => ∃ k m : Nat, k ≤ n ∧ i = .int .i64 k ∧ wr = w.drewN m ∧ Hid (∀ j, j < k → ∀ x, xs[j]? = some x → leastF x = true ∧ (j % (s + 1) = 0 → zeroF x = true))) (fun i _ => n - (intOf i).toNat)
      case atStart => exact ⟨0, _, Nat.zero_le _, rfl, rfl, hide (fun j hj => absurd hj (by omega))⟩
      case round =>
        obtain ⟨k, m, hk, rfl, rfl, ha⟩ := hrel
        by_cases hlt : k < n
        · obtain ⟨ad, x, rfl, hab, hx, hc⟩ := h.map_at hlt
          have Hx := hide hx
          clear hx
          cases hf : leastF x with
          | false =>
            have Hn : Hid (chainOk (s : Int) xs = false) := hide (by
              cases hc : chainOk (s : Int) xs with
              | false => rfl
              | true => exact absurd (((chain_end (by rw [Hl.out, Hq.out])).2 (by rw [← Hs.out]; exact hc)) k (by rw [Hq.out]; exact hlt) x Hx.out).1 (by rw [hf]; simp))
            go_wp2_with (go_at_call 165; refine (s_l02Least_eq hf).mono ?_; rintro e w1 ⟨rfl, m1, rfl⟩)
            go_ret
            exact ⟨ret_bool Hn.out.symm, _, rfl⟩
          | true =>
            have i1 : (0 : Int) ≤ k := by omega
            have hsp : ((s : Int) + 1) ≠ 0 := by omega
            have hrm : (k : Int) % ((s : Int) + 1) = ((k % (s + 1) : Nat) : Int) := by push_cast; rfl
            by_cases hm : k % (s + 1) = 0
            · have hr : (k : Int) % ((s : Int) + 1) = 0 := by rw [hrm, hm]; rfl
              cases hz : zeroF x with
              | false =>
                have hz' : (FloatKind.f32.format.order x 0 != some .eq) = true := by rw [bne, show (FloatKind.f32.format.order x 0 == some .eq) = false from hz]; rfl
                have Hn : Hid (chainOk (s : Int) xs = false) := hide (by
                  cases hc : chainOk (s : Int) xs with
                  | false => rfl
                  | true => exact absurd ((((chain_end (by rw [Hl.out, Hq.out])).2 (by rw [← Hs.out]; exact hc)) k (by rw [Hq.out]; exact hlt) x Hx.out).2 hm) (by rw [hz]; simp))
                clear hm hrm hz
                go_wp2_with (go_at_call 165; refine (s_l02Least_eq hf).mono ?_; rintro e w1 ⟨rfl, m1, rfl⟩)
                go_ret
                exact ⟨ret_bool Hn.out.symm, _, rfl⟩
              | true =>
                have hz' : (FloatKind.f32.format.order x 0 != some .eq) = false := by rw [bne, show (FloatKind.f32.format.order x 0 == some .eq) = true from hz]; rfl
                have Ha : Hid (∀ j, j < k + 1 → ∀ x, xs[j]? = some x → leastF x = true ∧ (j % (s + 1) = 0 → zeroF x = true)) := hide (fun j hj y hy => by
                  rcases Nat.lt_or_ge j k with hjk | hjk
                  · exact ha.out j hjk y hy
                  · obtain rfl : j = k := by omega
                    rw [Hx.out] at hy; cases hy
                    exact ⟨hf, fun _ => hz⟩)
                clear hm hrm hz
                go_wp2_with (go_at_call 165; refine (s_l02Least_eq hf).mono ?_; rintro e w1 ⟨rfl, m1, rfl⟩)
                go_roundw
                case rel => exact ⟨k + 1, _, by omega, by go_num, rfl, Ha⟩
                case measure => simp [intOf]; omega
            · have hr : ¬ (k : Int) % ((s : Int) + 1) = 0 := by rw [hrm]; omega
              have Ha : Hid (∀ j, j < k + 1 → ∀ x, xs[j]? = some x → leastF x = true ∧ (j % (s + 1) = 0 → zeroF x = true)) := hide (fun j hj y hy => by
                rcases Nat.lt_or_ge j k with hjk | hjk
                · exact ha.out j hjk y hy
                · obtain rfl : j = k := by omega
                  rw [Hx.out] at hy; cases hy
                  exact ⟨hf, fun h => absurd h hm⟩)
              clear hm hrm
              go_wp2_with (go_at_call 165; refine (s_l02Least_eq hf).mono ?_; rintro e w1 ⟨rfl, m1, rfl⟩)
              go_roundw
              case rel => exact ⟨k + 1, _, by omega, by go_num, rfl, Ha⟩
              case measure => simp [intOf]; omega
        · go_wp2
          go_ret
          obtain rfl : k = n := by omega
          exact ⟨ret_bool (by rw [Hs.out]; exact ((chain_end (by rw [Hl.out, Hq.out])).1 (by rw [Hq.out]; exact ha.out)).symm), _, rfl⟩
    · have hne : ((n : Int) != (q : Int)) = true := by simp; omega
      have Hs : Hid (chainOk (s : Int) xs = false) := hide (chainOk_len (by rw [Hl.out, hmul]; omega))
      clear hlen
      go_enter Tryz.func103, Tryz.ntmps103
      go_wp2
      go_quiet ((go_at_call 164; exact Calls.quiet_of_same (s_l00In_eq hb)))
      all_goals
        go_wp2
        go_ret
        exact ⟨ret_bool Hs.out.symm, _, rfl⟩

set_option maxHeartbeats 4000000 in
theorem i_ValidDesk {LA RA : Option Addr} {ln lc rn rc sh sc B : Nat} {kd st sz ac : Int} {xs : List (Nat × Bool)} {rs : List Nat} {w : World} (hB : B ≤ w.heap.size)
    (h1 : Reads w B 2 LA ln (ll xs)) (h2 : Reads w B 1 RA rn (fl .f32 rs)) (hn : ln ≤ 1099511627776) (hm : rn ≤ 1048576) :
    Calls Tryz.prog 29 #[deskV LA ln lc kd sh sc st RA rn rc sz ac] w fun e w' => e = .returned (.bool (deskOk xs kd sh sc st rs sz ac)) ∧ Below w.heap.size w w' := by
  have R1 := fun o => h1.alloc hB o
  have R2 := fun o => h2.alloc hB o
  have hw := fun o => (Below.refl w.heap.size w).alloc (Nat.le_refl _) o
  cases s1 : livesOk xs with
  | false =>
    go_enter Tryz.func29, Tryz.ntmps29
    go_wp2_with (go_at_call 57; refine (i_AreLives (R1 _) (by simp; omega) hn).mono ?_; rintro e w1 ⟨rfl, hb⟩)
    go_ret
    exact ⟨ret_bool (by unfold deskOk; rw [s1]; rfl), (hw _).trans (hb.mono (by simp))⟩
  | true =>
    have T1 := hide s1
    go_enter Tryz.func29, Tryz.ntmps29
    go_wp2_with fail
    refine (i_AreLives (R1 _) (by simp; omega) hn).mono ?_
    rintro e w1 ⟨rfl, hb⟩
    have hg1 : Hid (Blk w1 w.heap.size _ _) := hide (blk_below (Blk.new w _ _) hb)
    have h2' := (R2 _).below (hb.mono (by simp; omega))
    have hz := hb.size
    replace hb := (hw _).trans (hb.mono (by simp))
    simp at hz
    have a1 : w1.cell? ⟨w.heap.size, 1, none⟩ = some (.int .i64 kd) := hg1.out.cell 1
    have a2 : w1.cell? ⟨w.heap.size, 2, none⟩ = some (.float .f32 sh) := hg1.out.cell 2
    have a3 : w1.cell? ⟨w.heap.size, 3, none⟩ = some (.float .f32 sc) := hg1.out.cell 3
    have a4 : w1.cell? ⟨w.heap.size, 4, none⟩ = some (.int .i64 st) := hg1.out.cell 4
    have a5 : w1.cell? ⟨w.heap.size, 5, none⟩ = some (.slice RA rn rc) := hg1.out.cell 5
    have a6 : w1.cell? ⟨w.heap.size, 6, none⟩ = some (.int .i64 sz) := hg1.out.cell 6
    have a7 : w1.cell? ⟨w.heap.size, 7, none⟩ = some (.int .i64 ac) := hg1.out.cell 7
    cases s2 : lawOk kd sh sc with
    | false =>
      go_wp2_with (go_at_call 61; refine i_ValidLaw.mono ?_; rintro e w2 ⟨rfl, hb2⟩)
      go_ret
      exact ⟨ret_bool (by unfold deskOk; rw [T1.out, s2]; rfl), hb.trans (hb2.mono hb.size)⟩
    | true =>
      have T2 := hide s2
      go_wp2_with fail
      refine i_ValidLaw.mono ?_
      rintro e w2 ⟨rfl, hb2⟩
      have hg2 := hide (blk_below hg1.out hb2)
      replace hb := hb.trans (hb2.mono hb.size)
      replace h2' := h2.below (hb.mono hB)
      have hz2 := hb.size
      clear hb2 a1 a2 a3 a4 a5 a6 a7
      have a1 : w2.cell? ⟨w.heap.size, 1, none⟩ = some (.int .i64 kd) := hg2.out.cell 1
      have a2 : w2.cell? ⟨w.heap.size, 2, none⟩ = some (.float .f32 sh) := hg2.out.cell 2
      have a3 : w2.cell? ⟨w.heap.size, 3, none⟩ = some (.float .f32 sc) := hg2.out.cell 3
      have a4 : w2.cell? ⟨w.heap.size, 4, none⟩ = some (.int .i64 st) := hg2.out.cell 4
      have a5 : w2.cell? ⟨w.heap.size, 5, none⟩ = some (.slice RA rn rc) := hg2.out.cell 5
      have a6 : w2.cell? ⟨w.heap.size, 6, none⟩ = some (.int .i64 sz) := hg2.out.cell 6
      have a7 : w2.cell? ⟨w.heap.size, 7, none⟩ = some (.int .i64 ac) := hg2.out.cell 7
      cases s3 : chainOk st rs with
      | false =>
        go_wp2_with (go_at_call 49; refine (i_ValidChain h2' (by omega) hm).mono ?_; rintro e w3 ⟨rfl, hb3⟩)
        go_ret
        exact ⟨ret_bool (by unfold deskOk; rw [T1.out, T2.out, s3]; rfl), hb.trans (hb3.mono hb.size)⟩
      | true =>
        have T3 := hide s3
        go_wp2_with fail
        refine (i_ValidChain h2' (by omega) hm).mono ?_
        rintro e w3 ⟨rfl, hb3⟩
        have hg3 := hide (blk_below hg2.out hb3)
        replace hb := hb.trans (hb3.mono hb.size)
        clear hb3 a1 a2 a3 a4 a5 a6 a7
        have a1 : w3.cell? ⟨w.heap.size, 1, none⟩ = some (.int .i64 kd) := hg3.out.cell 1
        have a2 : w3.cell? ⟨w.heap.size, 2, none⟩ = some (.float .f32 sh) := hg3.out.cell 2
        have a3 : w3.cell? ⟨w.heap.size, 3, none⟩ = some (.float .f32 sc) := hg3.out.cell 3
        have a4 : w3.cell? ⟨w.heap.size, 4, none⟩ = some (.int .i64 st) := hg3.out.cell 4
        have a5 : w3.cell? ⟨w.heap.size, 5, none⟩ = some (.slice RA rn rc) := hg3.out.cell 5
        have a6 : w3.cell? ⟨w.heap.size, 6, none⟩ = some (.int .i64 sz) := hg3.out.cell 6
        have a7 : w3.cell? ⟨w.heap.size, 7, none⟩ = some (.int .i64 ac) := hg3.out.cell 7
        go_wp2_with fail
        refine i_ValidPlan.mono ?_
        rintro e w4 ⟨rfl, hb4⟩
        go_wp2
        go_ret
        exact ⟨ret_bool (by unfold deskOk; rw [T1.out, T2.out, T3.out]; rfl), hb.trans (hb4.mono hb.size)⟩
end Go.Proofs.YtnpccnhamohnkaaGreatDoor
