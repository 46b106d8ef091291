/-
  Contracts of the alarms: the program's and the reference's.
-/
import Derived.Test.YtkjiefpnfkampaaAlarmP
import Derived.Test.YtkjiefpnfkampaaFin
import Derived.Test.YtkjiefpnfkampaaHelq
import Derived.BigGuardPart
namespace Go.Proofs.Ytkjiefpnfkampaa
open Go.RowKit Fl Mem
set_option linter.unusedVariables false
set_option maxRecDepth 100000

set_option maxHeartbeats 400000 in
theorem i_alarms (A : Option Addr) (n c : Nat) (xs : List Nat) (bar delay : Nat) (B : Nat) (w : World) (h : Reads w B 1 A n (fl .f32 xs)) (hB : B ≤ w.heap.size) (hn : n ≤ 96) :
    Calls Try.prog 57 #[.slice A n c, .float .f32 bar, .int .i64 (delay : Int)] w fun e w' => ∃ v, e = .returned v ∧
      w'.ownsRow w.heap.size 2 1 v (alarmsL xs bar delay).length (nl (alarmsL xs bar delay)) ∧ Below w.heap.size w w' := by
  have Hlen := hide h.map_len
  obtain ⟨i0, hi, hz0, hz1, hz2⟩ := info_parts info_i64
  have HI := hide hi
  have HZ0 := hide hz0
  have HZ1 := hide hz1
  have HZ2 := hide hz2
  clear hi hz0 hz1 hz2
  go_enter Try.func57, Try.ntmps57
  go_wp2
  have hb0 : Below w.heap.size w (w.alloc (.cells #[] 2)) := (Below.refl _ _).alloc (Nat.le_refl _) _
  go_loopw [7, 8, 14] (fun v r i wr => ∃ k q : Nat, k ≤ n ∧ i = .int .i64 k ∧ r = .int .i64 q ∧ q ≤ k ∧ Hid (RunAt xs bar q k) ∧ wr.ownsRow w.heap.size 2 1 v (alarmsTo xs bar delay k).length (nl (alarmsTo xs bar delay k)) ∧ Below w.heap.size w wr) (fun _ _ i _ => n - (intOf i).toNat)
  case atStart => exact ⟨0, 0, Nat.zero_le _, rfl, rfl, Nat.le_refl _, RunAt.zero xs bar, World.ownsRow_made _ _ _ (Nat.le_refl _) (by simp [maxLen]) (by simp), hb0⟩
  case round =>
    obtain ⟨k, q, hk, rfl, rfl, hq, hrun, hown, hbel⟩ := hrel
    clear hb0
    by_cases hlt : k < n
    · obtain ⟨ad, x, rfl, _, hx, hc⟩ := (h.below (hbel.mono hB)).map_at hlt
      have Hx := hide hx
      have Hown := hide hown
      clear hx hown
      have hsz := hbel.size
      cases hg : gtB x bar with
      | false =>
        have hg' : (FloatKind.f32.format.order x bar == some Ordering.gt) = false := hg
        have HR : Hid (RunAt xs bar 0 (k + 1)) := RunAt.none Hx.out hg
        have HT : Hid (alarmsTo xs bar delay (k + 1) = alarmsTo xs bar delay k) := by
          unfold Hid
          rw [alarmsTo_succ, RunAt.iff HR.out]; simp
        clear hg
        go_wp2
        go_roundw
        case rel => exact ⟨k + 1, 0, by omega, by go_num, rfl, by omega, HR, by rw [HT.out]; exact Hown.out, hbel⟩
        case measure => simp [intOf]; omega
      | true =>
        have hg' : (FloatKind.f32.format.order x bar == some Ordering.gt) = true := hg
        have HR : Hid (RunAt xs bar (q + 1) (k + 1)) := RunAt.more hrun.out Hx.out hg
        by_cases hd : delay < q + 1
        · have HT : Hid (alarmsTo xs bar delay (k + 1) = alarmsTo xs bar delay k ++ [k]) := by
            unfold Hid
            rw [alarmsTo_succ, RunAt.iff HR.out]; simp [hd]
          have HL : Hid ((alarmsTo xs bar delay k).length ≤ k) := alarmsTo_le _ _ _ _
          clear hg
          go_wp2_with (at_builtin; refine wpList_append_own _ rfl (.tmp 28) (.tmp 30) 26 rfl w.heap.size 2 i0 (.int .i64 0) 1 8 Try.underlying26 HI.out HZ0.out HZ1.out HZ2.out rfl (by decide) _ _ _ rfl (Hown.out.alloc _) ⟨wr.heap.size, 0, none⟩ 1 1 [.int .i64 (k : Int)] rfl rfl ?c1 ?c2 ?c3 ?c4 ?c5 ?_)
          case c1 => exact cell_one_new _ _ _
          case c2 => simp [Value.oneCell']
          case c3 => have := HL.out; simp [maxLen]; omega
          case c4 => have := HL.out; omega
          case c5 => simp; omega
          intro v' w1 hown' hgrow _
          have hbel1 : Below w.heap.size w w1 := (hbel.alloc hsz _).grown hgrow (by simp; omega) (fun g hg => (Hown.out.lt g hg).1)
          have Hown' := hide hown'
          clear hown' hgrow
          go_wp2
          go_roundw
          case rel => exact ⟨k + 1, q + 1, by omega, by go_num, by go_num, by omega, HR, by rw [HT.out]; have h9 := Hown'.out; simpa using h9, hbel1⟩
          case measure => simp [intOf]; omega
        · have HT : Hid (alarmsTo xs bar delay (k + 1) = alarmsTo xs bar delay k) := by
            unfold Hid
            rw [alarmsTo_succ, RunAt.iff HR.out]; simp [hd]
          clear hg
          go_wp2
          go_roundw
          case rel => exact ⟨k + 1, q + 1, by omega, by go_num, by go_num, by omega, HR, by rw [HT.out]; exact Hown.out, hbel⟩
          case measure => simp [intOf]; omega
    · go_wp2
      go_ret
      obtain rfl : k = n := by omega
      have e : alarmsTo xs bar delay k = alarmsL xs bar delay := by rw [← Hlen.out]; rfl
      rw [e] at hown
      exact ⟨_, rfl, hown, hbel⟩

theorem i_isDelayed (A : Option Addr) (n c : Nat) (xs : List Nat) (d : Int) (B : Nat) (w : World) (h : Reads w B 1 A n (fl .f32 xs)) (hn : n ≤ maxLen) :
    Calls Try.prog 55 #[.slice A n c, .int .i64 d] w fun e w' => e = .returned (.bool (isSig xs && inB d 0 ((n : Int) - 1))) ∧ ∃ n, w' = w.drewN n := by
  have hn' := hn
  unfold maxLen at hn
  cases hs : isSig xs with
  | true =>
    go_enter Try.func55, Try.ntmps55
    go_wp2_with (first | (go_at_call 17; refine (i_IsSignal _ _ _ xs _ _ h hn').mono ?_; rintro e w' ⟨rfl, m', rfl⟩) | (go_at_call 66; refine (i_within _ _ _ _).mono ?_; rintro e w' ⟨rfl, rfl⟩))
    go_ret
    exact ⟨ret_bool (by simp), _, rfl⟩
  | false =>
    go_enter Try.func55, Try.ntmps55
    go_wp2_with (first | (go_at_call 17; refine (i_IsSignal _ _ _ xs _ _ h hn').mono ?_; rintro e w' ⟨rfl, m', rfl⟩) | (go_at_call 66; refine (i_within _ _ _ _).mono ?_; rintro e w' ⟨rfl, rfl⟩))
    go_ret
    exact ⟨ret_bool (by simp), _, rfl⟩
theorem i_areWorkers (d : Int) (w : World) : Calls Try.prog 56 #[.int .i64 d] w fun e w' => e = .returned (.bool (inB d 1 8)) ∧ w = w' := by
  go_enter Try.func56, Try.ntmps56
  go_wp2_with (go_at_call 66; refine (i_within _ _ _ _).mono ?_; rintro e w' ⟨rfl, rfl⟩)
  go_ret
  exact ⟨rfl, rfl⟩

/-- What AlarmAt returns. -/
def alarmOk (xs : List Nat) (bar : Nat) (d : Int) : Bool := isSig xs && fin .f32 bar && inB d 0 ((xs.length : Int) - 1)
def alarmAtR (xs : List Nat) (bar : Nat) (d : Int) : Int := if alarmOk xs bar d = true then firstOf (alarmsL xs bar d.toNat) else 0

set_option maxHeartbeats 400000 in
theorem i_AlarmAt (A : Option Addr) (n c : Nat) (xs : List Nat) (bar : Nat) (d : Int) (B : Nat) (w : World) (h : Reads w B 1 A n (fl .f32 xs)) (hB : B ≤ w.heap.size) (hn : n ≤ maxLen) :
    Calls Try.prog 23 #[.slice A n c, .float .f32 bar, .int .i64 d] w fun e w' => e = .returned (.tuple #[.int .i64 (alarmAtR xs bar d), .bool (alarmOk xs bar d)]) ∧ Below w.heap.size w w' := by
  have Hl := hide h.map_len
  have Hok : Hid (alarmOk xs bar d = (isSig xs && inB d 0 ((n : Int) - 1) && fin .f32 bar)) := by unfold Hid alarmOk; rw [Hl.out, Bool.and_right_comm]
  go_enter Try.func23, Try.ntmps23
  go_wp2_with (first | (go_at_call 55; refine (i_isDelayed _ _ _ xs _ _ _ h hn).mono ?_; rintro e w' ⟨rfl, m', rfl⟩) | (go_at_call 62; refine (i_IsFinite _ _).mono ?_; rintro e w' ⟨rfl, m2, rfl⟩))
  · rename_i h0
    go_ret2
    have e : alarmOk xs bar d = false := by rw [Hok.out]; rcases h0 with h0 | h0 <;> simp [h0]
    exact ⟨by rw [alarmAtR, e]; rfl, below_drewN (Below.refl _ _) _⟩
  · rename_i h0 h1
    go_ret2
    have e : alarmOk xs bar d = false := by rw [Hok.out]; simp at h1; simp [h1]
    exact ⟨by rw [alarmAtR, e]; rfl, below_drewN (Below.refl _ _) _⟩
  · have h0 : isSig xs = true ∧ inB d 0 ((n : Int) - 1) = true := by assumption
    have h1 : (!fin .f32 bar) = false := by assumption
    have e : Hid (alarmOk xs bar d = true) := hide (by rw [Hok.out]; simp at h1; simp [h0.1, h0.2, h1])
    have hd := inB_iff.1 h0.2
    have h96 : n ≤ 96 := by rw [← Hl.out]; exact (isSig_len h0.1).2
    obtain ⟨q, rfl⟩ := Int.eq_ofNat_of_zero_le hd.1
    clear h1
    refine (i_alarms _ _ _ xs _ _ _ _ (h.drewN _) hB h96).mono ?_
    rintro e w1 ⟨v, rfl, hown, hb⟩
    have hbel : Below w.heap.size w w1 := (below_drewN (Below.refl _ _) _).trans hb
    have HR : Hid (alarmAtR xs bar (q : Int) = firstOf (alarmsL xs bar q)) := hide (by rw [alarmAtR, if_pos e.out]; rfl)
    rcases hv : alarmsL xs bar q with _ | ⟨i, r⟩
    · rw [hv] at hown HR
      obtain ⟨A', c', rfl⟩ : ∃ A' c', v = .slice A' 0 c' := own_shape hown
      clear hown hv
      go_wp2
      go_ret2
      exact ⟨by rw [HR.out, e.out]; rfl, hbel⟩
    · rw [hv] at hown HR
      obtain ⟨g, c', rfl, hc⟩ := own_head hown
      clear hown hv
      go_wp2
      go_ret2
      exact ⟨by rw [HR.out, e.out]; rfl, hbel⟩
end Go.Proofs.Ytkjiefpnfkampaa
