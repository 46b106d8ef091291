/-
  Contracts of the alarms, continued: the reference's, and the counts.
-/
import Derived.Test.YtkjiefpnfkampaaAlarm
namespace Go.Proofs.Ytkjiefpnfkampaa
open Go.RowKit Fl Mem
set_option linter.unusedVariables false
set_option maxRecDepth 100000

set_option maxHeartbeats 400000 in
theorem s_l07Alarm (A : Option Addr) (n c : Nat) (xs : List Nat) (bar d a : Nat) (B : Nat) (w : World) (h : Reads w B 1 A n (fl .f32 xs)) (hn : n ≤ 96) (ha : a < n) (hd : d < n) :
    Calls Try.prog 60 #[.slice A n c, .float .f32 bar, .int .i64 (d : Int), .int .i64 (a : Int)] w fun e w' => e = .returned (.bool (alarmB xs bar d a)) ∧ w = w' := by
  have Hl := hide h.map_len
  by_cases hda : d ≤ a
  · go_enter Try.func60, Try.ntmps60
    go_wp2
    go_loop [9] (fun i => ∃ j : Nat, j ≤ d + 1 ∧ i = .int .i64 ((a - d + j : Nat) : Int) ∧ Hid ((List.range j).all (fun k => gtB (xs.getD (a - d + k) 0) bar) = true)) (fun i => a + 1 - (intOf i).toNat)
    case atStart => exact ⟨0, by omega, by go_num, rfl⟩
    case round =>
      obtain ⟨j, hj, rfl, hall⟩ := hrel
      by_cases hlt : j ≤ d
      · obtain ⟨ad, x, rfl, _, hx, hc⟩ := h.map_at (k := a - d + j) (by omega)
        have Hx : Hid (gtB (xs.getD (a - d + j) 0) bar = gtB x bar) := hide (by rw [List.getD_eq_getElem?_getD, hx]; rfl)
        clear hx
        cases hg : gtB x bar with
        | false =>
          have hg' : (FloatKind.f32.format.order x bar == some Ordering.gt) = false := hg
          have HE : Hid (alarmB xs bar d a = false) := by
            refine hide ?_
            rw [Bool.eq_false_iff]
            intro hc
            unfold alarmB at hc
            simp only [Bool.and_eq_true, List.all_eq_true, List.mem_range] at hc
            have := hc.2 j (by omega)
            rw [Hx.out, hg] at this
            cases this
          clear hg
          go_wp2
          go_ret
          exact ⟨ret_bool HE.out.symm, rfl⟩
        | true =>
          have hg' : (FloatKind.f32.format.order x bar == some Ordering.gt) = true := hg
          have HE : Hid ((List.range (j + 1)).all (fun k => gtB (xs.getD (a - d + k) 0) bar) = true) := hide (by rw [List.range_succ, List.all_append, hall.out, List.all_cons, List.all_nil, Hx.out, hg]; rfl)
          clear hg
          go_wp2
          go_round
          case rel => exact ⟨j + 1, by omega, by go_num, HE⟩
          case measure => simp [intOf]; omega
      · go_wp2
        go_ret
        obtain rfl : j = d + 1 := by omega
        exact ⟨ret_bool (by unfold alarmB; rw [hall.out]; simp [hda]), rfl⟩
  · go_enter Try.func60, Try.ntmps60
    go_wp2
    go_ret
    exact ⟨ret_bool (by unfold alarmB; simp [hda]), rfl⟩

set_option maxHeartbeats 400000 in
theorem s_AlarmAt (A : Option Addr) (n c : Nat) (xs : List Nat) (bar : Nat) (d : Int) (B : Nat) (w : World) (h : Reads w B 1 A n (fl .f32 xs)) (hB : B ≤ w.heap.size) (hn : n ≤ maxLen) :
    Calls Try.prog 22 #[.slice A n c, .float .f32 bar, .int .i64 d] w fun e w' => e = .returned (.tuple #[.int .i64 (alarmAtR xs bar d), .bool (alarmOk xs bar d)]) ∧ Below w.heap.size w w' := by
  have Hl := hide h.map_len
  have hn' := hn
  unfold maxLen at hn
  have Hok : Hid (alarmOk xs bar d = (isSig xs && fin .f32 bar && inB d 0 ((n : Int) - 1))) := by unfold Hid alarmOk; rw [Hl.out]
  go_enter Try.func22, Try.ntmps22
  go_wp2_with (first | (go_at_call 53; refine (s_l07Signal _ _ _ xs _ _ h hn').mono ?_; rintro e w' ⟨rfl, m', rfl⟩) | (go_at_call 61; refine (s_l01Finite _ _).mono ?_; rintro e w' ⟨rfl, m2, rfl⟩) | (go_at_call 59; refine (s_l00In _ _ _ _).mono ?_; rintro e w' ⟨rfl, rfl⟩))
  · have h0 : isSig xs = false := by assumption
    have e : alarmOk xs bar d = false := by rw [Hok.out, h0]; rfl
    go_ret2
    exact ⟨by rw [alarmAtR, e]; rfl, below_drewN (Below.refl _ _) _⟩
  · have h0 : fin .f32 bar = false := by assumption
    have e : alarmOk xs bar d = false := by rw [Hok.out, h0]; simp
    go_ret2
    exact ⟨by rw [alarmAtR, e]; rfl, below_drewN (Below.refl _ _) _⟩
  · have h0 : (!inB d 0 ((n : Int) - 1)) = true := by assumption
    have e : alarmOk xs bar d = false := by rw [Hok.out]; simp at h0; simp [h0]
    go_ret2
    exact ⟨by rw [alarmAtR, e]; rfl, below_drewN (Below.refl _ _) _⟩
  · have h0 : isSig xs = true := by assumption
    have h1 : fin .f32 bar = true := by assumption
    have h2 : (!inB d 0 ((n : Int) - 1)) = false := by assumption
    have e : Hid (alarmOk xs bar d = true) := hide (by rw [Hok.out, h0, h1]; simp at h2; simp [h2])
    have hd := inB_iff.1 (show inB d 0 ((n : Int) - 1) = true by simpa using h2)
    have h96 : n ≤ 96 := by rw [← Hl.out]; exact (isSig_len h0).2
    obtain ⟨q, rfl⟩ := Int.eq_ofNat_of_zero_le hd.1
    have hq : q < n := by omega
    have HR : Hid (alarmAtR xs bar (q : Int) = firstOf (alarmsL xs bar q)) := hide (by rw [alarmAtR, if_pos e.out]; rfl)
    simp only [h2]
    clear h0 h1 h2 hd
    go_loopw [9] (fun i wr => ∃ k m : Nat, k ≤ n ∧ i = .int .i64 k ∧ wr = w.drewN m ∧ Hid (alarmsTo xs bar q k = [])) (fun i _ => n - (intOf i).toNat)
    case atStart => exact ⟨0, _, Nat.zero_le _, rfl, rfl, rfl⟩
    case round =>
      obtain ⟨k, m, hk, rfl, rfl, hnil⟩ := hrel
      by_cases hlt : k < n
      · cases hal : alarmB xs bar q k with
        | true =>
          have Hal := hide hal
          go_wp2_with (go_at_call 60; refine (s_l07Alarm _ _ _ xs _ _ _ _ _ (h.drewN _) h96 hlt hq).mono ?_; rintro e w' ⟨rfl, rfl⟩)
          go_ret2
          exact ⟨by rw [HR.out, e.out, firstOf_at (by rw [Hl.out]; exact hlt) hnil.out Hal.out]; rfl, below_drewN (Below.refl _ _) _⟩
        | false =>
          have HN : Hid (alarmsTo xs bar q (k + 1) = []) := hide (by rw [alarmsTo_succ, hnil.out, hal]; rfl)
          go_wp2_with (go_at_call 60; refine (s_l07Alarm _ _ _ xs _ _ _ _ _ (h.drewN _) h96 hlt hq).mono ?_; rintro e w' ⟨rfl, rfl⟩)
          go_roundw
          case rel => exact ⟨k + 1, m, by omega, by go_num, rfl, HN⟩
          case measure => simp [intOf]; omega
      · go_wp2
        go_ret2
        obtain rfl : k = n := by omega
        have e0 : alarmsL xs bar q = [] := by rw [← alarmsTo_all, Hl.out]; exact hnil.out
        exact ⟨by rw [HR.out, e.out, e0]; rfl, below_drewN (Below.refl _ _) _⟩

/-- What AlarmCounts returns. -/
def countsOk (xs bars : List Nat) (d k : Int) : Bool := isSig xs && inB d 0 ((xs.length : Int) - 1) && decide (1 ≤ bars.length) && decide (bars.length ≤ 12) && bars.all (fin .f32) && inB k 1 8
def countsL (xs bars : List Nat) (d : Int) : List Int := bars.map fun b => ((alarmsL xs b d.toNat).length : Int)
def countsR (xs bars : List Nat) (d k : Int) : List Int := if countsOk xs bars d k = true then countsL xs bars d else []
theorem countsR_no {xs bars : List Nat} {d k : Int} (h : countsOk xs bars d k = false) : countsR xs bars d k = [] := by unfold countsR; rw [h]; rfl

theorem countsL_take {xs bars : List Nat} {q j x : Nat} (hx : bars[j]? = some x) : (countsL xs bars (q : Int)).take (j + 1) = (countsL xs bars (q : Int)).take j ++ [((alarmsL xs x q).length : Int)] :=
  take_eq (by unfold countsL; rw [List.getElem?_map, hx]; rfl)

set_option maxHeartbeats 1000000 in
theorem i_AlarmCounts (A A' : Option Addr) (n n' c c' : Nat) (xs bars : List Nat) (d k : Int) (B : Nat) (w : World) (h : Reads w B 1 A n (fl .f32 xs)) (h' : Reads w B 1 A' n' (fl .f32 bars)) (hB : B ≤ w.heap.size) (hn : n ≤ maxLen) (hn' : n' ≤ maxLen) :
    Calls Try.prog 19 #[.slice A n c, .slice A' n' c', .int .i64 d, .int .i64 k] w fun e w' => ∃ v, e = .returned (.tuple #[v, .bool (countsOk xs bars d k)]) ∧
      w'.ownsRow w.heap.size 2 1 v (countsR xs bars d k).length (il (countsR xs bars d k)) ∧ Below w.heap.size w w' := by
  have Hl := hide h.map_len
  have Hl' := hide h'.map_len
  have Hok : Hid (countsOk xs bars d k = (isSig xs && inB d 0 ((n : Int) - 1) && decide (1 ≤ n') && decide (n' ≤ 12) && bars.all (fin .f32) && inB k 1 8)) := by unfold Hid countsOk; rw [Hl.out, Hl'.out]
  have hm := hn'
  unfold maxLen at hm
  go_enter Try.func19, Try.ntmps19
  go_wp2_with (first | (go_at_call 55; refine (i_isDelayed _ _ _ xs _ _ _ h hn).mono ?_; rintro e w' ⟨rfl, m', rfl⟩) | (go_at_call 54; refine (i_areFinite _ _ _ bars _ _ (h'.drewN _) hn').mono ?_; rintro e w' ⟨rfl, m2, rfl⟩) | (go_at_call 56; refine (i_areWorkers _ _).mono ?_; rintro e w' ⟨rfl, rfl⟩))
  · have h0 : isSig xs = false ∨ inB d 0 ((n : Int) - 1) = false := by assumption
    have e : countsOk xs bars d k = false := by rw [Hok.out]; rcases h0 with h0 | h0 <;> simp [h0]
    go_ret2
    exact ⟨_, by rw [e]; rfl, by rw [countsR_no e]; exact own_nil _ _ _ _, below_drewN (Below.refl _ _) _⟩
  · have h0 : (n' : Int) < 1 := by assumption
    have e : countsOk xs bars d k = false := by rw [Hok.out, decide_eq_false (show ¬ 1 ≤ n' by omega)]; simp
    go_ret2
    exact ⟨_, by rw [e]; rfl, by rw [countsR_no e]; exact own_nil _ _ _ _, below_drewN (Below.refl _ _) _⟩
  · have h0 : 12 < (n' : Int) := by assumption
    have e : countsOk xs bars d k = false := by rw [Hok.out, decide_eq_false (show ¬ n' ≤ 12 by omega)]; simp
    go_ret2
    exact ⟨_, by rw [e]; rfl, by rw [countsR_no e]; exact own_nil _ _ _ _, below_drewN (Below.refl _ _) _⟩
  · have h0 : bars.all (fin .f32) = false := by assumption
    have e : countsOk xs bars d k = false := by rw [Hok.out, h0]; simp
    go_ret2
    exact ⟨_, by rw [e]; rfl, by rw [countsR_no e]; exact own_nil _ _ _ _, below_drewN (Below.refl _ _) _⟩
  · have h0 : (!inB k 1 8) = true := by assumption
    have e : countsOk xs bars d k = false := by rw [Hok.out]; simp at h0; simp [h0]
    go_ret2
    exact ⟨_, by rw [e]; rfl, by rw [countsR_no e]; exact own_nil _ _ _ _, below_drewN (Below.refl _ _) _⟩
  · have h0 : isSig xs = true ∧ inB d 0 ((n : Int) - 1) = true := by assumption
    have h1 : 1 ≤ (n' : Int) := by assumption
    have h2 : (n' : Int) ≤ 12 := by assumption
    have h3 : bars.all (fin .f32) = true := by assumption
    have h4 : (!inB k 1 8) = false := by assumption
    have e : Hid (countsOk xs bars d k = true) := hide (by rw [Hok.out, h0.1, h0.2, h3, decide_eq_true (show 1 ≤ n' by omega), decide_eq_true (show n' ≤ 12 by omega)]; simp at h4; simp [h4])
    have hd := inB_iff.1 h0.2
    have h96 : n ≤ 96 := by rw [← Hl.out]; exact (isSig_len h0.1).2
    obtain ⟨q, rfl⟩ := Int.eq_ofNat_of_zero_le hd.1
    have HR : Hid (countsR xs bars (q : Int) k = countsL xs bars (q : Int)) := hide (by rw [countsR, if_pos e.out])
    simp only [h4]
    clear h0 h3 h4 hd
    have hb0 : ∀ m : Nat, Below w.heap.size w ((w.drewN m).alloc (.cells #[] 2)) := fun m => (below_drewN (Below.refl _ _) m).alloc (Nat.le_refl _) _
    go_loopw [10, 40] (fun v i wr => ∃ j : Nat, j ≤ n' ∧ i = .int .i64 j ∧ wr.ownsRow w.heap.size 2 1 v j (il ((countsL xs bars (q : Int)).take j)) ∧ Below w.heap.size w wr) (fun _ i _ => n' - (intOf i).toNat)
    case atStart => exact ⟨0, Nat.zero_le _, rfl, own_empty _ _ _, hb0 _⟩
    case round =>
      obtain ⟨j, hj, rfl, hown, hbel⟩ := hrel
      clear hb0
      by_cases hlt : j < n'
      · obtain ⟨ad, x, rfl, _, hx, hc⟩ := (h'.below (hbel.mono hB)).map_at hlt
        have Hx := hide hx
        have Hown := hide hown
        clear hx hown
        go_wp2_with fail
        refine (i_alarms _ _ _ xs _ _ _ _ (h.below (hbel.mono hB)) (Nat.le_trans hB hbel.size) h96).mono ?_
        rintro e w1 ⟨v1, rfl, hown1, hb1⟩
        obtain ⟨A1, c1, rfl⟩ := own_shape hown1
        have Hown1 := hide (own_below Hown.out hb1)
        have hbel1 : Below w.heap.size w w1 := hbel.trans (hb1.mono hbel.size)
        have hsz1 := hbel1.size
        clear hown1 hb1
        go_wp2_with (at_builtin; refine wpList_append1 (w0 := w1) rfl (.tmp 44) (.tmp 50) 26 rfl w.heap.size 2 (.int .i64 0) _ 8 info_i64 Try.underlying26 rfl rfl _ _ _ rfl Hown1.out rfl rfl (by omega) (by omega) hsz1 ?_)
        intro v' w' hown' hb'
        have HT : Hid (w'.ownsRow w.heap.size 2 1 v' (j + 1) (il ((countsL xs bars (q : Int)).take (j + 1)))) := by
          refine hide ?_
          rw [countsL_take Hx.out]
          simpa using hown'
        have hbel' : Below w.heap.size w w' := hbel1.trans hb'
        clear hown' hb'
        go_wp2
        go_roundw
        case rel => exact ⟨j + 1, by omega, by go_num, HT.out, hbel'⟩
        case measure => simp [intOf]; omega
      · go_wp2
        go_ret2
        obtain rfl : j = n' := by omega
        refine ⟨_, by rw [e.out]; rfl, ?_, hbel⟩
        have hle : (countsL xs bars (q : Int)).length = j := by unfold countsL; simp [Hl'.out]
        rw [HR.out, hle]
        rw [List.take_of_length_le (by omega)] at hown
        exact hown

set_option maxHeartbeats 1000000 in
theorem s_AlarmCounts (A A' : Option Addr) (n n' c c' : Nat) (xs bars : List Nat) (d k : Int) (B : Nat) (w : World) (h : Reads w B 1 A n (fl .f32 xs)) (h' : Reads w B 1 A' n' (fl .f32 bars)) (hB : B ≤ w.heap.size) (hn : n ≤ maxLen) (hn' : n' ≤ maxLen) :
    Calls Try.prog 20 #[.slice A n c, .slice A' n' c', .int .i64 d, .int .i64 k] w fun e w' => ∃ v, e = .returned (.tuple #[v, .bool (countsOk xs bars d k)]) ∧
      w'.ownsRow w.heap.size 2 1 v (countsR xs bars d k).length (il (countsR xs bars d k)) ∧ Below w.heap.size w w' := by
  have Hl := hide h.map_len
  have Hl' := hide h'.map_len
  have Hok : Hid (countsOk xs bars d k = (isSig xs && inB d 0 ((n : Int) - 1) && decide (1 ≤ n') && decide (n' ≤ 12) && bars.all (fin .f32) && inB k 1 8)) := by unfold Hid countsOk; rw [Hl.out, Hl'.out]
  have hm := hn'
  have hm1 := hn
  unfold maxLen at hm hm1
  go_enter Try.func20, Try.ntmps20
  go_wp2_with (first | (go_at_call 53; refine (s_l07Signal _ _ _ xs _ _ h hn).mono ?_; rintro e w' ⟨rfl, m', rfl⟩) | (go_at_call 58; refine (s_l02Finite _ _ _ bars _ _ (h'.drewN _) hn').mono ?_; rintro e w' ⟨rfl, m2, rfl⟩) | (go_at_call 59; refine (s_l00In _ _ _ _).mono ?_; rintro e w' ⟨rfl, rfl⟩))
  · have h0 : isSig xs = false := by assumption
    have e : countsOk xs bars d k = false := by rw [Hok.out, h0]; rfl
    go_ret2
    exact ⟨_, by rw [e]; rfl, by rw [countsR_no e]; exact own_nil _ _ _ _, below_drewN (Below.refl _ _) _⟩
  · have h0 : (n' : Int) < 1 := by assumption
    have e : countsOk xs bars d k = false := by rw [Hok.out, decide_eq_false (show ¬ 1 ≤ n' by omega)]; simp
    go_ret2
    exact ⟨_, by rw [e]; rfl, by rw [countsR_no e]; exact own_nil _ _ _ _, below_drewN (Below.refl _ _) _⟩
  · have h0 : 12 < (n' : Int) := by assumption
    have e : countsOk xs bars d k = false := by rw [Hok.out, decide_eq_false (show ¬ n' ≤ 12 by omega)]; simp
    go_ret2
    exact ⟨_, by rw [e]; rfl, by rw [countsR_no e]; exact own_nil _ _ _ _, below_drewN (Below.refl _ _) _⟩
  · have h0 : bars.all (fin .f32) = false := by assumption
    have e : countsOk xs bars d k = false := by rw [Hok.out, h0]; simp
    go_ret2
    exact ⟨_, by rw [e]; rfl, by rw [countsR_no e]; exact own_nil _ _ _ _, below_drewN (Below.refl _ _) _⟩
  · have h0 : inB d 0 ((n : Int) - 1) = false := by assumption
    have e : countsOk xs bars d k = false := by rw [Hok.out, h0]; simp
    go_ret2
    exact ⟨_, by rw [e]; rfl, by rw [countsR_no e]; exact own_nil _ _ _ _, below_drewN (Below.refl _ _) _⟩
  · have h0 : (!inB k 1 8) = true := by assumption
    have e : countsOk xs bars d k = false := by rw [Hok.out]; simp at h0; simp [h0]
    go_ret2
    exact ⟨_, by rw [e]; rfl, by rw [countsR_no e]; exact own_nil _ _ _ _, below_drewN (Below.refl _ _) _⟩
  · have h0 : isSig xs = true := by assumption
    have h00 : inB d 0 ((n : Int) - 1) = true := by assumption
    have h1 : 1 ≤ (n' : Int) := by assumption
    have h2 : (n' : Int) ≤ 12 := by assumption
    have h3 : bars.all (fin .f32) = true := by assumption
    have h4 : (!inB k 1 8) = false := by assumption
    have e : Hid (countsOk xs bars d k = true) := hide (by rw [Hok.out, h0, h00, h3, decide_eq_true (show 1 ≤ n' by omega), decide_eq_true (show n' ≤ 12 by omega)]; simp at h4; simp [h4])
    have hd := inB_iff.1 h00
    have h96 : n ≤ 96 := by rw [← Hl.out]; exact (isSig_len h0).2
    obtain ⟨q, rfl⟩ := Int.eq_ofNat_of_zero_le hd.1
    have hq : q < n := by omega
    have HR : Hid (countsR xs bars (q : Int) k = countsL xs bars (q : Int)) := hide (by rw [countsR, if_pos e.out])
    simp only [h4]
    clear h0 h00 h3 h4 hd
    have hb0 : ∀ m : Nat, Below w.heap.size w ((w.drewN m).alloc (.cells #[] 2)) := fun m => (below_drewN (Below.refl _ _) m).alloc (Nat.le_refl _) _
    go_loopw [11, 50] (fun v i wr => ∃ j : Nat, j ≤ n' ∧ i = .int .i64 j ∧ wr.ownsRow w.heap.size 2 1 v j (il ((countsL xs bars (q : Int)).take j)) ∧ Below w.heap.size w wr) (fun _ i _ => n' - (intOf i).toNat)
    case atStart => exact ⟨0, Nat.zero_le _, rfl, own_empty _ _ _, hb0 _⟩
    case round =>
      obtain ⟨j, hj, rfl, hown, hbel⟩ := hrel
      clear hb0
      by_cases hlt : j < n'
      · obtain ⟨ad, x, rfl, _, hx, hc⟩ := (h'.below (hbel.mono hB)).map_at hlt
        have Hx := hide hx
        have Hown := hide hown
        have hsz := hbel.size
        clear hx hown
        go_wp2
        obtain ⟨wo, rfl⟩ : ∃ wo : World, wo = wr := ⟨_, rfl⟩
        go_loopw [13, 14] (fun s i wq => ∃ t : Nat, t ≤ n ∧ i = .int .i64 t ∧ s = .int .i64 ((alarmsTo xs x q t).length : Int) ∧ wq = wo) (fun _ i _ => n - (intOf i).toNat)
        case atStart => exact ⟨0, Nat.zero_le _, rfl, rfl, rfl⟩
        case round =>
          obtain ⟨t, ht, rfl, rfl, rfl⟩ := hrel
          have hle := alarmsTo_le xs x q t
          by_cases hlu : t < n
          · cases hal : alarmB xs x q t with
            | true =>
              have HN : Hid ((alarmsTo xs x q (t + 1)).length = (alarmsTo xs x q t).length + 1) := hide (by rw [alarmsTo_succ, hal]; simp)
              go_wp2_with (go_at_call 60; refine (s_l07Alarm _ _ _ xs _ _ _ _ _ (h.below (hbel.mono hB)) h96 hlu hq).mono ?_; rintro e w' ⟨rfl, rfl⟩)
              go_roundw
              case rel => exact ⟨t + 1, by omega, by go_num, by rw [HN.out]; go_num, by trivial⟩
              case measure => simp [intOf]; omega
            | false =>
              have HN : Hid ((alarmsTo xs x q (t + 1)).length = (alarmsTo xs x q t).length) := hide (by rw [alarmsTo_succ, hal]; simp)
              go_wp2_with (go_at_call 60; refine (s_l07Alarm _ _ _ xs _ _ _ _ _ (h.below (hbel.mono hB)) h96 hlu hq).mono ?_; rintro e w' ⟨rfl, rfl⟩)
              go_roundw
              case rel => exact ⟨t + 1, by omega, by go_num, by rw [HN.out], by trivial⟩
              case measure => simp [intOf]; omega
          · have et : Hid (alarmsTo xs x q t = alarmsL xs x q) := hide (by rw [← alarmsTo_all, Hl.out, show t = n by omega])
            go_wp2_with (at_builtin; refine wpList_append1 rfl (.tmp 68) (.tmp 70) 26 rfl w.heap.size 2 (.int .i64 0) _ 8 info_i64 Try.underlying26 rfl rfl _ _ _ rfl Hown.out rfl rfl (by omega) (by omega) hsz ?_)
            intro v' w' hown' hb'
            have HT : Hid (w'.ownsRow w.heap.size 2 1 v' (j + 1) (il ((countsL xs bars (q : Int)).take (j + 1)))) := by
              refine hide ?_
              rw [countsL_take Hx.out]
              rw [et.out] at hown'
              simpa using hown'
            have hbel' : Below w.heap.size w w' := hbel.trans hb'
            clear hown' hb'
            go_wp2
            go_roundw
            case rel => exact ⟨j + 1, by omega, by go_num, HT.out, hbel'⟩
            case measure => simp [intOf]; omega
      · go_wp2
        go_ret2
        obtain rfl : j = n' := by omega
        refine ⟨_, by rw [e.out]; rfl, ?_, hbel⟩
        have hle : (countsL xs bars (q : Int)).length = j := by unfold countsL; simp [Hl'.out]
        rw [HR.out, hle]
        rw [List.take_of_length_le (by omega)] at hown
        exact hown
theorem countsR_le (xs bars : List Nat) (d k : Int) : (countsR xs bars d k).length ≤ 1000 := by
  unfold countsR
  split
  · rename_i h
    unfold countsOk at h
    simp only [Bool.and_eq_true, decide_eq_true_eq] at h
    unfold countsL
    simp; omega
  · simp
end Go.Proofs.Ytkjiefpnfkampaa
