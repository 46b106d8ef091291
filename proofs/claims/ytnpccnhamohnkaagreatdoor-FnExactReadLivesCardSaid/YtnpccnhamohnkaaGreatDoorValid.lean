/-
  Contracts of 'valid' for lives, laws, chains, plans: the program's.
-/
import Derived.Test.YtnpccnhamohnkaaGreatDoorSameD
import Derived.BigGuardPart
namespace Go.Proofs.YtnpccnhamohnkaaGreatDoor
open Go.RowKit Fl Mem
set_option linter.unusedVariables false
set_option maxRecDepth 100000

def geF (x c : Nat) : Bool := FloatKind.f32.format.order x c == some .gt || FloatKind.f32.format.order x c == some .eq
def leF (x c : Nat) : Bool := FloatKind.f32.format.order x c == some .lt || FloatKind.f32.format.order x c == some .eq
def zeroF (x : Nat) : Bool := FloatKind.f32.format.order x 0 == some .eq
def leastF (x : Nat) : Bool := fin .f32 x && geF x 0
def livesOk (xs : List (Nat × Bool)) : Bool := decide (1 ≤ xs.length) && (decide (xs.length ≤ 48) && xs.all fun p => pos p.1)
def lawOk (kd : Int) (sh sc : Nat) : Bool := inB kd 0 3 && (geF sh 981668463 && (leF sh 1148846080 && (geF sc 981668463 && leF sc 1148846080)))
def planOk (sz ac : Int) : Bool := inB sz 1 40 && inB ac 0 sz
/-- Are the numbers of a chain from a state to itself nought. -/
def diagOk (rs : List Nat) (s : Nat) : Bool := (List.range s).all fun j => zeroF (rs.getD (j * s + j) 0)
def chainOk (st : Int) (rs : List Nat) : Bool := inB st 1 8 && (decide ((rs.length : Int) = st * st) && (rs.all leastF && diagOk rs st.toNat))

set_option maxHeartbeats 1000000 in
theorem i_ValidPlan {a b : Int} {w : World} : Calls Tryz.prog 63 #[.agg #[.int .i64 a, .int .i64 b]] w fun e w' => e = .returned (.bool (planOk a b)) ∧ Below w.heap.size w w' := by
  cases h1 : inB a 1 40 with
  | false =>
    go_enter Tryz.func63, Tryz.ntmps63
    go_wp2_with (go_at_call 84; refine (i_within _ _ _ _).mono ?_; rintro e w' ⟨rfl, rfl⟩)
    go_ret
    exact ⟨ret_bool (by unfold planOk; rw [h1]; rfl), (by repeat (first | exact Below.refl _ _ | exact below_drewN (by assumption) _ | refine below_drewN ?_ _ | refine Below.alloc ?_ (by first | (simp; done) | (simp; omega)) _ | assumption))⟩
  | true =>
    go_enter Tryz.func63, Tryz.ntmps63
    go_wp2_with (go_at_call 84; refine (i_within _ _ _ _).mono ?_; rintro e w' ⟨rfl, rfl⟩)
    go_ret
    exact ⟨ret_bool (by unfold planOk; rw [h1]; rfl), (by repeat (first | exact Below.refl _ _ | exact below_drewN (by assumption) _ | refine below_drewN ?_ _ | refine Below.alloc ?_ (by first | (simp; done) | (simp; omega)) _ | assumption))⟩
set_option maxHeartbeats 2000000 in
theorem i_ValidLaw {kd : Int} {sh sc : Nat} {w : World} : Calls Tryz.prog 61 #[.agg #[.int .i64 kd, .float .f32 sh, .float .f32 sc]] w fun e w' => e = .returned (.bool (lawOk kd sh sc)) ∧ Below w.heap.size w w' := by
  go_enter Tryz.func61, Tryz.ntmps61
  go_wp2_with (go_at_call 84; refine (i_within _ _ _ _).mono ?_; rintro e w' ⟨rfl, rfl⟩)
  all_goals
    go_ret
    exact ⟨ret_bool (by unfold lawOk geF leF; rw [Bool.eq_iff_iff]; simp [*]), (by repeat (first | exact Below.refl _ _ | exact below_drewN (by assumption) _ | refine below_drewN ?_ _ | refine Below.alloc ?_ (by first | (simp; done) | (simp; omega)) _ | assumption))⟩

set_option maxHeartbeats 1000000 in
theorem i_AreLives_1 {a : Nat} {b : Bool} {w : World} : Calls Tryz.prog 121 #[.agg #[.float .f32 a, .bool b]] w fun e w' => e = .returned (.bool (!pos a)) ∧ Below w.heap.size w w' := by
  go_enter Tryz.func121, Tryz.ntmps121
  go_wp2_with (go_at_call 122; refine (i_areMore1 _ _ _ _ (by simp)).mono ?_; rintro e w' ⟨rfl, m, rfl⟩)
  go_ret
  exact ⟨rfl, (by repeat (first | exact Below.refl _ _ | exact below_drewN (by assumption) _ | refine below_drewN ?_ _ | refine Below.alloc ?_ (by first | (simp; done) | (simp; omega)) _ | assumption))⟩

set_option maxHeartbeats 1000000 in
theorem indexFunc_lives {A : Option Addr} {n c B : Nat} {xs : List (Nat × Bool)} {w : World} (h : Reads w B 2 A n (ll xs)) (hB : B ≤ w.heap.size) (hn : n ≤ 1099511627776) :
    Calls Tryz.prog 179 #[.slice A n c, .func (.func 121) #[] #[]] w fun e w' => e = .returned (.int .i64 (ixf (fun p : Nat × Bool => !pos p.1) xs)) ∧ Below w.heap.size w w' := by
  have Hlen := hide (lives_len h)
  go_enter Tryz.func179, Tryz.ntmps179
  go_wp2
  go_loopw [5, 8] (fun _ i wr => ∃ k : Nat, k ≤ n ∧ i = .int .i64 k ∧ Below w.heap.size w wr ∧ Hid ((xs.take k).all (fun y => !!pos y.1) = true)) (fun _ i _ => n - (intOf i).toNat)
  case atStart => exact ⟨0, Nat.zero_le _, rfl, Below.refl _ _, rfl⟩
  case round =>
    obtain ⟨k, hk, rfl, hbel, ha⟩ := hrel
    have hsz := hbel.size
    by_cases hlt : k < n
    · obtain ⟨ad, p, rfl, hab, hx, hc, hc2⟩ := reads_ll (h.below (hbel.mono hB)) hlt
      have hc2b : wr.cell? ⟨(ad.add (k * 2)).block, (ad.add (k * 2)).off + 1, none⟩ = some (.bool p.2) := hc2
      have Hx := hide hx
      clear hx
      cases hp : pos p.1 with
      | false =>
        go_wp2_with (go_at_call 121; refine i_AreLives_1.mono ?_; rintro e w1 ⟨rfl, hb⟩)
        go_ret
        exact ⟨ret_int (ixf_at Hx.out ha.out (by rw [hp]; rfl)).symm, hbel.trans (hb.mono hsz)⟩
      | true =>
        go_wp2_with (go_at_call 121; refine i_AreLives_1.mono ?_; rintro e w1 ⟨rfl, hb⟩)
        have hbel1 : Below w.heap.size w w1 := hbel.trans (hb.mono hsz)
        go_roundw
        case rel => exact ⟨k + 1, by omega, by go_num, hbel1, hide (by rw [take_eq Hx.out, List.all_append, ha.out]; simp [hp])⟩
        case measure => simp [intOf]; omega
    · go_wp2
      go_ret
      refine ⟨ret_int (ixf_none ?_).symm, hbel⟩
      rw [← ha.out, List.take_of_length_le (by rw [Hlen.out]; omega)]
theorem containsFunc_lives {A : Option Addr} {n c B : Nat} {xs : List (Nat × Bool)} {w : World} (h : Reads w B 2 A n (ll xs)) (hB : B ≤ w.heap.size) (hn : n ≤ 1099511627776) :
    Calls Tryz.prog 120 #[.slice A n c, .func (.func 121) #[] #[]] w fun e w' => e = .returned (.bool (xs.any (fun p : Nat × Bool => !pos p.1))) ∧ Below w.heap.size w w' := by
  go_enter Tryz.func120, Tryz.ntmps120
  go_wp2_with (go_at_call 179; refine (indexFunc_lives h hB hn).mono ?_; rintro e w1 ⟨rfl, hb⟩)
  go_ret
  refine ⟨ret_bool ?_, hb⟩
  rw [← ixf_ge]
set_option maxHeartbeats 1000000 in
theorem i_AreLives {A : Option Addr} {n c B : Nat} {xs : List (Nat × Bool)} {w : World} (h : Reads w B 2 A n (ll xs)) (hB : B ≤ w.heap.size) (hn : n ≤ 1099511627776) :
    Calls Tryz.prog 57 #[.slice A n c] w fun e w' => e = .returned (.bool (livesOk xs)) ∧ Below w.heap.size w w' := by
  have Hl := hide (lives_len h)
  by_cases h1 : 1 ≤ n
  · by_cases h2 : n ≤ 48
    · have Hs : Hid (livesOk xs = !(xs.any (fun p : Nat × Bool => !pos p.1))) := hide (by unfold livesOk; rw [Hl.out, decide_eq_true h1, decide_eq_true h2, List.all_eq_not_any_not]; rfl)
      have b1 : (1 : Int) ≤ (n : Int) := by omega
      have b2 : (n : Int) ≤ 48 := by omega
      clear h1 h2
      go_enter Tryz.func57, Tryz.ntmps57
      go_wp2_with (go_at_call 120; refine (containsFunc_lives h hB hn).mono ?_; rintro e w1 ⟨rfl, hb⟩)
      go_ret
      exact ⟨ret_bool Hs.out.symm, hb⟩
    · have Hs : Hid (livesOk xs = false) := hide (by unfold livesOk; rw [Hl.out, decide_eq_false h2]; simp)
      have b1 : (1 : Int) ≤ (n : Int) := by omega
      have b2 : ¬ (n : Int) ≤ 48 := by omega
      clear h1 h2
      go_enter Tryz.func57, Tryz.ntmps57
      go_wp2
      go_ret
      exact ⟨ret_bool Hs.out.symm, Below.refl _ _⟩
  · have Hs : Hid (livesOk xs = false) := hide (by unfold livesOk; rw [Hl.out, decide_eq_false h1]; rfl)
    have b1 : ¬ (1 : Int) ≤ (n : Int) := by omega
    clear h1
    go_enter Tryz.func57, Tryz.ntmps57
    go_wp2
    go_ret
    exact ⟨ret_bool Hs.out.symm, Below.refl _ _⟩

theorem areNotLess_1 (x : Nat) (w : World) : Calls Tryz.prog 168 #[.float .f32 x] w fun e w' => e = .returned (.bool (!leastF x)) ∧ ∃ n, w' = w.drewN n := by
  have hp : Hid (leastF x = (fin .f32 x && (FloatKind.f32.format.order x 0 == some .gt || FloatKind.f32.format.order x 0 == some .eq))) := hide rfl
  cases hf : fin .f32 x
  all_goals
    go_enter Tryz.func168, Tryz.ntmps168
    go_wp2_with (go_at_call 136; refine (i_IsFinite _ _).mono ?_; rintro e w' ⟨rfl, m', rfl⟩)
    go_ret
    exact ⟨ret_bool (by rw [hp.out, hf]; simp), _, rfl⟩

set_option maxHeartbeats 400000 in
theorem indexFunc_areNotLess (A : Option Addr) (n c : Nat) (xs : List Nat) (B : Nat) (w : World) (h : Reads w B 1 A n (fl .f32 xs)) (hn : n ≤ maxLen) :
    Calls Tryz.prog 209 #[.slice A n c, .func (.func 168) #[] #[]] w fun e w' => e = .returned (.int .i64 (ixf (fun x => !leastF x) xs)) ∧ ∃ n, w' = w.drewN n := by
  unfold maxLen at hn
  have Hlen := hide h.map_len
  go_enter Tryz.func209, Tryz.ntmps209
  go_wp2
  go_loopw [5, 8] (fun _ i wr => ∃ k m : Nat, k ≤ n ∧ i = .int .i64 k ∧ wr = w.drewN m ∧ Hid ((xs.take k).all (fun y => !!leastF y) = true)) (fun _ i _ => n - (intOf i).toNat)
  case atStart => exact ⟨0, 0, Nat.zero_le _, rfl, rfl, rfl⟩
  case round =>
    obtain ⟨k, m, hk, rfl, rfl, ha⟩ := hrel
    by_cases hlt : k < n
    · obtain ⟨ad, x, rfl, _, hx, hc⟩ := h.map_at hlt
      have Hx := hide hx
      clear hx
      go_wp2_with (go_at_call 168; refine (areNotLess_1 _ _).mono ?_; rintro e w' ⟨rfl, m', rfl⟩)
      · rename_i h0
        go_ret
        exact ⟨ret_int (ixf_at Hx.out ha.out h0).symm, _, rfl⟩
      · rename_i h0
        go_roundw
        case rel => exact ⟨k + 1, _, by omega, by go_num, rfl, hide (by rw [take_eq Hx.out, List.all_append, ha.out]; simp at h0; simp [h0])⟩
        case measure => simp [intOf]; omega
    · go_wp2
      go_ret
      refine ⟨ret_int (ixf_none ?_).symm, _, rfl⟩
      rw [← ha.out, List.take_of_length_le (by rw [Hlen.out]; omega)]
theorem containsFunc_areNotLess (A : Option Addr) (n c : Nat) (xs : List Nat) (B : Nat) (w : World) (h : Reads w B 1 A n (fl .f32 xs)) (hn : n ≤ maxLen) :
    Calls Tryz.prog 167 #[.slice A n c, .func (.func 168) #[] #[]] w fun e w' => e = .returned (.bool (xs.any (fun x => !leastF x))) ∧ ∃ n, w' = w.drewN n := by
  go_enter Tryz.func167, Tryz.ntmps167
  go_wp2_with (go_at_call 209; refine (indexFunc_areNotLess _ _ _ xs _ _ h hn).mono ?_; rintro e w' ⟨rfl, m', rfl⟩)
  go_ret
  refine ⟨ret_bool ?_, _, rfl⟩
  rw [← ixf_ge]
theorem i_areNotLess (A : Option Addr) (n c : Nat) (xs : List Nat) (B : Nat) (w : World) (h : Reads w B 1 A n (fl .f32 xs)) (hn : n ≤ maxLen) :
    Calls Tryz.prog 105 #[.slice A n c] w fun e w' => e = .returned (.bool (xs.all leastF)) ∧ ∃ n, w' = w.drewN n := by
  go_enter Tryz.func105, Tryz.ntmps105
  go_wp2_with (go_at_call 167; refine (containsFunc_areNotLess _ _ _ xs _ _ h hn).mono ?_; rintro e w' ⟨rfl, m', rfl⟩)
  go_ret
  refine ⟨ret_bool ?_, _, rfl⟩
  rw [List.all_eq_not_any_not]

set_option maxHeartbeats 1000000 in
theorem i_rate {st : Int} {A : Option Addr} {n c B k j m : Nat} {xs : List Nat} {w : World} (h : Reads w B 1 A n (fl .f32 xs)) (hB : B ≤ w.heap.size) (hn : n ≤ 1048576) (hm : (k : Int) * st = (m : Int)) (hj : m + j < n) :
    Calls Tryz.prog 78 #[.agg #[.int .i64 st, .slice A n c], .int .i64 (k : Int), .int .i64 (j : Int)] w fun e w' => e = .returned (.float .f32 (xs.getD (m + j) 0)) ∧ Below w.heap.size w w' := by
  obtain ⟨ad, x, rfl, hab, hx, hc⟩ := h.map_at hj
  have hc' : ∀ o, (w.alloc o).cell? (ad.add (m + j)) = some (.float .f32 x) := fun o => by rw [← hc]; exact World.cell?_alloc_lt _ _ _ (by rw [block_of_add]; omega)
  have hg : xs.getD (m + j) 0 = x := by rw [List.getD_eq_getElem?_getD, hx]; rfl
  have Hg := hide hg
  have i1 : (m : Int) + (j : Int) < (n : Int) := by omega
  clear hx hg
  go_enter Tryz.func78, Tryz.ntmps78
  go_wp2
  go_ret
  exact ⟨by rw [Hg.out]; rfl, (by repeat (first | exact Below.refl _ _ | exact below_drewN (by assumption) _ | refine below_drewN ?_ _ | refine Below.alloc ?_ (by first | (simp; done) | (simp; omega)) _ | assumption))⟩

theorem diag_lt {k s : Nat} (h : k < s) : k * s + k < s * s := by
  have := Nat.mul_le_mul_right s (show k + 1 ≤ s from h)
  rw [Nat.add_mul, Nat.one_mul] at this
  omega
theorem diagOk_iff {rs : List Nat} {s : Nat} : diagOk rs s = true ↔ ∀ j, j < s → zeroF (rs.getD (j * s + j) 0) = true := by
  unfold diagOk
  simp [List.all_eq_true, List.mem_range]
theorem chainOk_len {st : Int} {rs : List Nat} (h : ¬ (rs.length : Int) = st * st) : chainOk st rs = false := by
  unfold chainOk
  rw [decide_eq_false h]; simp
set_option maxHeartbeats 2000000 in
theorem i_ValidChain {st : Int} {A : Option Addr} {n c B : Nat} {xs : List Nat} {w : World} (h : Reads w B 1 A n (fl .f32 xs)) (hB : B ≤ w.heap.size) (hn : n ≤ 1048576) :
    Calls Tryz.prog 49 #[.agg #[.int .i64 st, .slice A n c]] w fun e w' => e = .returned (.bool (chainOk st xs)) ∧ Below w.heap.size w w' := by
  have Hl := hide h.map_len
  cases hb : inB st 1 8 with
  | false =>
    have Hs : Hid (chainOk st xs = false) := hide (by unfold chainOk; rw [hb]; rfl)
    go_enter Tryz.func49, Tryz.ntmps49
    go_wp2_with (go_at_call 84; refine (i_within _ _ _ _).mono ?_; rintro e w' ⟨rfl, rfl⟩)
    go_ret
    exact ⟨ret_bool Hs.out.symm, (by repeat (first | exact Below.refl _ _ | exact below_drewN (by assumption) _ | refine below_drewN ?_ _ | refine Below.alloc ?_ (by first | (simp; done) | (simp; omega)) _ | assumption))⟩
  | true =>
    have hin := inB_iff.1 hb
    obtain ⟨s, rfl⟩ := Int.eq_ofNat_of_zero_le (show 0 ≤ st by omega)
    have hs1 : 1 ≤ s := by omega
    have hs2 : s ≤ 8 := by omega
    have hq64 : s * s ≤ 64 := Nat.mul_le_mul hs2 hs2
    obtain ⟨q, hq⟩ : ∃ q, s * s = q := ⟨_, rfl⟩
    have hmul : (s : Int) * (s : Int) = (q : Int) := by rw [← hq]; push_cast; rfl
    have Hq := hide hq
    rw [hq] at hq64
    clear hq hin
    have R1 := fun o => h.alloc hB o
    by_cases hlen : n = q
    · subst hlen
      have hne : ((n : Int) != (n : Int)) = false := by simp
      have Hs : Hid (chainOk (s : Int) xs = (xs.all leastF && diagOk xs s)) := hide (by unfold chainOk; rw [hb, Hl.out, decide_eq_true hmul.symm]; simp)
      cases hall : xs.all leastF with
      | false =>
        go_enter Tryz.func49, Tryz.ntmps49
        go_wp2_with (first | (go_at_call 84; refine (i_within _ _ _ _).mono ?_; rintro e w' ⟨rfl, rfl⟩) | (go_at_call 105; refine (i_areNotLess _ _ _ xs _ _ (R1 _) (by simp [maxLen]; omega)).mono ?_; rintro e w' ⟨rfl, m, rfl⟩))
        go_ret
        exact ⟨ret_bool (by rw [Hs.out, hall]; rfl), (by repeat (first | exact Below.refl _ _ | exact below_drewN (by assumption) _ | refine below_drewN ?_ _ | refine Below.alloc ?_ (by first | (simp; done) | (simp; omega)) _ | assumption))⟩
      | true =>
        have Hall := hide hall
        go_enter Tryz.func49, Tryz.ntmps49
        go_wp2_with (first | (go_at_call 84; refine (i_within _ _ _ _).mono ?_; rintro e w' ⟨rfl, rfl⟩) | (go_at_call 105; refine (i_areNotLess _ _ _ xs _ _ (R1 _) (by simp [maxLen]; omega)).mono ?_; rintro e w' ⟨rfl, m, rfl⟩))
        go_loopw [27] (fun i wr => ∃ k : Nat, k ≤ s ∧ i = .int .i64 k ∧ wr.cell? ⟨w.heap.size, 0, none⟩ = some (.int .i64 s) ∧ wr.cell? ⟨w.heap.size, 1, none⟩ = some (.slice A n c) ∧ w.heap.size < wr.heap.size ∧ Below w.heap.size w wr ∧ Hid (∀ j, j < k → zeroF (xs.getD (j * s + j) 0) = true)) (fun i _ => s - (intOf i).toNat)
        case atStart => exact ⟨0, Nat.zero_le _, rfl, (by first | (simp; done) | rfl), (by first | (simp; done) | rfl), (by simp), (by repeat (first | exact Below.refl _ _ | exact below_drewN (by assumption) _ | refine below_drewN ?_ _ | refine Below.alloc ?_ (by first | (simp; done) | (simp; omega)) _ | assumption)), hide (fun j hj => absurd hj (by omega))⟩
        case round =>
          obtain ⟨k, hk, rfl, hc0, hc1, hsz, hbel, ha⟩ := hrel
          by_cases hlt : k < s
          · obtain ⟨m, hm⟩ : ∃ m, k * s = m := ⟨_, rfl⟩
            have hd := diag_lt hlt
            rw [Hq.out, hm] at hd
            have Hm := hide hm
            have hmi : (k : Int) * (s : Int) = (m : Int) := by rw [← hm]; push_cast; rfl
            clear hm
            have i1 : (k : Int) < (s : Int) := by omega
            have hr := h.below (hbel.mono hB)
            go_wp2_with (go_at_call 78; refine (i_rate (k := k) (j := k) hr (by omega) hn hmi hd).mono ?_; rintro e w1 ⟨rfl, hb1⟩)
            · rename_i h0
              go_ret
              refine ⟨ret_bool ?_, hbel.trans (hb1.mono (by omega))⟩
              rw [Hs.out]
              cases hdg : diagOk xs s with
              | false => simp
              | true =>
                have := diagOk_iff.1 hdg k hlt
                rw [Hm.out] at this; simp at h0; simp [zeroF, h0] at this
            · rename_i h0
              go_roundw
              case rel => exact ⟨k + 1, by omega, by go_num, (hb1.cell hsz).trans hc0, (hb1.cell hsz).trans hc1, Nat.lt_of_lt_of_le hsz hb1.size, hbel.trans (hb1.mono (by omega)), hide (fun j hj => by
                rcases Nat.lt_or_ge j k with hjk | hjk
                · exact ha.out j hjk
                · obtain rfl : j = k := by omega
                  rw [Hm.out]; simp at h0; simp [zeroF, h0])⟩
              case measure => simp [intOf]; omega
          · go_wp2
            go_ret
            obtain rfl : k = s := by omega
            exact ⟨ret_bool (by rw [Hs.out, Hall.out, diagOk_iff.2 ha.out]; rfl), hbel⟩
    · have hne : ((n : Int) != (q : Int)) = true := by simp; omega
      have Hs : Hid (chainOk (s : Int) xs = false) := hide (chainOk_len (by rw [Hl.out, hmul]; omega))
      clear hlen
      go_enter Tryz.func49, Tryz.ntmps49
      go_wp2_with (go_at_call 84; refine (i_within _ _ _ _).mono ?_; rintro e w' ⟨rfl, rfl⟩)
      go_ret
      exact ⟨ret_bool Hs.out.symm, (by repeat (first | exact Below.refl _ _ | exact below_drewN (by assumption) _ | refine below_drewN ?_ _ | refine Below.alloc ?_ (by first | (simp; done) | (simp; omega)) _ | assumption))⟩
end Go.Proofs.YtnpccnhamohnkaaGreatDoor
