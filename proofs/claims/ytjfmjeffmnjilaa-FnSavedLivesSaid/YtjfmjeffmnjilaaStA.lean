/-
  The bytes of many systems with signals: both sides.
-/
import Derived.Test.YtjfmjeffmnjilaaStS
import Derived.Test.YtjfmjeffmnjilaaSvD
namespace Go.Proofs.Ytjfmjeffmnjilaa
open Go.RowKit Fl Mem
set_option linter.unusedVariables false
set_option maxRecDepth 100000

def stB (s : Sv) : ByteArray := stored s.nm s.parts s.ps s.xs
def catS (ss : List Sv) : ByteArray := ss.foldl (fun a s => a ++ stB s) .empty
theorem catS_succ {ss : List Sv} {k : Nat} {s : Sv} (h : ss[k]? = some s) : catS (ss.take (k + 1)) = catS (ss.take k) ++ stB s := by
  unfold catS
  rw [take_eq h, List.foldl_append]
  rfl
theorem stB_size {s : Sv} (h : svB s = true) : (stB s).size ≤ 530 := by
  obtain ⟨q1, q2, q3, q4, q5, q6, q7, q8, _⟩ := svB_short h
  have : (stB s).size = (stL s.nm s.parts s.ps s.xs).length := by
    show (stL s.nm s.parts s.ps s.xs).toArray.size = _
    simp
  rw [this, stL_len]
  omega
theorem catS_size {ss : List Sv} (h : ss.all svB = true) : (catS ss).size ≤ 530 * ss.length := by
  have key : ∀ (l : List Sv) (a : ByteArray), l.all svB = true → (l.foldl (fun a s => a ++ stB s) a).size ≤ a.size + 530 * l.length := by
    intro l
    induction l with
    | nil => intro a _; simp
    | cons s r ih =>
      intro a hr
      rw [List.all_cons, Bool.and_eq_true] at hr
      have h1 := ih (a ++ stB s) hr.2
      have h2 := stB_size hr.1
      rw [ByteArray.size_append] at h1
      simp only [List.foldl_cons, List.length_cons]
      omega
  have := key ss .empty h
  simpa [catS] using this
def allOk (ss : List Sv) (n : Nat) : Bool := decide (n ≤ 8) && ss.all svB
def allT (ss : List Sv) (n : Nat) : ByteArray := if allOk ss n = true then catS ss else .empty
theorem allOk_no {ss : List Sv} {n k : Nat} {s : Sv} (h : ss[k]? = some s) (hs : svB s = false) : allOk ss n = false := by
  unfold allOk
  have : ss.all svB = false := by
    rw [List.all_eq_false]
    exact ⟨s, List.mem_of_getElem? h, by rw [hs]; simp⟩
  rw [this, Bool.and_false]
theorem allOk_step {ss : List Sv} {k : Nat} {s : Sv} (h : ss[k]? = some s) (hs : svB s = true) (hp : (ss.take k).all svB = true) : (ss.take (k + 1)).all svB = true := by
  rw [take_eq h, List.all_append, hp]
  simp [hs]
theorem allOk_yes {ss : List Sv} {n : Nat} (hl : ss.length = n) (hn : n ≤ 8) (hp : (ss.take n).all svB = true) : allOk ss n = true ∧ allT ss n = catS (ss.take n) := by
  rw [List.take_of_length_le (by omega)] at hp ⊢
  have : allOk ss n = true := by unfold allOk; rw [hp, decide_eq_true hn]; rfl
  exact ⟨this, by unfold allT; rw [this]; rfl⟩
theorem ret_tup {a a' : ByteArray} {b b' : Bool} (h1 : a = a') (h2 : b = b') : Ending.returned (Value.tuple #[.string a, .bool b]) = Ending.returned (.tuple #[.string a', .bool b']) := by rw [h1, h2]
theorem allT_no {ss : List Sv} {n : Nat} (h : allOk ss n = false) : allT ss n = .empty := by unfold allT; rw [h]; rfl
set_option maxHeartbeats 4000000 in
theorem i_StoreAll {A : Option Addr} {n c B : Nat} {ss : List Sv} {w : World} (h : SvR w B A n ss) (hB : B ≤ w.heap.size) (hn : n ≤ 1048576) (hl : ∀ s ∈ ss, SvLe 1048576 s) :
    Calls Try.prog 24 #[.slice A n c] w fun e w' => e = .returned (.tuple #[.string (allT ss n), .bool (allOk ss n)]) ∧ Below w.heap.size w w' := by
  have Hl := hide h.len
  by_cases h8 : n ≤ 8
  · have i1 : ¬ (8 : Int) < (n : Int) := by omega
    go_enter Try.func24, Try.ntmps24
    go_wp2
    go_loopw [4, 6, 7, 8, 14] (fun s4 _ _ _ i wr => ∃ k : Nat, k ≤ n ∧ i = .int .i64 k ∧ s4 = .string (catS (ss.take k)) ∧ Hid ((ss.take k).all svB = true) ∧ Below w.heap.size w wr) (fun _ _ _ _ i _ => n - (intOf i).toNat)
    case atStart => exact ⟨0, Nat.zero_le _, rfl, rfl, hide rfl, Below.refl _ _⟩
    case round =>
      obtain ⟨k, hk, rfl, rfl, hp, hbel⟩ := hrel
      have hsz := hbel.size
      by_cases hlt : k < n
      · obtain ⟨ad, s, rfl, hab, hx, o1, c0, c1, c2, c3⟩ := (h.below (hbel.mono hB)).at hlt
        have hle := hl s (List.mem_of_getElem? hx)
        have Hx := hide hx
        have kI0 : (0 : Int) ≤ k := by omega
        have kI : (k : Int) < n := by omega
        have O1 := fun o => o1.alloc (show B ≤ wr.heap.size by omega) o
        have hBs : B ≤ wr.heap.size := by omega
        have hkl : (ss.take k).length ≤ 8 := by rw [List.length_take]; omega
        have hcs := catS_size hp.out
        clear hx
        cases hv : svB s with
        | false =>
          have HN := hide (allOk_no (n := n) Hx.out hv)
          go_wp2_with fail
          refine (i_StoreSaved (B := B) (s := s) (O1 _) (by simp; omega) hle).mono ?_
          rintro e w1 ⟨rfl, hb⟩
          rw [hv]
          go_wp2
          go_ret2
          exact ⟨ret_tup (allT_no HN.out).symm HN.out.symm, (hbel.alloc hsz _).trans (hb.mono (by simp; omega))⟩
        | true =>
          have HS := hide (catS_succ Hx.out)
          have HP := hide (allOk_step Hx.out hv hp.out)
          have hbs := stB_size hv
          have hadd := fun w => run_string_add_sum (P := Try.prog) w (catS (ss.take k)) (stored s.nm s.parts s.ps s.xs) (by have : (stored s.nm s.parts s.ps s.xs).size ≤ 530 := hbs; omega)
          go_wp2_with fail
          refine (i_StoreSaved (B := B) (s := s) (O1 _) (by simp; omega) hle).mono ?_
          rintro e w1 ⟨rfl, hb⟩
          rw [hv, if_pos rfl]
          have hbel' := (hbel.alloc hsz (.cells #[.string s.nm, .int .i64 s.parts, .slice s.PA s.pn s.pc, .slice s.SA s.sn s.sc] 38)).trans (hb.mono (by simp; omega))
          clear hb
          go_wp2
          go_roundw
          case rel => exact ⟨k + 1, by omega, by go_num, by rw [HS.out]; rfl, HP, hbel'⟩
          case measure => (simp [intOf]; try omega)
      · obtain rfl : k = n := by omega
        have hkI : ¬ (k : Int) < (k : Int) := by omega
        have HY := hide (allOk_yes Hl.out h8 hp.out)
        go_wp2
        go_ret2
        exact ⟨ret_tup HY.out.2.symm HY.out.1.symm, hbel⟩
  · have i1 : (8 : Int) < (n : Int) := by omega
    have HN : Hid (allOk ss n = false) := hide (by unfold allOk; rw [decide_eq_false h8]; rfl)
    go_enter Try.func24, Try.ntmps24
    go_wp2
    go_ret2
    exact ⟨ret_tup (allT_no HN.out).symm HN.out.symm, Below.refl _ _⟩
set_option maxHeartbeats 4000000 in
theorem s_StoreAll {A : Option Addr} {n c B : Nat} {ss : List Sv} {w : World} (h : SvR w B A n ss) (hB : B ≤ w.heap.size) (hn : n ≤ 1048576) (hl : ∀ s ∈ ss, SvLe 1048576 s) :
    Calls Try.prog 23 #[.slice A n c] w fun e w' => e = .returned (.tuple #[.string (allT ss n), .bool (allOk ss n)]) ∧ Below w.heap.size w w' := by
  have Hl := hide h.len
  by_cases h8 : n ≤ 8
  · have i1 : ¬ (8 : Int) < (n : Int) := by omega
    go_enter Try.func23, Try.ntmps23
    go_wp2
    go_loopw [4, 5, 11] (fun s4 _ i wr => ∃ k : Nat, k ≤ n ∧ i = .int .i64 k ∧ s4 = .string (catS (ss.take k)) ∧ Hid ((ss.take k).all svB = true) ∧ Below w.heap.size w wr) (fun _ _ i _ => n - (intOf i).toNat)
    case atStart => exact ⟨0, Nat.zero_le _, rfl, rfl, hide rfl, Below.refl _ _⟩
    case round =>
      obtain ⟨k, hk, rfl, rfl, hp, hbel⟩ := hrel
      have hsz := hbel.size
      by_cases hlt : k < n
      · obtain ⟨ad, s, rfl, hab, hx, o1, c0, c1, c2, c3⟩ := (h.below (hbel.mono hB)).at hlt
        have hle := hl s (List.mem_of_getElem? hx)
        rcases s with ⟨nm, parts, PA, pn, pc, ps, SA, sn, sc, xs⟩
        have l1 : pn ≤ 1048576 := hle.pn
        have l2 : sn ≤ 1048576 := hle.sn
        have l3 : nm.size ≤ 1048576 := hle.nm
        have Hx := hide hx
        have kI0 : (0 : Int) ≤ k := by omega
        have kI : (k : Int) < n := by omega
        have hb1 : (ad.add (k * 4)).block < wr.heap.size := by rw [block_of_add]; omega
        have hkl : (ss.take k).length ≤ 8 := by rw [List.length_take]; omega
        have hcs := catS_size hp.out
        have HC := hide (s_l07Saved (p := ad.add (k * 4)) c0 c1 c2 c3 o1 l3 l1 l2)
        have HC2 : ∀ m, Hid (svB ⟨nm, parts, PA, pn, pc, ps, SA, sn, sc, xs⟩ = true → Calls Try.prog 53 #[.pointer (some (ad.add (k * 4)))] (wr.drewN m) fun e w' => e = .returned (.string (stored nm parts ps xs)) ∧ Below (wr.drewN m).heap.size (wr.drewN m) w') := fun m => hide (fun hv => s_l07Store (p := ad.add (k * 4)) (B := B) c0 c1 c2 c3 hb1 (svOk_drewN o1 m) (by show B ≤ wr.heap.size; omega) hv)
        clear hx c0 c1 c2 c3 hle
        cases hv : svB ⟨nm, parts, PA, pn, pc, ps, SA, sn, sc, xs⟩ with
        | false =>
          have HN := hide (allOk_no (n := n) Hx.out hv)
          go_wp2_with fail
          refine (calls_bool HC.out hv).mono ?_
          rintro e w1 ⟨rfl, m, rfl⟩
          go_wp2
          go_ret2
          exact ⟨ret_tup (allT_no HN.out).symm HN.out.symm, below_drewN hbel _⟩
        | true =>
          have HS := hide (catS_succ Hx.out)
          have HP := hide (allOk_step Hx.out hv hp.out)
          have hbs := stB_size hv
          have hadd := fun w => run_string_add_sum (P := Try.prog) w (catS (ss.take k)) (stored nm parts ps xs) (by have : (stored nm parts ps xs).size ≤ 530 := hbs; omega)
          go_wp2_with fail
          refine (calls_bool HC.out hv).mono ?_
          rintro e w1 ⟨rfl, m, rfl⟩
          go_wp2_with fail
          refine ((HC2 m).out hv).mono ?_
          rintro e w1 ⟨rfl, hb⟩
          have hbel' := (below_drewN hbel m).trans (hb.mono hsz)
          clear hb
          go_wp2
          go_roundw
          case rel => exact ⟨k + 1, by omega, by go_num, by rw [HS.out]; rfl, HP, hbel'⟩
          case measure => (simp [intOf]; try omega)
      · obtain rfl : k = n := by omega
        have hkI : ¬ (k : Int) < (k : Int) := by omega
        have HY := hide (allOk_yes Hl.out h8 hp.out)
        go_wp2
        go_ret2
        exact ⟨ret_tup HY.out.2.symm HY.out.1.symm, hbel⟩
  · have i1 : (8 : Int) < (n : Int) := by omega
    have HN : Hid (allOk ss n = false) := hide (by unfold allOk; rw [decide_eq_false h8]; rfl)
    go_enter Try.func23, Try.ntmps23
    go_wp2
    go_ret2
    exact ⟨ret_tup (allT_no HN.out).symm HN.out.symm, Below.refl _ _⟩
end Go.Proofs.Ytjfmjeffmnjilaa
