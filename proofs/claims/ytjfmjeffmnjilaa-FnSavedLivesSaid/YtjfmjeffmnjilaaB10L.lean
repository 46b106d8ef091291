/-
  The reference's least sets of a list: told plainly, and that they make a valid system.
-/
import Derived.Test.YtjfmjeffmnjilaaDrw
import Derived.Test.YtjfmjeffmnjilaaSysQ
import Derived.BigQuiet
import Derived.Test.YtjfmjeffmnjilaaSvC
import Derived.Test.YtjfmjeffmnjilaaSvX
import Derived.Test.YtjfmjeffmnjilaaStH
import Derived.Test.YtjfmjeffmnjilaaTkT
import Derived.Test.YtjfmjeffmnjilaaSrc
import Derived.Deep.QuietTactic
namespace Go.Proofs.Ytjfmjeffmnjilaa
open Go.RowKit Fl Mem
set_option linter.unusedVariables false
set_option maxRecDepth 100000

def lsB (list : List Int) (s : Int) : Bool := list.contains s && list.all (fun x => x == s || !hasB s x)
def lsL (list : List Int) (k : Nat) : List Int := ((List.range k).map fun i => ((i + 1 : Nat) : Int)).filter (lsB list)
theorem lsL_succ (list : List Int) (k : Nat) : lsL list (k + 1) = lsL list k ++ (if lsB list ((k + 1 : Nat) : Int) = true then [((k + 1 : Nat) : Int)] else []) := by
  unfold lsL
  rw [List.range_succ, List.map_append, List.filter_append]
  congr 1
  simp only [List.map_cons, List.map_nil, List.filter_cons, List.filter_nil]
theorem lsL_len (list : List Int) (k : Nat) : (lsL list k).length ≤ k := by
  unfold lsL
  refine Nat.le_trans (List.length_filter_le _ _) ?_
  simp
theorem lsL_mem {list : List Int} {k : Nat} {x : Int} : x ∈ lsL list k ↔ (1 ≤ x ∧ x ≤ (k : Int)) ∧ lsB list x = true := by
  unfold lsL
  rw [List.mem_filter, List.mem_map]
  constructor
  · rintro ⟨⟨i, hi, rfl⟩, h⟩
    rw [List.mem_range] at hi
    exact ⟨⟨by omega, by omega⟩, h⟩
  · rintro ⟨⟨h1, h2⟩, h⟩
    refine ⟨⟨(x - 1).toNat, List.mem_range.2 (by omega), by omega⟩, h⟩
theorem lsL_sorted (list : List Int) (k : Nat) : (lsL list k).Pairwise (· < ·) := by
  unfold lsL
  refine List.Pairwise.filter _ ?_
  rw [List.pairwise_map]
  exact List.Pairwise.imp (fun h => by omega) List.pairwise_lt_range
theorem lsB_iff {list : List Int} {s : Int} : lsB list s = true ↔ s ∈ list ∧ ∀ x ∈ list, x = s ∨ hasB s x = false := by
  unfold lsB
  rw [Bool.and_eq_true, List.contains_iff_mem, List.all_eq_true]
  constructor
  · rintro ⟨h1, h2⟩
    refine ⟨h1, fun x hx => ?_⟩
    have := h2 x hx
    rw [Bool.or_eq_true, beq_iff_eq, Bool.not_eq_true'] at this
    exact this
  · rintro ⟨h1, h2⟩
    refine ⟨h1, fun x hx => ?_⟩
    rw [Bool.or_eq_true, beq_iff_eq, Bool.not_eq_true']
    exact h2 x hx
theorem has_le {a b : Int} (ha : 0 ≤ a) (ha' : a < 9223372036854775808) (hb : 0 ≤ b) (hb' : b < 9223372036854775808) (h : hasB b a = true) : a ≤ b := by
  rw [← hasB_and ha ha', beq_iff_eq] at h
  unfold bits at h
  simp only [IntKind.wrap_i64] at h
  have hb64 : IntKind.i64.bits = 64 := rfl
  have hB : ((BitVec.ofInt 64 b).toNat : Int) = b := by
    rw [BitVec.toNat_ofInt]; omega
  generalize hBB : BitVec.ofInt IntKind.i64.bits b = B at h
  generalize BitVec.ofInt IntKind.i64.bits a = A at h
  have hB2 : (B.toNat : Int) = b := by rw [← hBB]; exact hB
  have h1 : (A &&& B).toNat ≤ B.toNat := by rw [BitVec.toNat_and]; exact Nat.and_le_right
  omega
theorem ls_small {list : List Int} {m : Int} (h : ∀ x ∈ list, 1 ≤ x ∧ x ≤ m) : ∀ x ∈ lsL list 1023, 1 ≤ x ∧ x ≤ m := fun x hx => h x (lsB_iff.1 (lsL_mem.1 hx).2).1
theorem exists_min : ∀ (list : List Int), list ≠ [] → ∃ s ∈ list, ∀ x ∈ list, s ≤ x
  | [], h => absurd rfl h
  | [a], _ => ⟨a, by simp, fun x hx => by simp at hx; omega⟩
  | a :: b :: r, _ => by
    obtain ⟨s, hs, hm⟩ := exists_min (b :: r) (by simp)
    by_cases hab : a ≤ s
    · exact ⟨a, by simp, fun x hx => by
        rcases List.mem_cons.1 hx with rfl | hx
        · omega
        · have := hm x hx; omega⟩
    · exact ⟨s, List.mem_cons_of_mem _ hs, fun x hx => by
        rcases List.mem_cons.1 hx with rfl | hx
        · omega
        · exact hm x hx⟩
theorem ls_valid {list : List Int} {parts : Nat} (h0 : list ≠ []) (hp : 1 ≤ parts ∧ parts ≤ 4) (h1 : ∀ x ∈ list, 1 ≤ x ∧ x ≤ (2 : Int) ^ parts - 1) : sysB (parts : Int) (lsL list 1023) = true := by
  have hpw : (2 : Int) ^ parts ≤ 16 := by
    have : (2 : Nat) ^ parts ≤ 2 ^ 4 := Nat.pow_le_pow_right (by decide) hp.2
    exact_mod_cast this
  have hsm := ls_small h1
  have hlen : (lsL list 1023).length ≤ 64 := by
    have e : lsL list 1023 = lsL list 15 := by
      have key : ∀ d, lsL list (15 + d) = lsL list 15 := by
        intro d
        induction d with
        | zero => rfl
        | succ d ih =>
          rw [show 15 + (d + 1) = 15 + d + 1 by omega, lsL_succ, ih, if_neg, List.append_nil]
          intro hb
          have := (h1 _ (lsB_iff.1 hb).1).2
          omega
      exact key 1008
    rw [e]
    exact Nat.le_trans (lsL_len _ _) (by decide)
  have hne : 1 ≤ (lsL list 1023).length := by
    obtain ⟨s, hs, hm⟩ := exists_min list h0
    have hsb := h1 s hs
    have : s ∈ lsL list 1023 := lsL_mem.2 ⟨⟨by omega, by omega⟩, lsB_iff.2 ⟨hs, fun x hx => by
      cases hh : hasB s x with
      | false => exact .inr rfl
      | true =>
        have h2 := h1 x hx
        have := has_le (by omega) (by omega) (by omega) (by omega) hh
        have := hm x hx
        exact .inl (by omega)⟩⟩
    exact List.length_pos_of_mem this
  have hsrt := List.pairwise_iff_getElem.1 (lsL_sorted list 1023)
  unfold sysB
  rw [Bool.and_eq_true, Bool.and_eq_true, decide_eq_true_iff, decide_eq_true_iff, decide_eq_true_iff]
  refine ⟨by omega, ⟨hne, hlen⟩, fun j hj => ?_⟩
  unfold stepB
  rw [Bool.and_eq_true, Bool.and_eq_true, decide_eq_true_iff, decide_eq_true_iff, decide_eq_true_iff, get_bang hj]
  refine ⟨?_, ?_, fun k hk => ?_⟩
  · have := hsm _ (List.getElem_mem hj)
    rw [Int.toNat_natCast]
    exact this
  · rcases Nat.eq_zero_or_pos j with h | h
    · exact .inl h
    · refine .inr ?_
      rw [get_bang (show j - 1 < _ by omega)]
      exact hsrt (j - 1) j (by omega) hj (by omega)
  · have hk' : k < (lsL list 1023).length := by omega
    rw [get_bang hk']
    have hlt := hsrt k j hk' hj hk
    have hj2 := lsB_iff.1 (lsL_mem.1 (List.getElem_mem hj)).2
    have hk2 := lsB_iff.1 (lsL_mem.1 (List.getElem_mem hk')).2
    refine ⟨?_, ?_⟩
    · rcases hj2.2 _ hk2.1 with h | h
      · omega
      · exact h
    · rcases hk2.2 _ hj2.1 with h | h
      · omega
      · exact h
end Go.Proofs.Ytjfmjeffmnjilaa

/-
  The reference's least sets of a list: the walk.
-/
namespace Go.Proofs.Ytjfmjeffmnjilaa
open Go.RowKit Fl Mem
set_option linter.unusedVariables false
set_option maxRecDepth 100000

theorem has_no {xs : List Int} {x : Int} (h : ∀ t, t < xs.length → xs[t]? ≠ some x) : xs.contains x = false := by
  cases hc : xs.contains x with
  | false => rfl
  | true =>
    obtain ⟨i, hi, e⟩ := List.getElem_of_mem (List.contains_iff_mem.1 hc)
    exact absurd (by rw [List.getElem?_eq_getElem hi, e]) (h i hi)
set_option maxHeartbeats 1000000 in
theorem s_l00HasI {A : Option Addr} {n c B : Nat} {xs : List Int} {x : Int} {w : World} (h : Reads w B 1 A n (il xs)) (hn : n ≤ 1048576) :
    Calls Try.prog 115 #[.slice A n c, .int .i64 x] w fun e w' => e = .returned (.bool (xs.contains x)) ∧ w' = w := by
  have Hl := hide h.map_len
  obtain ⟨r, hr⟩ : ∃ r, xs.contains x = r := ⟨_, rfl⟩
  have Hr := hide hr
  rw [hr]
  clear hr
  go_enter Try.func115, Try.ntmps115
  go_wp2
  go_loopw [5] (fun i wr => ∃ k : Nat, k ≤ n ∧ i = .int .i64 (k : Int) ∧ Hid (∀ t, t < k → xs[t]? ≠ some x) ∧ wr = w) (fun i _ => n - (intOf i).toNat)
  case atStart => exact ⟨0, Nat.zero_le _, rfl, hide (fun t ht => by omega), rfl⟩
  case round =>
    obtain ⟨k, hk, rfl, HS, rfl⟩ := hrel
    by_cases hlt : k < n
    · obtain ⟨ad, y, rfl, _, hy, hc⟩ := h.map_at hlt
      have Hy := hide hy
      have kI : (k : Int) < (n : Int) := by omega
      clear hy
      by_cases hxy : y = x
      · have hb : (y == x) = true := by rw [beq_iff_eq]; exact hxy
        have HR : Hid (r = true) := hide (by rw [← Hr.out]; exact List.contains_iff_mem.2 (by rw [← hxy]; exact List.mem_of_getElem? Hy.out))
        clear hxy
        go_wp2
        go_ret
        exact ⟨ret_bool HR.out.symm, rfl⟩
      · have hb : (y == x) = false := by rw [beq_eq_false_iff_ne]; exact hxy
        have HN : Hid (∀ t, t < k + 1 → xs[t]? ≠ some x) := hide (fun t ht => by
          rcases Nat.lt_or_ge t k with h1 | h1
          · exact HS.out t h1
          · obtain rfl : t = k := by omega
            rw [Hy.out]
            intro e
            exact hxy (Option.some.inj e))
        clear HS
        go_wp2
        go_roundw
        case rel => exact ⟨k + 1, by omega, by go_num, HN, by first | rfl | trivial⟩
        case measure => (simp [intOf]; omega)
    · obtain rfl : k = n := by omega
      have kI : ¬ (k : Int) < (k : Int) := by omega
      have HR : Hid (r = false) := hide (by rw [← Hr.out]; exact has_no (by rw [Hl.out]; exact HS.out))
      go_wp2
      go_ret
      exact ⟨ret_bool HR.out.symm, rfl⟩
/-- No set of the first ones is another one's part. -/
def lsA (xs : List Int) (s : Int) (k : Nat) : Bool := (xs.take k).all (fun x => x == s || !hasB s x)
theorem lsA_succ {xs : List Int} {s y : Int} {k : Nat} (h : xs[k]? = some y) : lsA xs s (k + 1) = (lsA xs s k && (y == s || !hasB s y)) := by
  unfold lsA
  rw [take_eq h, List.all_append]
  simp
set_option maxHeartbeats 4000000 in
theorem s_l03Least {A : Option Addr} {n c B : Nat} {xs : List Int} {w : World} (h : Reads w B 1 A n (il xs)) (hB : B ≤ w.heap.size) (hn : n ≤ 1048576) (hx : ∀ x ∈ xs, 0 ≤ x ∧ x < 9223372036854775808) :
    Calls Try.prog 94 #[.slice A n c] w fun e w' => ∃ v, e = .returned v ∧ w'.ownsRow w.heap.size 2 1 v (lsL xs 1023).length (il (lsL xs 1023)) ∧ Below w.heap.size w w' := by
  have Hl := hide h.map_len
  have HX := hide hx
  clear hx
  go_enter Try.func94, Try.ntmps94
  go_wp2
  go_loopw [3, 4, 5, 6] (fun v v4 _ _ wr => ∃ k : Nat, k ≤ 1023 ∧ v4 = .int .i64 ((k : Int) + 1) ∧ Hid (wr.ownsRow w.heap.size 2 1 v (lsL xs k).length (il (lsL xs k))) ∧ Below w.heap.size w wr) (fun _ v4 _ _ _ => 1024 - (intOf v4).toNat)
  case atStart => exact ⟨0, Nat.zero_le _, rfl, hide (World.ownsRow_made _ _ _ (Nat.le_refl _) (by simp [maxLen]) (by simp)), (Below.refl _ _).alloc (Nat.le_refl _) _⟩
  case round =>
    obtain ⟨k, hk, rfl, HO, bel⟩ := hrel
    have hzr : w.heap.size ≤ wr.heap.size := bel.size
    have R1 := h.below (bel.mono hB)
    by_cases hlt : k < 1023
    · have kI : (k : Int) + 1 < 1024 := by omega
      cases hc : xs.contains ((k : Int) + 1) with
      | false =>
        have HL : Hid (lsL xs (k + 1) = lsL xs k) := hide (by
          rw [lsL_succ, if_neg, List.append_nil]
          intro hb
          unfold lsB at hb
          rw [Bool.and_eq_true] at hb
          have h1 := hb.1
          push_cast at h1
          rw [hc] at h1
          cases h1)
        have HC := hide hc
        clear hc
        go_wp2_with fail
        refine (s_l00HasI R1 hn).mono ?_
        rintro e w1 ⟨rfl, rfl⟩
        rw [HC.out]
        go_wp2
        go_roundw
        case rel => exact ⟨k + 1, by omega, by go_num, by rw [HL.out]; exact HO, bel⟩
        case measure => (simp [intOf]; omega)
      | true =>
        have HC := hide hc
        clear hc
        go_wp2_with fail
        refine (s_l00HasI R1 hn).mono ?_
        rintro e w1 ⟨rfl, rfl⟩
        rw [HC.out]
        have HCe : Hid (lsB xs ((k : Int) + 1) = lsA xs ((k : Int) + 1) n) := hide (by
          unfold lsB lsA
          rw [HC.out, Bool.true_and, List.take_of_length_le (by rw [Hl.out]; exact Nat.le_refl _)])
        have HO1 := hide HO.out
        clear HO
        go_wp2
        go_loopw [5, 6, 18] (fun v5 _ i wr => ∃ j m : Nat, j ≤ n ∧ i = .int .i64 (j : Int) ∧ v5 = .bool (lsA xs ((k : Int) + 1) j) ∧ wr = w1.drewN m) (fun _ _ i _ => n - (intOf i).toNat)
        case atStart => exact ⟨0, 0, Nat.zero_le _, rfl, rfl, rfl⟩
        case round =>
          obtain ⟨j, m, hj, rfl, rfl, rfl⟩ := hrel
          by_cases hjn : j < n
          · obtain ⟨ad, y, rfl, _, hy, hcell⟩ := R1.map_at hjn
            have Hy := hide hy
            have hyr := HX.out y (List.mem_of_getElem? hy)
            have HS := hide (lsA_succ (s := (k : Int) + 1) hy)
            have jI : (j : Int) < (n : Int) := by omega
            have jI0 : (0 : Int) ≤ (j : Int) := by omega
            have hand := hasB_and (b := (k : Int) + 1) hyr.1 hyr.2
            clear hy
            by_cases hys : y = (k : Int) + 1
            · have hne : (y != (k : Int) + 1) = false := by rw [bne_eq_false_iff_eq]; exact hys
              have HS2 : Hid (lsA xs ((k : Int) + 1) (j + 1) = lsA xs ((k : Int) + 1) j) := hide (by rw [HS.out, beq_iff_eq.2 hys, Bool.true_or, Bool.and_true])
              clear hys hand HS
              go_wp2
              go_quiet (fail)
              go_wp2
              go_roundw
              case rel => exact ⟨j + 1, _, by omega, by go_num, by rw [HS2.out], by first | rfl | exact World.drewN_drewN _ _ _⟩
              case measure => (simp [intOf]; omega)
            · have hne : (y != (k : Int) + 1) = true := by rw [bne_iff_ne]; exact hys
              cases hb : hasB ((k : Int) + 1) y with
              | true =>
                rw [hb] at hand
                have HS2 : Hid (lsA xs ((k : Int) + 1) (j + 1) = false) := hide (by rw [HS.out, beq_eq_false_iff_ne.2 hys, hb]; simp)
                clear hys HS hb
                go_wp2
                go_quiet (fail)
                go_wp2
                go_roundw
                case rel => exact ⟨j + 1, _, by omega, by go_num, by rw [HS2.out], by first | rfl | exact World.drewN_drewN _ _ _⟩
                case measure => (simp [intOf]; omega)
              | false =>
                rw [hb] at hand
                have HS2 : Hid (lsA xs ((k : Int) + 1) (j + 1) = lsA xs ((k : Int) + 1) j) := hide (by rw [HS.out, hb]; simp)
                clear hys HS hb
                go_wp2
                go_quiet (fail)
                go_wp2
                go_roundw
                case rel => exact ⟨j + 1, _, by omega, by go_num, by rw [HS2.out], by first | rfl | exact World.drewN_drewN _ _ _⟩
                case measure => (simp [intOf]; omega)
          · obtain rfl : j = n := by omega
            have jI : ¬ (j : Int) < (j : Int) := by omega
            cases hls : lsA xs ((k : Int) + 1) j with
            | false =>
              have HL : Hid (lsL xs (k + 1) = lsL xs k) := hide (by
                rw [lsL_succ, if_neg, List.append_nil]
                push_cast
                rw [HCe.out, hls]
                decide)
              have HOd := hide (own_drewN HO1.out m)
              have belD := below_drewN bel m
              clear hls
              go_wp2
              go_roundw
              case rel => exact ⟨k + 1, by omega, by go_num, by rw [HL.out]; exact HOd, belD⟩
              case measure => (simp [intOf]; omega)
            | true =>
              have HL : Hid (lsL xs (k + 1) = lsL xs k ++ [(k : Int) + 1]) := hide (by
                rw [lsL_succ, if_pos]
                · push_cast; rfl
                · push_cast; rw [HCe.out, hls])
              have hlen := lsL_len xs k
              have HOd := hide (own_drewN HO1.out m)
              have hzd : w.heap.size ≤ (w1.drewN m).heap.size := hzr
              clear hls
              go_wp2_with (at_builtin; refine wpList_append1 rfl (.tmp 42) (.tmp 44) 28 rfl w.heap.size 2 (.int .i64 0) _ 8 info_i64 Try.underlying28 rfl rfl _ _ _ rfl HOd.out rfl rfl (by omega) (by omega) hzd ?_)
              intro v9 w9 ho9 hb9
              have HO9 : Hid (w9.ownsRow w.heap.size 2 1 v9 (lsL xs (k + 1)).length (il (lsL xs (k + 1)))) := hide (by
                rw [HL.out, List.length_append]
                have e : il (lsL xs k ++ [(k : Int) + 1]) = il (lsL xs k) ++ [.int .i64 ((k : Int) + 1)] := by simp [il]
                rw [e]; exact ho9)
              have bel9 := (below_drewN bel m).trans (hb9.mono (Nat.le_refl _))
              clear ho9 hb9
              go_wp2
              go_roundw
              case rel => exact ⟨k + 1, by omega, by go_num, HO9, bel9⟩
              case measure => (simp [intOf]; omega)
    · obtain rfl : k = 1023 := by omega
      go_wp2
      go_ret
      exact ⟨_, rfl, HO.out, bel⟩
end Go.Proofs.Ytjfmjeffmnjilaa

/-
  Sets that are drawn, and a system of them: the reference's walks.
-/
namespace Go.Proofs.Ytjfmjeffmnjilaa
open Go.RowKit Fl Mem
set_option linter.unusedVariables false
set_option maxRecDepth 100000

theorem own_pushI {w : World} {b : Nat} {t : TypeId} {v : Value} {k : Nat} {z : Int} {zs : List Int} (h : w.ownsRow b t 1 v k (il zs ++ [.int .i64 z])) : w.ownsRow b t 1 v k (il (zs ++ [z])) := by
  have e : il (zs ++ [z]) = il zs ++ [.int .i64 z] := by simp [il]
  rw [e]; exact h
/-- What is drawn: from one to five sets, and the source further on. -/
def DsR (w w' : World) (g : Nat) (A : Option Addr) (n c q : Nat) (M : Int) (v : Value) : Prop := ∃ (N q' : Nat) (s' : Int) (zs : List Int), w'.ownsRow w.heap.size 2 1 v N (il zs) ∧ 1 ≤ N ∧ N ≤ 5 ∧ (∀ x ∈ zs, 1 ≤ x ∧ x ≤ M - 1) ∧ q' ≤ q + 6 ∧ SrcAt w' g A n c q' s' ∧ w.grownBy w' (some g)
set_option maxHeartbeats 2000000 in
theorem s_l03DrawSets {A : Option Addr} {n c g B q parts : Nat} {s : Int} {xs : List Int} {w : World} (hb : SrcAt w g A n c q s) (h : Reads w B 1 A n (xs.map (Value.int .u8))) (hB : B ≤ g) (hx : ∀ a ∈ xs, (Lit.int .u8 a).wf = true)
    (hn : n ≤ 1048576) (hq0 : q ≤ 100000) (hp : 1 ≤ parts ∧ parts ≤ 4) :
    Calls Try.prog 95 #[.pointer (some ⟨g, 0, none⟩), .int .i64 (parts : Int)] w fun e w' => ∃ v : Value, e = .returned v ∧ DsR w w' g A n c q ((2 : Int) ^ parts) v := by
  have hgs := hb.lt
  obtain ⟨M, hM, m0, m1⟩ := pow_wrap (p := (parts : Int)) (by omega) (by omega)
  have HM : Hid ((2 : Int) ^ parts = M) := hide (by rw [hM, Int.toNat_natCast])
  have hM16 : M ≤ 16 ∧ 2 ≤ M := by
    rw [← HM.out]
    have h1 : (2 : Nat) ^ parts ≤ 2 ^ 4 := Nat.pow_le_pow_right (by decide) hp.2
    have h2 : (2 : Nat) ^ 1 ≤ 2 ^ parts := Nat.pow_le_pow_right (by decide) hp.1
    constructor
    · exact_mod_cast h1
    · exact_mod_cast h2
  obtain ⟨hM1, hM2⟩ := hM16
  have i0 : (0 : Int) ≤ (parts : Int) := by omega
  have i64 : (parts : Int) ≤ 64 := by omega
  have w1 : wrap64 ((2 : Int) ^ (parts : Int).toNat) = M := by rw [← hM]; unfold wrap64; omega
  have w1' : wrap64 ((2 : Int) ^ parts) = M := by rw [HM.out]; unfold wrap64; omega
  have w3 : IntKind.i64.wrap ((2 : Int) ^ (parts : Int).toNat) = M := by rw [← hM, IntKind.wrap_i64]; omega
  have w3' : IntKind.i64.wrap ((2 : Int) ^ parts) = M := by rw [HM.out, IntKind.wrap_i64]; omega
  rw [HM.out]
  clear hM
  go_enter Try.func95, Try.ntmps95
  go_wp2_with fail
  refine (s_pickG (B := B) (hb.alloc _) (h.alloc (by omega) _) hB hx hn (by omega) (by omega) (by omega)).mono ?_
  rintro e w1 ⟨v0, q1, s1, rfl, hv0, hq1, hb1, hg1⟩
  obtain ⟨N, hN⟩ : ∃ N, v0 + 1 = N := ⟨_, rfl⟩
  have hN5 : N ≤ 5 := by omega
  have hN1 : 1 ≤ N := by omega
  have hNI : (1 : Int) + (v0 : Int) = (N : Int) := by omega
  have HO0 := hide (World.ownsRow.kept (own_empty w 2 1) hg1 (own_far (own_empty w 2 1) hgs))
  have Hb1 := hide hb1
  have hgr1 : w.grownBy w1 (some g) := only_trans (only_alloc (World.grownBy.refl _ _) _) hg1
  have hw1 : w.heap.size + 1 ≤ w1.heap.size := by have := hg1.size; simpa using this
  clear hb1 hg1 hN hb hv0
  go_wp2
  go_loopw [5, 6] (fun v5 v6 wr => ∃ (k j q' : Nat) (s' : Int) (zs : List Int), Hid (k + j = N) ∧ v6 = .int .i64 (j : Int) ∧ Hid (q' ≤ q + 1 + k) ∧ Hid (SrcAt wr g A n c q' s') ∧ Hid (wr.ownsRow w.heap.size 2 1 v5 k (il zs)) ∧ Hid (∀ x ∈ zs, 1 ≤ x ∧ x ≤ M - 1) ∧ w.grownBy wr (some g)) (fun _ v6 _ => (intOf v6).toNat)
  case atStart => exact ⟨0, N, q1, s1, [], hide (by omega), rfl, hide (by omega), Hb1, HO0, hide (fun x hx => by cases hx), hgr1⟩
  case round =>
    clear Hb1 HO0 hgr1
    obtain ⟨k, j, q', s', zs, hkj, rfl, hq', hbk, hown, hzs, hgr⟩ := hrel
    have hsz := hgr.size
    by_cases hj : j = 0
    · subst hj
      have gj : ¬ (0 : Int) < ((0 : Nat) : Int) := by omega
      have hkN : k = N := by have := hkj.out; omega
      subst hkN
      go_wp2
      go_ret
      exact ⟨_, rfl, k, q', s', zs, hown.out, hN1, hN5, hzs.out, by have := hq'.out; omega, hbk.out, hgr⟩
    · have gj : (0 : Int) < (j : Int) := by omega
      have hk5 : k ≤ 5 := by have := hkj.out; omega
      have hqq : q' ≤ 1048576 := by have := hq'.out; omega
      obtain ⟨i, hi⟩ : ∃ i, j = i + 1 := ⟨j - 1, by omega⟩
      have hwj : wrap64 ((j : Int) - 1) = (i : Int) := by unfold wrap64; have := hkj.out; omega
      have Hi := hide hi
      clear hi
      go_wp2_with fail
      refine (s_pickG (B := B) hbk.out (h.grown hgr (by omega) (fun g' hg' => by injection hg' with hg'; omega)) hB hx hn hqq (by omega) (by omega)).mono ?_
      rintro e w2 ⟨v2, q2, s2, rfl, hv2, hq2, hb2, hg2⟩
      have hO2 := hide (World.ownsRow.kept hown.out hg2 (own_far hown.out hgs))
      have hgr2 := only_trans hgr hg2
      have hz2 : w.heap.size ≤ w2.heap.size := hgr2.size
      have hvI : (v2 : Int) < M - 1 := hv2
      have hv0I : (0 : Int) ≤ (v2 : Int) := by omega
      clear hg2 hown
      go_wp2_with (at_builtin; refine wpList_append1 rfl (.tmp 15) (.tmp 22) 28 rfl w.heap.size 2 (.int .i64 0) _ 8 info_i64 Try.underlying28 rfl rfl _ _ _ rfl hO2.out rfl rfl (by omega) (by omega) hz2 ?_)
      intro v9 w9 ho9 hb9
      have HO9 := hide (own_pushI ho9)
      have Hb9 : Hid (SrcAt w9 g A n c q2 s2) := hide (Blk.below hb2 hb9 hgs)
      have Hg9 := only_below hgr2 hb9 (Nat.le_refl _)
      have HZ9 : Hid (∀ x ∈ zs ++ [(1 : Int) + (v2 : Int)], 1 ≤ x ∧ x ≤ M - 1) := hide (fun x hx => by
        rcases List.mem_append.1 hx with h1 | h1
        · exact hzs.out x h1
        · rw [List.mem_singleton] at h1; omega)
      have HQ9 : Hid (q2 ≤ q + 1 + (k + 1)) := hide (by have := hq'.out; omega)
      clear ho9 hb9 hb2 hO2 hgr2
      go_wp2
      go_roundw
      case rel => exact ⟨k + 1, i, q2, s2, zs ++ [(1 : Int) + (v2 : Int)], hide (by have := hkj.out; have := Hi.out; omega), by first | rfl | go_num, HQ9, Hb9, HO9, HZ9, Hg9⟩
      case measure => (have := Hi.out; simp [intOf]; omega)
/-- A system that is drawn is valid; the source is further on. -/
def DkR (w w' : World) (g : Nat) (A : Option Addr) (n c q parts : Nat) (v : Value) : Prop := ∃ (A2 : Option Addr) (c2 q' : Nat) (s' : Int) (zs : List Int), v = sysV (parts : Int) A2 zs.length c2 ∧ sysB (parts : Int) zs = true ∧ w'.ownsRow w.heap.size 2 1 (.slice A2 zs.length c2) zs.length (il zs) ∧ q' ≤ q + 6 ∧ SrcAt w' g A n c q' s' ∧ w.grownBy w' (some g)
set_option maxHeartbeats 2000000 in
theorem s_l03DrawOk {A : Option Addr} {n c g B q parts : Nat} {s : Int} {xs : List Int} {w : World} (hb : SrcAt w g A n c q s) (h : Reads w B 1 A n (xs.map (Value.int .u8))) (hB : B ≤ g) (hx : ∀ a ∈ xs, (Lit.int .u8 a).wf = true)
    (hn : n ≤ 1048576) (hq0 : q ≤ 100000) (hp : 1 ≤ parts ∧ parts ≤ 4) :
    Calls Try.prog 61 #[.pointer (some ⟨g, 0, none⟩), .int .i64 (parts : Int)] w fun e w' => ∃ v : Value, e = .returned v ∧ DkR w w' g A n c q parts v := by
  have hgs := hb.lt
  go_enter Try.func61, Try.ntmps61
  go_wp2_with fail
  refine (s_l03DrawSets (B := B) (hb.alloc _) (h.alloc (by omega) _) hB hx hn hq0 hp).mono ?_
  rintro e w1 ⟨v, rfl, N, q', s', zs, ho, hN1, hN5, hzs, hq', hb1, hg1⟩
  obtain ⟨A1, c1, rfl⟩ := own_shape ho
  have hlz : zs.length = N := (Reads.of_own ho).map_len
  have hval := ls_valid (list := zs) (parts := parts) (fun e => by rw [e] at hlz; simp at hlz; omega) hp hzs
  have hpw : (2 : Int) ^ parts ≤ 16 := by
    have : (2 : Nat) ^ parts ≤ 2 ^ 4 := Nat.pow_le_pow_right (by decide) hp.2
    exact_mod_cast this
  have HV := hide hval
  have X1 := (Blk.new w 36 #[.int .i64 0, .slice none 0 0]).grown hg1 (fun e => by injection e with e; omega)
  have hw1 : w.heap.size + 1 ≤ w1.heap.size := by have := hg1.size; simpa using this
  have hgr1 := only_trans (only_alloc (World.grownBy.refl w (some g)) (.cells #[.int .i64 0, .slice none 0 0] 36)) hg1
  clear hval hg1 hb
  go_wp2_with fail
  refine (s_l03Least (Reads.of_own ho) (Nat.le_refl _) (by omega) (fun x hx => by have := hzs x hx; omega)).mono ?_
  rintro e w2 ⟨v2, rfl, ho2, hb2⟩
  obtain ⟨A2, c2, rfl⟩ := own_shape ho2
  have X2 := hide (X1.below hb2 (by omega))
  have HO2 := hide (own_up ho2 (show w.heap.size + 1 ≤ w1.heap.size from hw1))
  have HB2 : Hid (SrcAt w2 g A n c q' s') := hide (Blk.below hb1 hb2 (by omega))
  have hgr2 := only_below hgr1 hb2 (by omega)
  have d0 : w2.cell? ⟨w.heap.size, 0, none⟩ = some (.int .i64 0) := X2.out.cell 0
  have d1 : w2.cell? ⟨w.heap.size, 1, none⟩ = some (.slice none 0 0) := X2.out.cell 1
  have e0 : w2.frozen? ⟨w.heap.size, 0, none⟩ = false := X2.out.frozen 0
  have e1 : w2.frozen? ⟨w.heap.size, 1, none⟩ = false := X2.out.frozen 1
  clear X1 ho ho2 hb1 hb2 hgr1 hzs
  go_wp2
  refine bodyPost_ret (results_cell_row (P := Try.prog) rfl _ _ w.heap.size 36 #[.int .i64 (parts : Int), .slice A2 (lsL zs 1023).length c2] (0, 0) _ rfl ((X2.out.set_ 0 _).set_ 1 _) Try.underlying36 rfl (by kernel_rfl)) rfl ?_
  have hlt : w.heap.size < w.heap.size + 1 := by omega
  exact ⟨_, rfl, A2, c2, q', s', lsL zs 1023, rfl, HV.out, own_up (own_put (own_put HO2.out hlt _) hlt _) (Nat.le_succ _), hq', Blk.far (Blk.far HB2.out (by show g ≠ w.heap.size; omega) _) (by show g ≠ w.heap.size; omega) _, only_setCell (only_setCell hgr2 (.inr (Nat.le_refl _)) _) (.inr (Nat.le_refl _)) _⟩
/-- One of some texts is drawn. -/
def TxR (w w' : World) (g : Nat) (A : Option Addr) (n c q : Nat) (ts : List ByteArray) (v : Value) : Prop := ∃ (t : ByteArray) (q' : Nat) (s' : Int), v = .string t ∧ t ∈ ts ∧ q' ≤ q + 1 ∧ SrcAt w' g A n c q' s' ∧ w.grownBy w' (some g)
set_option maxHeartbeats 1000000 in
theorem s_text {A : Option Addr} {n c g B q bl cl : Nat} {s : Int} {xs : List Int} {ts : List ByteArray} {w : World} (hb : SrcAt w g A n c q s) (h : Reads w B 1 A n (xs.map (Value.int .u8))) (hB : B ≤ g) (hx : ∀ a ∈ xs, (Lit.int .u8 a).wf = true)
    (hn : n ≤ 1048576) (hq : q ≤ 1048576) (hl : Blk w bl 9 (ts.map Value.string).toArray) (hne : bl ≠ g) (h0 : 0 < ts.length) (h1 : ts.length ≤ 200) :
    Calls Try.prog 60 #[.pointer (some ⟨g, 0, none⟩), .slice (some ⟨bl, 0, none⟩) ts.length cl] w fun e w' => ∃ v, e = .returned v ∧ TxR w w' g A n c q ts v := by
  obtain ⟨m, hm⟩ : ∃ m, ts.length = m := ⟨_, rfl⟩
  have Hm := hide hm
  rw [hm] at h0 h1 ⊢
  clear hm
  go_enter Try.func60, Try.ntmps60
  go_wp2_with fail
  refine (s_pickG hb h hB hx hn hq (m := (m : Int)) (by omega) (by omega)).mono ?_
  rintro e w1 ⟨v, q', s', rfl, hv, hq', hb1, hg1⟩
  have hvm : v < m := by omega
  obtain ⟨t, ht⟩ : ∃ t, ts[v]? = some t := ⟨_, List.getElem?_eq_getElem (by rw [Hm.out]; exact hvm)⟩
  have hc : w1.cell? ⟨bl, v, none⟩ = some (.string t) := by
    rw [(Blk.grown hl hg1 (fun e => by injection e with e; exact hne e)).cell v]
    simp [ht]
  have v0 : (0 : Int) ≤ (v : Int) := by omega
  have HT := hide (List.mem_of_getElem? ht)
  clear ht
  go_wp2
  go_ret
  exact ⟨_, rfl, t, q', s', rfl, HT.out, hq', hb1, hg1⟩
end Go.Proofs.Ytjfmjeffmnjilaa

/-
  Systems with signals that are drawn: the reference's walk.
-/
namespace Go.Proofs.Ytjfmjeffmnjilaa
open Go.RowKit Fl Mem
set_option linter.unusedVariables false
set_option maxRecDepth 100000

def names4 : List ByteArray := [⟨#[97]⟩, ⟨#[112, 117, 109, 112]⟩, ⟨#[102, 97, 110]⟩, ⟨#[122, 122]⟩]
theorem names4_ok : ∀ t ∈ names4, nameB t = true := by decide +kernel
theorem of_sig {zs : List Nat} (h : Of qF 33 zs) (h0 : 1 ≤ zs.length) (h1 : zs.length ≤ 96) : isSig zs = true := by
  unfold isSig
  simp only [Bool.and_eq_true, decide_eq_true_iff, List.all_eq_true]
  refine ⟨by omega, fun a ha => ?_⟩
  obtain ⟨k, hk, rfl⟩ := h a ha
  exact (qF_num k hk).2
theorem SvsOwn.far {w w' : World} {b g : Nat} {ss : List Sv} (h : SvsOwn w b ss) (hg : w.grownBy w' (some g)) (hb : g < b) : SvsOwn w' b ss :=
  ⟨fun s hs => ⟨(h.each s hs).paths.kept hg (own_far (h.each s hs).paths hb), (h.each s hs).sig.kept hg (own_far (h.each s hs).sig hb), (h.each s hs).wf, (h.each s hs).wfi, (h.each s hs).wfp⟩, h.apart⟩
theorem SvsOwn.under {w w' : World} {b B : Nat} {ss : List Sv} (h : SvsOwn w b ss) (hb : Below B w w') (hl : ∀ s ∈ ss, SvLt B s) : SvsOwn w' b ss :=
  ⟨fun s hs => (h.each s hs).under hb (hl s hs), h.apart⟩
/-- What is drawn is valid, and lies in rows of its own. -/
def BsR (w w' : World) (v : Value) : Prop := ∃ (ss : List Sv), w'.ownsRow w.heap.size 38 4 v ss.length (svC ss) ∧ SvsOwn w' w.heap.size ss ∧ ss.all svB = true ∧ ss.length ≤ 4 ∧ Below w.heap.size w w'
set_option maxHeartbeats 4000000 in
theorem s_B10Saved {A : Option Addr} {n c : Nat} {xs : List Int} {w : World} (h : Reads w w.heap.size 1 A n (xs.map (Value.int .u8))) (hx : ∀ a ∈ xs, (Lit.int .u8 a).wf = true) (hn : n ≤ 1048576) :
    Calls Try.prog 28 #[.slice A n c] w fun e w' => ∃ v : Value, e = .returned v ∧ BsR w w' v := by
  go_enter Try.func28, Try.ntmps28
  go_wp2_with fail
  refine s_l00From.mono ?_
  rintro e w1 ⟨rfl, rfl⟩
  go_wp2_with fail
  refine (s_pickG (g := w.heap.size) (B := w.heap.size) (q := 0) (s := 0) (xs := xs) ((Blk.new w _ _).alloc _) ((h.alloc (Nat.le_refl _) _).alloc (by simp) _) (Nat.le_refl _) hx hn (by omega) (by omega) (by omega)).mono ?_
  rintro e w2 ⟨N, q2, s2, rfl, hN, hq2, hb2, hg2⟩
  have hN4 : N ≤ 4 := by omega
  have hg2' := only_trans (only_alloc (World.grownBy.refl (w.alloc (.cells #[.slice A n c, .int .i64 0, .int .u64 0] 113)) (some w.heap.size)) (.cells #[] 38)) hg2
  have bel2 : Below w.heap.size w w2 := below_new hg2'
  have hz2 : w.heap.size + 2 ≤ w2.heap.size := by have := hg2.size; simpa using this
  have HO2 : Hid (w2.ownsRow (w.heap.size + 1) 38 4 (.slice (some ⟨w.heap.size + 1, 0, none⟩) 0 0) 0 (svC [])) := hide (by
    have h0 : ((w.alloc (.cells #[.slice A n c, .int .i64 0, .int .u64 0] 113)).alloc (.cells #[] 38)).ownsRow (w.heap.size + 1) 38 4 (.slice (some ⟨w.heap.size + 1, 0, none⟩) 0 0) 0 [] := own_emp (by simp) (Nat.le_refl _)
    exact World.ownsRow.kept h0 hg2 (own_far h0 (by omega)))
  have HB2 := hide hb2
  clear hb2 hg2 hg2'
  go_wp2
  go_loopw [4, 5, 6, 7, 8] (fun v4 v5 _ _ _ wr => ∃ (ss : List Sv) (j q' : Nat) (s' : Int), Hid (ss.length + j = N) ∧ v5 = .int .i64 (j : Int) ∧ Hid (q' ≤ 1 + 200 * ss.length) ∧ Hid (SrcAt wr w.heap.size A n c q' s') ∧ Hid (wr.ownsRow (w.heap.size + 1) 38 4 v4 ss.length (svC ss)) ∧ Hid (SvsOwn wr (w.heap.size + 1) ss) ∧ Hid (ss.all svB = true) ∧ Below w.heap.size w wr ∧ w.heap.size + 2 ≤ wr.heap.size) (fun _ v5 _ _ _ _ => (intOf v5).toNat)
  case atStart => exact ⟨[], N, q2, s2, hide (by simp), rfl, hide (by simpa using hq2), HB2, HO2, hide (SvsOwn.nil _ _), hide rfl, bel2, hz2⟩
  case round =>
    clear HB2 HO2 bel2
    obtain ⟨ss, j, q', s', hsj, rfl, hq', hbk, hown, hss, hall, bel, hzr⟩ := hrel
    by_cases hj : j = 0
    · subst hj
      have gj : ¬ (0 : Int) < ((0 : Nat) : Int) := by omega
      go_wp2
      go_ret
      exact ⟨_, rfl, ss, own_up hown.out (Nat.le_succ _), ⟨fun s hs => (hss.out.each s hs).up (Nat.le_succ _), hss.out.apart⟩, hall.out, by have := hsj.out; omega, bel⟩
    · have gj : (0 : Int) < (j : Int) := by omega
      -- [ROUND
      obtain ⟨i, hi⟩ : ∃ i, j = i + 1 := ⟨j - 1, by omega⟩
      have hs3 : ss.length ≤ 3 := by have := hsj.out; omega
      have hwj : wrap64 ((j : Int) - 1) = (i : Int) := by unfold wrap64; have := hsj.out; omega
      have HJ : Hid (ss.length + 1 + i = N) := hide (by have := hsj.out; omega)
      have Hqs := hide hq'.out
      have Hi := hide hi
      clear hi
      have hqq : q' ≤ 700 := by have := hq'.out; omega
      have hgr : w.heap.size < wr.heap.size := by omega
      have belA := bel.alloc (by omega) (.cells (names4.map Value.string).toArray 9)
      have hownA := hown.out.alloc (.cells (names4.map Value.string).toArray 9)
      have hssA := hss.out.alloc (.cells (names4.map Value.string).toArray 9)
      have Hown := hide hownA
      have Hss := hide hssA
      have Hbel := hide belA
      clear hownA hssA belA
      go_wp2_with fail
      refine (s_text (g := w.heap.size) (B := w.heap.size) (ts := names4) (hbk.out.alloc _) (h.below Hbel.out) (Nat.le_refl _) hx hn (by omega) (Blk.new wr _ _) (by omega) (by decide) (by decide)).mono ?_
      rintro e w3 ⟨v, rfl, t, q3, s3, rfl, ht, hq3, hb3, hg3⟩
      have Ht := hide ht
      have Hb3 := hide hb3
      have hgx : w.heap.size < w3.heap.size := Nat.lt_of_lt_of_le hgr (Nat.le_trans (by simp) hg3.size)
      have hz3 : w.heap.size + 2 ≤ w3.heap.size := Nat.le_trans hzr (Nat.le_trans (by simp) hg3.size)
      have Hown3 := hide (World.ownsRow.kept Hown.out hg3 (own_far Hown.out (Nat.lt_succ_self _)))
      have Hss3 := hide (Hss.out.far hg3 (Nat.lt_succ_self _))
      have Hbel3 := hide (Hbel.out.grown hg3 (by simp; omega) (fun g' hg' => by injection hg' with hg'; omega))
      have Hq3 := hide hq3
      clear Hown Hss Hbel hbk hown hss bel hg3 hb3 ht hq3
      go_wp2_with fail
      -- [B
      obtain ⟨bx, hbx⟩ : ∃ bx, w3.heap.size = bx := ⟨_, rfl⟩
      refine (s_pickG (g := w.heap.size) (B := w.heap.size) (Hb3.out.alloc _) ((h.below Hbel3.out).alloc (by omega) _) (Nat.le_refl _) hx hn (by have := Hq3.out; omega) (by omega) (by omega)).mono ?_
      rintro e w4 ⟨v4, q4, s4, rfl, hv4, hq4, hb4, hg4⟩
      have X4 := (blk_new' w3 bx 38 #[.string t, .int .i64 0, .slice none 0 0, .slice none 0 0] hbx.symm).grown hg4 (fun e => by injection e with e; omega)
      have Hown4 := hide (World.ownsRow.kept (World.ownsRow.alloc Hown3.out _) hg4 (own_far Hown3.out (Nat.lt_succ_self _)))
      have Hss4 := hide ((Hss3.out.alloc _).far hg4 (Nat.lt_succ_self _))
      have Hbel4 := hide ((Hbel3.out.alloc (by omega) _).grown hg4 (by simp; omega) (fun g' hg' => by injection hg' with hg'; omega))
      have hz4 : bx + 1 ≤ w4.heap.size := by have := hg4.size; simp at this; omega
      have Hlt4 := hide Hss3.out.lts
      have HlA := hide (fun k hk => (Hown3.out.lt k hk).2)
      rw [hbx] at Hlt4 HlA
      rw [hbx] at hz3
      obtain ⟨P4, hP4⟩ : ∃ P, v4 + 1 = P := ⟨_, rfl⟩
      have hP4' : 1 ≤ P4 ∧ P4 ≤ 4 := by omega
      have hPI : (1 : Int) + (v4 : Int) = (P4 : Int) := by omega
      have Hq4 := hide (show q4 ≤ q' + 2 by have := Hq3.out; omega)
      have HX4 := hide X4
      have Hb4 := hide hb4
      clear X4 Hown3 Hss3 Hbel3 Hb3 hg4 hb4 hq4 hP4 hv4 Hq3
      go_wp2_with fail
      refine (s_l03DrawOk (g := w.heap.size) (B := w.heap.size) Hb4.out (h.below Hbel4.out) (Nat.le_refl _) hx hn (by have := Hq4.out; omega) hP4').mono ?_
      rintro e w5 ⟨v5, rfl, A2, c2, q5, s5, zs, rfl, hsys, hos, hq5, hb5, hg5⟩
      have hz5 : w4.heap.size ≤ w5.heap.size := hg5.size
      have hs3' := hs3
      have X5 := HX4.out.grown hg5 (fun e => by injection e with e; omega)
      have Hown5 := hide (World.ownsRow.kept Hown4.out hg5 (own_far Hown4.out (Nat.lt_succ_self _)))
      have Hss5 := hide (Hss4.out.far hg5 (Nat.lt_succ_self _))
      have Hbel5 := hide (Hbel4.out.grown hg5 (by omega) (fun g' hg' => by injection hg' with hg'; omega))
      have Hq5 := hide (show q5 ≤ q' + 8 by have := Hq4.out; omega)
      have HX5 := hide X5
      have Hb5 := hide hb5
      have Hos := hide hos
      have Hsys := hide hsys
      have e1 : w5.frozen? ⟨bx, 1, none⟩ = false := X5.frozen 1
      have e2 : w5.frozen? ⟨bx, 2, none⟩ = false := X5.frozen 2
      have d1 : w5.cell? ⟨bx, 1, none⟩ = some (.int .i64 0) := X5.cell 1
      have d2 : w5.cell? ⟨bx, 2, none⟩ = some (.slice none 0 0) := X5.cell 2
      clear X5 Hown4 Hss4 Hbel4 hg5 Hb4 hb5 hq5 Hq4 HX4 hos hsys
      unfold sysV
      go_wp2_with fail
      obtain ⟨w6, hw6⟩ : ∃ w6, (w5.setCell ⟨bx, 1, none⟩ (.int .i64 (P4 : Int))).setCell ⟨bx, 2, none⟩ (.slice A2 zs.length c2) = w6 := ⟨_, rfl⟩
      have HX6 : Hid (Blk w6 bx 38 #[.string t, .int .i64 (P4 : Int), .slice A2 zs.length c2, .slice none 0 0]) := hide (by rw [← hw6]; exact (HX5.out.set_ 1 _).set_ 2 _)
      have bel6 : Below bx w5 w6 := by rw [← hw6]; exact ((Below.refl bx w5).setCell (p := ⟨bx, 1, none⟩) (Nat.le_refl _) _).setCell (p := ⟨bx, 2, none⟩) (Nat.le_refl _) _
      have Hown6 := hide (own_kept_lt Hown5.out bel6 HlA.out)
      have Hss6 := hide (Hss5.out.under bel6 Hlt4.out)
      have Hbel6 := hide (Hbel5.out.trans (bel6.mono (by omega)))
      have Hb6 : Hid (SrcAt w6 w.heap.size A n c q5 s5) := hide (Blk.below Hb5.out bel6 (by omega))
      have Hos6 : Hid (w6.ownsRow w4.heap.size 2 1 (.slice A2 zs.length c2) zs.length (il zs)) := hide (by rw [← hw6]; exact own_put (own_put Hos.out (show bx < w4.heap.size by omega) _) (show bx < w4.heap.size by omega) _)
      have hz6 : w5.heap.size ≤ w6.heap.size := bel6.size
      rw [hw6]
      clear hw6 bel6 Hown5 Hss5 Hbel5 Hb5 Hos HX5 e1 e2 d1 d2
      refine (s_pickG (g := w.heap.size) (B := w.heap.size) Hb6.out (h.below Hbel6.out) (Nat.le_refl _) hx hn (by have := Hq5.out; omega) (by omega) (by omega)).mono ?_
      rintro e w7 ⟨v7, q7, s7, rfl, hv7, hq7, hb7, hg7⟩
      have hz7 : w6.heap.size ≤ w7.heap.size := hg7.size
      have HX7 := hide (HX6.out.grown hg7 (fun e => by injection e with e; omega))
      have Hown7 := hide (World.ownsRow.kept Hown6.out hg7 (own_far Hown6.out (Nat.lt_succ_self _)))
      have Hss7 := hide (Hss6.out.far hg7 (Nat.lt_succ_self _))
      have Hbel7 := hide (Hbel6.out.grown hg7 (by omega) (fun g' hg' => by injection hg' with hg'; omega))
      have Hos7 := hide (World.ownsRow.kept Hos6.out hg7 (own_far Hos6.out (by omega)))
      have Hq7 := hide (show q7 ≤ q' + 9 by have := Hq5.out; omega)
      have Hb7 := hide hb7
      obtain ⟨K7, hK7⟩ : ∃ P, v7 + 1 = P := ⟨_, rfl⟩
      have hK7' : 1 ≤ K7 ∧ K7 ≤ 5 := by omega
      have hKI : (1 : Int) + (v7 : Int) = (K7 : Int) := by omega
      clear HX6 Hown6 Hss6 Hbel6 hg7 Hb6 hb7 hq7 Hq5 hv7 hK7 Hos6
      go_wp2_with fail
      refine (s_l07DrawOkQ (g := w.heap.size) (B := w.heap.size) Hb7.out (h.below Hbel7.out) (Nat.le_refl _) hx hn (by omega) (by have := Hq7.out; omega)).mono ?_
      rintro e w8 ⟨v8, ys, rfl, ho8, hof, ⟨s8, hb8⟩, hg8⟩
      obtain ⟨A3, c3, rfl⟩ := own_shape ho8
      have hly : ys.length = K7 := (Reads.of_own ho8).map_len
      have hz8 : w7.heap.size ≤ w8.heap.size := hg8.size
      have X8 := HX7.out.grown hg8 (fun e => by injection e with e; omega)
      have Hown8 := hide (World.ownsRow.kept Hown7.out hg8 (own_far Hown7.out (Nat.lt_succ_self _)))
      have Hss8 := hide (Hss7.out.far hg8 (Nat.lt_succ_self _))
      have Hbel8 := hide (Hbel7.out.grown hg8 (by omega) (fun g' hg' => by injection hg' with hg'; omega))
      have Hos8 := hide (World.ownsRow.kept Hos7.out hg8 (own_far Hos7.out (by omega)))
      have Hy := hide ho8
      have Hof := hide hof.out
      have Hb8 := hide hb8
      have HX8 := hide X8
      have e3 : w8.frozen? ⟨bx, 3, none⟩ = false := X8.frozen 3
      have d3 : w8.cell? ⟨bx, 3, none⟩ = some (.slice none 0 0) := X8.cell 3
      have d0 : w8.cell? ⟨bx, 0, none⟩ = some (.string t) := X8.cell 0
      have d1 : w8.cell? ⟨bx, 1, none⟩ = some (.int .i64 (P4 : Int)) := X8.cell 1
      have d2 : w8.cell? ⟨bx, 2, none⟩ = some (.slice A2 zs.length c2) := X8.cell 2
      clear X8 Hown7 Hss7 Hbel7 hg8 Hb7 hb8 ho8 hof HX7 Hos7
      obtain ⟨w9, hw9⟩ : ∃ w9, w8.setCell ⟨bx, 3, none⟩ (.slice A3 K7 c3) = w9 := ⟨_, rfl⟩
      have bel9 : Below bx w8 w9 := by rw [← hw9]; exact (Below.refl bx w8).setCell (p := ⟨bx, 3, none⟩) (Nat.le_refl _) _
      obtain ⟨Q, hQ⟩ : ∃ Q : Sv, Q = ⟨t, P4, A2, zs.length, c2, zs, A3, K7, c3, ys⟩ := ⟨_, rfl⟩
      have hv : svB Q = true := by
        rw [hQ]
        show (nameB t && (sysB P4 zs && isSig ys)) = true
        rw [names4_ok t Ht.out, Hsys.out, of_sig Hof.out (by omega) (by omega)]; rfl
      have hbd := svBT_bd (q := svT Q) hv
      have HownQ : SvOwn w9 bx Q := by
        rw [hQ]
        refine ⟨?_, ?_, ?_, ?_, ?_⟩
        · rw [← hw9]; exact own_up (own_put Hos8.out (show bx < w4.heap.size by omega) _) (by omega)
        · rw [← hw9]; exact own_up (own_put Hy.out (show bx < w7.heap.size by omega) _) (by omega)
        · intro a ha
          obtain ⟨k, hk, rfl⟩ := Hof.out a ha
          exact wf_fb _ _ _ _
        · intro a ha
          have := hbd.2.2.2.2.2.2.1 a (by rw [hQ]; exact ha)
          exact wf_small (by omega) (by omega)
        · show (Lit.int .i64 (P4 : Int)).wf = true
          exact wf_small (by omega) (by omega)
      have Hss9 := (Hss8.out.under bel9 Hlt4.out).snoc Hlt4.out HownQ (by omega)
      have Hown9 := own_kept_lt Hown8.out bel9 HlA.out
      have Hbel9 := Hbel8.out.trans (bel9.mono (by omega))
      have Hb9 : SrcAt w9 w.heap.size A n c (q7 + K7) s8 := Blk.below Hb8.out bel9 (by omega)
      have hz9 : w8.heap.size ≤ w9.heap.size := bel9.size
      obtain ⟨Au, cu, rfl⟩ := own_shape Hown9
      have belq := (Hbel9.alloc (by omega) (.cells #[.string t, .int .i64 (P4 : Int), .slice A2 zs.length c2, .slice A3 K7 c3] 38))
      have HOa := hide Hown9
      have HOb := hide (World.ownsRow.alloc Hown9 (.cells #[.string t, .int .i64 (P4 : Int), .slice A2 zs.length c2, .slice A3 K7 c3] 38))
      have HSb := hide (Hss9.alloc (.cells #[.string t, .int .i64 (P4 : Int), .slice A2 zs.length c2, .slice A3 K7 c3] 38))
      have Hbq := hide belq
      have HQ := hide hQ
      have Hv := hide hv
      have Hbb := hide (Blk.alloc Hb9 (.cells #[.string t, .int .i64 (P4 : Int), .slice A2 zs.length c2, .slice A3 K7 c3] 38))
      have Hw9 := hide hw9
      have hlow : w.heap.size + 1 ≤ w9.heap.size := by omega
      have Hlow := hide (fun g hg => (HOb.out.lt g hg).1)
      clear hw9 bel9 hQ hv HownQ Hss9 Hown9 Hbel9 Hb9 belq Hown8 Hss8 Hbel8 Hb8 Hos8 Hy HX8
      go_wp2_with (at_builtin; refine wpList_append4s rfl (.tmp 36) (.tmp 38) 25 rfl (w.heap.size + 1) 38 (.agg #[.string .empty, .int .i64 0, .slice none 0 0, .slice none 0 0]) (.string t) (.int .i64 (P4 : Int)) (.slice A2 zs.length c2) (.slice A3 K7 c3) 72 info_saved Try.underlying25 rfl (w0 := w9) (by rw [Hw9.out]) (.slice Au ss.length cu) ss.length (svC ss) rfl HOa.out (by show Value.slice (some ⟨_, 0, none⟩) 1 1 = _; rw [← Hw9.out]; simp) rfl rfl rfl rfl (by omega) (by omega) hlow ?_)
      intro v2 wz hown2 hg2
      have HO2 : Hid (wz.ownsRow (w.heap.size + 1) 38 4 v2 (ss ++ [Q]).length (svC (ss ++ [Q]))) := hide (by rw [svC_snoc, List.length_append, HQ.out]; exact hown2)
      have HS2 := hide (HSb.out.grownS HOb.out hg2)
      have bel2 := Hbq.out.grown hg2 (by simp; omega) (fun g hg => by have := Hlow.out g hg; omega)
      have HB2 : Hid (SrcAt wz w.heap.size A n c (q7 + K7) s8) := hide (Blk.grown Hbb.out hg2 (fun e => by have := Hlow.out w.heap.size e.symm; omega))
      have HA2 : Hid ((ss ++ [Q]).all svB = true) := hide (by rw [List.all_append, hall.out]; simp [Hv.out])
      have hzz : w.heap.size + 2 ≤ wz.heap.size := by have := hg2.size; simp at this; omega
      clear hown2 hg2 HSb HOa HOb Hbq Hbb d0 d1 d2 d3 e3
      go_wp2
      go_roundw
      case rel => exact ⟨ss ++ [Q], i, q7 + K7, s8, hide (by rw [List.length_append]; exact HJ.out), by first | rfl | go_num, hide (by have := hq'.out; have := Hq7.out; rw [List.length_append]; simp; omega), HB2, HO2, HS2, HA2, bel2, hzz⟩
      case measure => (have := Hi.out; simp [intOf]; omega)
      -- B]
      -- ROUND]
end Go.Proofs.Ytjfmjeffmnjilaa

/-
  What the laws choose by bytes.
-/
namespace Go.Proofs.Ytjfmjeffmnjilaa
open Go.RowKit Fl Mem
set_option linter.unusedVariables false
set_option maxRecDepth 100000

theorem l_b10Long_no {A A' : Option Addr} {n n' c c' : Nat} {w : World} (h : n ≤ 1048576) (h' : n' ≤ 1048576) : Calls Try.prog 27 #[.slice A n c, .slice A' n' c'] w fun e w' => e = .returned (.bool false) ∧ w = w' := by
  have h1 : ¬ (1048576 : Int) < (n : Int) := by omega
  have h2 : decide ((1048576 : Int) < (n : Int)) = false := by simpa using h1
  have h3 : decide ((1048576 : Int) < (n' : Int)) = false := by simp; omega
  clear h h' h1
  go_enter Try.func27, Try.ntmps27
  go_wp2
  go_ret
  exact ⟨rfl, rfl⟩
theorem l_b10Long_yes {A A' : Option Addr} {n n' c c' : Nat} {w : World} (h : 1048576 < n ∨ 1048576 < n') : Calls Try.prog 27 #[.slice A n c, .slice A' n' c'] w fun e w' => e = .returned (.bool true) ∧ w = w' := by
  by_cases h1 : 1048576 < n
  · have h2 : decide ((1048576 : Int) < (n : Int)) = true := by simp; omega
    clear h h1
    go_enter Try.func27, Try.ntmps27
    go_wp2
    go_ret
    exact ⟨rfl, rfl⟩
  · have h2 : decide ((1048576 : Int) < (n : Int)) = false := by simp; omega
    have h3 : decide ((1048576 : Int) < (n' : Int)) = true := by simp; omega
    clear h h1
    go_enter Try.func27, Try.ntmps27
    go_wp2
    go_ret
    exact ⟨rfl, rfl⟩

theorem l_b10At {A : Option Addr} {n c B : Nat} {xs : List Int} {w : World} (h : Reads w B 1 A n (xs.map (Value.int .u8))) (hx : ∀ a ∈ xs, (Lit.int .u8 a).wf = true) (hn : n ≤ 1048576)
    {i N : Int} (hi : 0 ≤ i) (hi2 : i ≤ 100) (hN : 1 ≤ N) (hN2 : N ≤ 1000) :
    Calls Try.prog 29 #[.slice A n c, .int .i64 i, .int .i64 N] w fun e w' => ∃ v : Int, e = .returned (.int .i64 v) ∧ 0 ≤ v ∧ v < N ∧ w = w' := by
  by_cases h1 : N ≤ 1
  · go_enter Try.func29, Try.ntmps29
    go_wp2
    go_ret
    exact ⟨0, rfl, by omega, by omega, rfl⟩
  · by_cases h2 : i < n
    · obtain ⟨q, rfl⟩ := Int.eq_ofNat_of_zero_le hi
      obtain ⟨ad, x, rfl, hab, hc, hx0, hx1⟩ := src_byte h hx (show q < n by omega)
      go_enter Try.func29, Try.ntmps29
      go_wp2
      go_ret
      exact ⟨_, rfl, Int.emod_nonneg _ (by omega), Int.emod_lt_of_pos _ (by omega), rfl⟩
    · go_enter Try.func29, Try.ntmps29
      go_wp2
      go_ret
      exact ⟨_, rfl, Int.emod_nonneg _ (by omega), Int.emod_lt_of_pos _ (by omega), rfl⟩
end Go.Proofs.Ytjfmjeffmnjilaa
