/-
  Decimal texts are read: the plain law, and both sides' ReadDecimal.
-/
import Derived.Test.YtnpccnhamohnkaaGreatDoorRecI
import Derived.Test.YtnpccnhamohnkaaGreatDoorLayParseInt
import Derived.Lib.ParseIntBTie
import Derived.Lib.AtoiTie
namespace Go.Proofs.YtnpccnhamohnkaaGreatDoor
open Go.RowKit Mem Go.Shelf
set_option linter.unusedVariables false
set_option maxRecDepth 100000

theorem dig_of (k : Nat) (h : k < 10) : (UInt8.ofNat (48 + k)).toNat = 48 + k := by simp [UInt8.toNat_ofNat']; omega
theorem digitVal_of (k : Nat) (h : k < 10) : Lib.digitVal (UInt8.ofNat (48 + k)) = some k := by
  unfold Lib.digitVal
  rw [dig_of k h, if_pos (by omega)]; congr 1; omega
theorem decFrom_digits (u : Nat) : Lib.decFrom 0 (Lib.decDigits u) = some u := by
  induction u using Nat.strongRecOn with
  | _ u ih =>
    by_cases h : u < 10
    · rw [Lib.decDigits_one h]
      have := digitVal_of u h
      simp only [Lib.decFrom, this]; congr 1; omega
    · rw [decDigits_split u h]
      have h1 := ih (u / 10) (by omega)
      have h2 := digitVal_of (u % 10) (by omega)
      have := Lib.decFrom_take (Lib.decDigits (u / 10) ++ [UInt8.ofNat (48 + u % 10)]) (Lib.decDigits (u / 10)).length 0 (u / 10) (UInt8.ofNat (48 + u % 10)) (u % 10) (by simpa using h1) (by simp) h2
      rw [List.take_of_length_le (by simp)] at this
      rw [this]; congr 1; omega
theorem dec_head (u : Nat) : ∀ b ∈ Lib.decDigits u, 48 ≤ b.toNat ∧ b.toNat ≤ 57 := by
  induction u using Nat.strongRecOn with
  | _ u ih =>
    intro b hb
    by_cases h : u < 10
    · rw [Lib.decDigits_one h] at hb
      rw [List.mem_singleton] at hb; subst hb
      rw [dig_of u h]; omega
    · rw [decDigits_split u h] at hb
      rcases List.mem_append.1 hb with hb | hb
      · exact ih (u / 10) (by omega) b hb
      · rw [List.mem_singleton] at hb; subst hb
        rw [dig_of _ (by omega)]; omega
theorem nDig_le {u k : Nat} (h : u < 10 ^ (k + 1)) : Lib.nDigits u ≤ k + 1 := by
  induction k generalizing u with
  | zero => rw [Lib.nDigits_small (by simpa using h)]; omega
  | succ k ih =>
    by_cases hs : u < 10
    · rw [Lib.nDigits_small hs]; omega
    · rw [Lib.nDigits_big hs]
      have := ih (u := u / 10) (by rw [Nat.pow_succ] at h; omega)
      omega
theorem atoi_itoa (n : Int) : Lib.atoi (Lib.itoa n) = some n := by
  rw [itoa_of]
  have hd := decFrom_digits n.natAbs
  have hn := dec_pos n.natAbs
  have hdn : Lib.decNat (Lib.decDigits n.natAbs) = some n.natAbs := by
    unfold Lib.decNat; rw [if_neg (by simpa using hn), hd]
  split
  · rename_i h
    simp [Lib.atoi, hdn]; omega
  · rename_i h
    obtain ⟨b, r, hbr⟩ : ∃ b r, Lib.decDigits n.natAbs = b :: r := by
      cases hc : Lib.decDigits n.natAbs with
      | nil => exact absurd hc hn
      | cons b r => exact ⟨b, r, rfl⟩
    have hb := dec_head n.natAbs b (by rw [hbr]; simp)
    rw [hbr] at hdn ⊢
    have e3 : b ≠ 43 := by rintro rfl; exact absurd hb.1 (by decide)
    have e4 : b ≠ 45 := by rintro rfl; exact absurd hb.1 (by decide)
    simp [Lib.atoi, hdn, e3, e4]; omega
theorem itoa_len {n : Int} (h : n.natAbs ≤ 1000000000000000) : 1 ≤ (Lib.itoa n).length ∧ (Lib.itoa n).length ≤ 17 := by
  have h1 := nDig_le (u := n.natAbs) (k := 15) (by omega)
  have h2 := Lib.nDigits_pos n.natAbs
  rw [itoa_of]
  split <;> simp only [List.length_cons, Lib.decDigits_length] <;> omega
theorem parse_itoa {n : Int} (h : n.natAbs ≤ 1000000000000000) : Lib.parseIntB 64 (Lib.itoa n) = .ok n := by
  rw [Lib.parseIntB_64, Lib.atoiAll_short _ (by have := itoa_len h; omega), atoi_itoa]; rfl
def digN (acc : Nat) (l : List UInt8) : Nat := l.foldl (fun a b => if 48 ≤ b.toNat ∧ b.toNat ≤ 57 then 10 * a + (b.toNat - 48) else a) acc
theorem digN_of : ∀ (l : List UInt8) (acc n : Nat), Lib.decFrom acc l = some n → digN acc l = n
  | [], acc, n, h => by simp [Lib.decFrom] at h; exact h
  | b :: l, acc, n, h => by
    simp only [Lib.decFrom] at h
    unfold digN
    rw [List.foldl_cons]
    unfold Lib.digitVal at h
    split at h
    · rename_i hx; split at hx
      · rename_i d hd
        injection hx with hx
        have := digN_of l _ n h
        rw [if_pos hd]
        unfold digN at this
        rw [← this, ← hx]; congr 1; omega
      · cases hx
    · cases h
theorem digN_lt : ∀ (l : List UInt8) (acc : Nat), digN acc l < (acc + 1) * 10 ^ l.length
  | [], acc => by simp [digN]
  | b :: l, acc => by
    unfold digN
    rw [List.foldl_cons, List.length_cons, Nat.pow_succ]
    have ih := digN_lt l
    unfold digN at ih
    split
    · have := ih (10 * acc + (b.toNat - 48))
      have h2 : (10 * acc + (b.toNat - 48) + 1) * 10 ^ l.length ≤ ((acc + 1) * 10) * 10 ^ l.length := Nat.mul_le_mul_right _ (by omega)
      rw [show (acc + 1) * (10 ^ l.length * 10) = ((acc + 1) * 10) * 10 ^ l.length by rw [Nat.mul_assoc, Nat.mul_comm 10]]
      omega
    · have := ih acc
      have h2 : (acc + 1) * 10 ^ l.length ≤ (acc + 1) * (10 ^ l.length * 10) := Nat.mul_le_mul_left _ (by omega)
      omega
def sgnV (s : ByteArray) : Int := if s.data.toList.head? = some 45 then -(digN 0 s.data.toList : Int) else (digN 0 s.data.toList : Int)
theorem sgn_itoa (n : Int) : sgnV (numS n) = n := by
  have hd := digN_of _ _ _ (decFrom_digits n.natAbs)
  have e : (numS n).data.toList = Lib.itoa n := rfl
  unfold sgnV
  rw [e, itoa_of]
  by_cases h : n < 0
  · rw [if_pos h]
    have : digN 0 (45 :: Lib.decDigits n.natAbs) = n.natAbs := by
      unfold digN; rw [List.foldl_cons]; unfold digN at hd; exact hd
    rw [this]; simp; omega
  · rw [if_neg h, hd]
    have : (Lib.decDigits n.natAbs).head? ≠ some 45 := by
      intro hh
      have hm := List.mem_of_mem_head? (by rw [hh]; rfl)
      have := dec_head n.natAbs 45 hm
      simp at this
    rw [if_neg this]; omega
/-- The number with a decimal text, if there is one. -/
def valV (s : ByteArray) : Option Int := if (sgnV s).natAbs ≤ 1000000000000000 ∧ numS (sgnV s) = s then some (sgnV s) else none
theorem valV_iff {s : ByteArray} {n : Int} : valV s = some n ↔ n.natAbs ≤ 1000000000000000 ∧ numS n = s := by
  unfold valV
  constructor
  · intro h
    split at h
    · rename_i hh; injection h with h; subst h; exact hh
    · cases h
  · rintro ⟨h1, rfl⟩
    rw [sgn_itoa, if_pos ⟨h1, rfl⟩]

theorem valV_len {s : ByteArray} {n : Int} (h : valV s = some n) : 1 ≤ s.size ∧ s.size ≤ 17 := by
  obtain ⟨h1, rfl⟩ := valV_iff.1 h
  have := itoa_len h1
  show 1 ≤ (Lib.itoa n).toArray.size ∧ (Lib.itoa n).toArray.size ≤ 17
  rw [List.size_toArray]; exact this
theorem valV_no {s : ByteArray} (h : ∀ n : Int, n.natAbs ≤ 1000000000000000 → numS n ≠ s) : valV s = none := by
  cases hv : valV s with
  | none => rfl
  | some n => obtain ⟨h1, h2⟩ := valV_iff.1 hv; exact absurd h2 (h n h1)
/-- What a number's text is read as. -/
def rdV (s : ByteArray) : Value := .tuple #[.int .i64 ((valV s).getD 0), .bool (valV s).isSome]
theorem rdV_some {s : ByteArray} {n : Int} (h : valV s = some n) : rdV s = .tuple #[.int .i64 n, .bool true] := by unfold rdV; rw [h]; rfl
theorem rdV_none {s : ByteArray} (h : valV s = none) : rdV s = .tuple #[.int .i64 0, .bool false] := by unfold rdV; rw [h]; rfl

/-- The library's two errors lie in their variables. -/
def Errs (w : World) : Prop := (∃ te pe, w.cell? ⟨5, 0, none⟩ = some (.iface te pe)) ∧ (∃ te pe, w.cell? ⟨6, 0, none⟩ = some (.iface te pe))
theorem Errs.below {w w' : World} (h : Errs w) (hb : Below w.heap.size w w') : Errs w' := by
  obtain ⟨⟨a, b, h1⟩, c, d, h2⟩ := h
  exact ⟨⟨a, b, (hb.cell (p := ⟨5, 0, none⟩) (Go.Clock.block_lt h1)).trans h1⟩, c, d, (hb.cell (p := ⟨6, 0, none⟩) (Go.Clock.block_lt h2)).trans h2⟩
theorem below_bytes {w w' : World} {e : TypeId} (h : w' = w ∨ ∃ t, w' = Lib.bytesWorld w e t) : Below w.heap.size w w' := by
  rcases h with rfl | ⟨t, rfl⟩
  · exact Below.refl _ _
  · exact Lib.bytesWorld_below _ _ _
/-- How the program's parse ends. -/
theorem parse_calls {s : ByteArray} {w : World} (hs : s.size ≤ 1048576) (he : Errs w) :
    Calls Tryz.prog 166 #[.string s, .int .i64 10, .int .i64 64] w fun e w' => Below w.heap.size w w' ∧
      ((∃ v, Lib.parseIntB 64 s.data.toList = .ok v ∧ e = .returned (.tuple #[.int .i64 v, .nilIface])) ∨
       (∃ v te pe, (∀ n, Lib.parseIntB 64 s.data.toList ≠ .ok n) ∧ e = .returned (.tuple #[.int .i64 v, .iface te pe]))) := by
  obtain ⟨⟨a, b, h1⟩, c, d, h2⟩ := he
  cases h : Lib.parseIntB 64 s.data.toList with
  | ok v =>
    refine (Any.strconv_ParseInt_10_at64_ok laysParseInt s (by omega) v h w).mono ?_
    rintro e w' ⟨rfl, hb⟩
    exact ⟨below_bytes hb, .inl ⟨v, rfl, rfl⟩⟩
  | «syntax» =>
    refine (Any.strconv_ParseInt_10_at64_syntax laysParseInt s (by omega) h _ w h1 (Or.inr ⟨_, _, rfl⟩)).mono ?_
    rintro e w' ⟨N, rfl, _, _, hb⟩
    exact ⟨hb, .inr ⟨_, _, _, (fun n hn => by cases hn), rfl⟩⟩
  | range =>
    refine (Any.strconv_ParseInt_10_at64_range laysParseInt s (by omega) h _ w h2 (Or.inr ⟨_, _, rfl⟩)).mono ?_
    rintro e w' ⟨N, rfl, _, _, hb⟩
    exact ⟨hb, .inr ⟨_, _, _, (fun n hn => by cases hn), rfl⟩⟩
theorem i_isValue {n : Int} {w : World} : Calls Tryz.prog 145 #[.int .i64 n] w fun e w' => e = .returned (.bool (inB n (-1000000000000000) 1000000000000000)) ∧ w' = w := by
  go_enter Tryz.func145, Tryz.ntmps145
  go_wp2_with fail
  refine (i_within _ _ _ _).mono ?_
  rintro e w' ⟨rfl, rfl⟩
  go_wp2
  go_ret
  exact ⟨rfl, rfl⟩
set_option maxHeartbeats 1000000 in
theorem i_ReadDecimal {s : ByteArray} {w : World} (hs : s.size ≤ 1048576) (he : Errs w) (htab : Lib.TabIs Tryz.prog w "internal/strconv.uint64pow10" .u64 Lib.pow10Tab) :
    Calls Tryz.prog 104 #[.string s] w fun e w' => e = .returned (rdV s) ∧ Below w.heap.size w w' := by
  go_enter Tryz.func104, Tryz.ntmps104
  go_wp2_with fail
  refine (parse_calls hs he).mono ?_
  rintro e w1 ⟨hb1, ⟨v, hv, rfl⟩ | ⟨v, te, pe, hv, rfl⟩⟩
  · have hbd := Lib.parseIntB_bounds hv
    have hvb : -9223372036854775808 ≤ v ∧ v ≤ 9223372036854775807 := by have := hbd.1; have := hbd.2; simp at *; omega
    clear hbd
    cases hin : inB v (-1000000000000000) 1000000000000000 with
    | false =>
      have HR := hide (rdV_none (s := s) (valV_no (fun n hn hns => by
        subst hns
        have h1 := parse_itoa hn
        rw [show (numS n).data.toList = Lib.itoa n from rfl, h1] at hv
        injection hv with hv; subst hv
        unfold inB at hin; simp at hin; omega)))
      clear hv
      go_wp2_with fail
      refine i_isValue.mono ?_
      rintro e w2 ⟨rfl, rfl⟩
      rw [hin]
      go_wp2
      go_ret2
      exact ⟨by rw [HR.out]; rfl, hb1⟩
    | true =>
      have hva : v.natAbs ≤ 1000000000000000 := by unfold inB at hin; simp at hin; omega
      go_wp2_with fail
      refine i_isValue.mono ?_
      rintro e w2 ⟨rfl, rfl⟩
      rw [hin]
      go_wp2_with fail
      refine (i_DecimalA hvb.1 hvb.2 (pow_kept htab hb1)).mono ?_
      rintro e w3 ⟨rfl, hb3⟩
      replace hb1 := hb1.trans (hb3.mono hb1.size)
      clear hb3
      by_cases hq : numS v = s
      · have HR := hide (rdV_some (valV_iff.2 ⟨hva, hq⟩))
        have hs1 : (!(numS v).toList == s.toList) = false := by rw [str_ne, decide_eq_true hq]; rfl
        clear hv hq
        go_wp2
        go_ret2
        exact ⟨by rw [HR.out]; rfl, hb1⟩
      · have HR := hide (rdV_none (s := s) (valV_no (fun n hn hns => by
          subst hns
          have h1 := parse_itoa hn
          rw [show (numS n).data.toList = Lib.itoa n from rfl, h1] at hv
          injection hv with hv; subst hv
          exact hq rfl)))
        have hs1 : (!(numS v).toList == s.toList) = true := by rw [str_ne, decide_eq_false hq]; rfl
        clear hv hq
        go_wp2
        go_ret2
        exact ⟨by rw [HR.out]; rfl, hb1⟩
  · have HR := hide (rdV_none (s := s) (valV_no (fun n hn hns => by
      subst hns
      exact hv n (parse_itoa hn))))
    clear hv
    go_wp2
    go_ret2
    exact ⟨by rw [HR.out]; rfl, hb1⟩
end Go.Proofs.YtnpccnhamohnkaaGreatDoor
