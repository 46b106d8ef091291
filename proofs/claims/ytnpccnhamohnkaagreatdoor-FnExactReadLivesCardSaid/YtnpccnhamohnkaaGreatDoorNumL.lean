/-
  The plain law of texts of numbers that are read.
-/
import Derived.Test.YtnpccnhamohnkaaGreatDoorHexR
import Derived.Test.YtnpccnhamohnkaaGreatDoorText2
namespace Go.Proofs.YtnpccnhamohnkaaGreatDoor
open Go.RowKit Mem Fl
set_option linter.unusedVariables false

theorem dig_low : ∀ i : Fin 16, lowd (hexDig i.val) = some i.val := by decide +kernel
theorem low_dig_tab : ∀ k : Fin 256, (lowd (UInt8.ofNat k.val)).all (fun d => hexDig d == UInt8.ofNat k.val) = true := by decide +kernel
theorem low_dig {c : UInt8} {d : Nat} (h : lowd c = some d) : hexDig d = c := by
  have := low_dig_tab ⟨c.toNat, c.toNat_lt⟩
  have e : UInt8.ofNat c.toNat = c := by simp
  simp only [e, h, Option.all_some, beq_iff_eq] at this
  exact this
theorem hexF_snoc {c : UInt8} : ∀ (l : List UInt8) (acc : Nat), hexF acc (l ++ [c]) = (hexF acc l).bind fun a => (lowd c).bind fun d => some (16 * a + d)
  | [], acc => by
    simp only [List.nil_append, hexF, Option.bind_some]
    cases lowd c <;> rfl
  | b :: l, acc => by
    simp only [List.cons_append, hexF]
    cases lowd b with
    | none => rfl
    | some d => exact hexF_snoc l _
theorem hexF_pad : ∀ (k n : Nat), n < 16 ^ k → hexF 0 (hexPad k n) = some n
  | 0, n, h => by
    have : n = 0 := by simpa using h
    subst this; rfl
  | k + 1, n, h => by
    have h1 := hexF_pad k (n / 16) (by rw [Nat.pow_succ] at h; omega)
    have h2 := dig_low ⟨n % 16, by omega⟩
    simp only at h2
    rw [hexPad, hexF_snoc, h1]
    simp only [Option.bind_some, h2, Option.some.injEq]
    omega
theorem pad_hexF : ∀ (k : Nat) (l : List UInt8) (n : Nat), l.length = k → hexF 0 l = some n → hexPad k n = l ∧ n < 16 ^ k
  | 0, l, n, hl, h => by
    obtain rfl : l = [] := List.length_eq_zero_iff.1 hl
    simp only [hexF, Option.some.injEq] at h
    subst h; exact ⟨rfl, by simp⟩
  | k + 1, l, n, hl, h => by
    have hne : l ≠ [] := fun e => by subst e; cases hl
    obtain ⟨l', c, rfl⟩ : ∃ l' c, l = l' ++ [c] := ⟨l.dropLast, l.getLast hne, (List.dropLast_concat_getLast hne).symm⟩
    rw [hexF_snoc] at h
    cases h1 : hexF 0 l' with
    | none => rw [h1] at h; cases h
    | some a =>
      rw [h1] at h
      simp only [Option.bind_some] at h
      cases h2 : lowd c with
      | none => rw [h2] at h; cases h
      | some d =>
        rw [h2] at h
        simp only [Option.bind_some, Option.some.injEq] at h
        obtain ⟨e1, e2⟩ := pad_hexF k l' a (by simpa using hl) h1
        have hd := lowd_lt h2
        have hc := low_dig h2
        subst h
        refine ⟨?_, by rw [Nat.pow_succ]; omega⟩
        rw [hexPad, show (16 * a + d) / 16 = a by omega, show (16 * a + d) % 16 = d by omega, e1, hc]
theorem hexV_B {n : Nat} (h : n < 4294967296) : hexV (hexB n) = some n := hexF_pad 8 n (by simpa using h)
theorem hexB_V {p : ByteArray} {n : Nat} (hp : p.size = 8) (h : hexV p = some n) : hexB n = p ∧ n < 4294967296 := by
  obtain ⟨h1, h2⟩ := pad_hexF 8 p.data.toList n (by rw [Array.length_toList]; exact hp) h
  refine ⟨ba_ext ?_, h2⟩
  unfold hexB; simpa using h1
/-- The number with a piece of text, if there is one. -/
def readN (p : ByteArray) : Option Nat := if p.size = 8 then (hexV p).bind fun n => if cn .f32 n = n then some n else none else none
theorem readN_iff {p : ByteArray} {n : Nat} : readN p = some n ↔ p.size = 8 ∧ hexV p = some n ∧ cn .f32 n = n := by
  unfold readN
  constructor
  · intro h
    split at h
    · rename_i hp
      cases hv : hexV p with
      | none => rw [hv] at h; cases h
      | some m =>
        rw [hv] at h
        simp only [Option.bind_some] at h
        split at h
        · rename_i hc; injection h with h; subst h; exact ⟨hp, rfl, hc⟩
        · cases h
    · cases h
  · rintro ⟨h1, h2, h3⟩
    rw [if_pos h1, h2]
    simp only [Option.bind_some]
    rw [if_pos h3]
theorem readN_size {p : ByteArray} (h : p.size ≠ 8) : readN p = none := by unfold readN; rw [if_neg h]
def allN : List ByteArray → Option (List Nat)
  | [] => some []
  | p :: ps => (readN p).bind fun n => (allN ps).bind fun l => some (n :: l)
theorem allN_snoc {p : ByteArray} : ∀ ps : List ByteArray, allN (ps ++ [p]) = (allN ps).bind fun l => (readN p).bind fun n => some (l ++ [n])
  | [] => by simp only [List.nil_append, allN]; cases readN p <;> rfl
  | q :: ps => by
    simp only [List.cons_append, allN, allN_snoc ps]
    cases readN q with
    | none => rfl
    | some m =>
      cases allN ps with
      | none => rfl
      | some l => cases readN p <;> rfl
theorem allN_bad {p : ByteArray} : ∀ {ps : List ByteArray}, p ∈ ps → readN p = none → allN ps = none
  | q :: ps, h, hp => by
    simp only [allN]
    rcases List.mem_cons.1 h with rfl | h
    · rw [hp]; rfl
    · rw [allN_bad h hp]; cases readN q <;> rfl
theorem allN_take {ps : List ByteArray} {k n : Nat} {p : ByteArray} {l : List Nat} (h : allN (ps.take k) = some l) (hp : ps[k]? = some p) (hn : readN p = some n) : allN (ps.take (k + 1)) = some (l ++ [n]) := by
  rw [take_eq hp, allN_snoc, h, hn]; rfl
theorem allN_at : ∀ {ps : List ByteArray} {l : List Nat}, allN ps = some l → ps.length = l.length ∧ ∀ (i : Nat) p, ps[i]? = some p → ∃ n, l[i]? = some n ∧ readN p = some n
  | [], l, h => by simp only [allN, Option.some.injEq] at h; subst h; exact ⟨rfl, fun i p h => by cases h⟩
  | q :: ps, l, h => by
    simp only [allN] at h
    cases hq : readN q with
    | none => rw [hq] at h; cases h
    | some m =>
      cases ha : allN ps with
      | none => rw [hq, ha] at h; cases h
      | some r =>
        rw [hq, ha] at h
        simp only [Option.bind_some, Option.some.injEq] at h
        subst h
        obtain ⟨h1, h2⟩ := allN_at ha
        refine ⟨by simp [h1], fun i p hp => ?_⟩
        cases i with
        | zero => simp at hp; subst hp; exact ⟨m, rfl, hq⟩
        | succ i => simpa using h2 i p (by simpa using hp)
def noneB : ByteArray := ⟨#[110, 111, 110, 101]⟩
/-- The numbers with a text, if there are any. -/
def numsV (s : ByteArray) : Option (List Nat) := if s = noneB then some [] else if (splitS s 44).length ≤ 256 then allN (splitS s 44) else none

theorem first_of {m : UInt8} : ∀ d : List UInt8, m ∈ d → ∃ j : Nat, d[j]? = some m ∧ ∀ i : Nat, i < j → d[i]? ≠ some m
  | b :: d, h => by
    by_cases hb : b = m
    · exact ⟨0, by simp [hb], fun i hi => absurd hi (by omega)⟩
    · obtain ⟨j, h1, h2⟩ := first_of d (by
        rcases List.mem_cons.1 h with h | h
        · exact absurd h.symm hb
        · exact h)
      refine ⟨j + 1, by simpa using h1, fun i hi => ?_⟩
      cases i with
      | zero => simpa using hb
      | succ i => simpa using h2 i (by omega)
theorem split_ne (s : ByteArray) (m : UInt8) : splitS s m ≠ [] := by
  intro h
  have := Lib.splitB_all (markB m) (show 1 ≤ (markB m).size from Nat.le_refl 1) 0 _ s rfl
  unfold splitS at h
  rw [h] at this; cases this
theorem join_split (m : UInt8) : ∀ (k : Nat) (s : ByteArray), s.size ≤ k → Lib.join ((splitS s m).map (·.data.toList)) [m] = s.data.toList := by
  intro k
  induction k with
  | zero =>
    intro s hs
    have hl : s.data.toList.length = s.size := Array.length_toList
    have he : s.data.toList = [] := List.length_eq_zero_iff.1 (by omega)
    rw [splitS_miss (by intro i; rw [he]; simp)]
    simp [Lib.join_one]
  | succ k ih =>
    intro s hs
    have hl : s.data.toList.length = s.size := Array.length_toList
    by_cases hm : m ∈ s.data.toList
    · obtain ⟨j, h1, h2⟩ := first_of _ hm
      have hj : j < s.data.toList.length := by
        rcases Nat.lt_or_ge j s.data.toList.length with h | h
        · exact h
        · rw [List.getElem?_eq_none h] at h1; cases h1
      rw [splitS_hit h1 h2]
      have hi := ih (s.extract (j + 1) s.size) (by rw [ByteArray.size_extract]; omega)
      obtain ⟨q, qs, hq⟩ : ∃ q qs, splitS (s.extract (j + 1) s.size) m = q :: qs := by
        cases h : splitS (s.extract (j + 1) s.size) m with
        | nil => exact absurd h (split_ne _ _)
        | cons q qs => exact ⟨q, qs, rfl⟩
      rw [hq] at hi ⊢
      simp only [List.map_cons, Lib.join_cons] at hi ⊢
      have e1 : Lib.joinTail [m] (q.data.toList :: qs.map (·.data.toList)) = [m] ++ (q.data.toList ++ Lib.joinTail [m] (qs.map (·.data.toList))) := by simp [Lib.joinTail]
      rw [e1, hi, Lib.extract_data, Lib.extract_data]
      have e2 : s.data.toList.drop j = m :: s.data.toList.drop (j + 1) := by
        rw [List.drop_eq_getElem_cons hj]
        rw [List.getElem?_eq_getElem hj] at h1
        injection h1 with h1
        rw [h1]
      have e3 : List.take (s.size - (j + 1)) (List.drop (j + 1) s.data.toList) = s.data.toList.drop (j + 1) := List.take_of_length_le (by rw [List.length_drop]; omega)
      rw [e3, List.drop_zero, Nat.sub_zero]
      have := List.take_append_drop j s.data.toList
      rw [e2] at this
      simpa using this
    · rw [splitS_miss (fun i h => hm (List.mem_of_getElem? h))]
      simp [Lib.join_one]
theorem split_join {m : UInt8} : ∀ (l : List ByteArray) (p : ByteArray), (∀ q ∈ p :: l, m ∉ q.data.toList) → splitS ⟨(Lib.join ((p :: l).map (·.data.toList)) [m]).toArray⟩ m = p :: l
  | [], p, h => by
    have e : (⟨(Lib.join ([p].map (·.data.toList)) [m]).toArray⟩ : ByteArray) = p := ba_ext (by simp [Lib.join_one])
    rw [e]
    exact splitS_miss (fun i hi => h p (by simp) (List.mem_of_getElem? hi))
  | q :: l, p, h => by
    have ih := split_join (m := m) l q (fun x hx => h x (List.mem_cons_of_mem _ hx))
    generalize hJ : Lib.join ((q :: l).map (·.data.toList)) [m] = J at ih
    have e : Lib.join ((p :: q :: l).map (·.data.toList)) [m] = p.data.toList ++ m :: J := by
      rw [← hJ]
      simp [Lib.join_cons, Lib.joinTail]
    rw [e]
    have hp := h p (by simp)
    rw [splitS_hit (j := p.data.toList.length) (by simp) (fun i hi => by
      show (p.data.toList ++ m :: J).toArray.toList[i]? ≠ _
      rw [List.toList_toArray, List.getElem?_append_left hi]
      exact fun e => hp (List.mem_of_getElem? e))]
    have e1 : (⟨(p.data.toList ++ m :: J).toArray⟩ : ByteArray).extract 0 p.data.toList.length = p := by
      apply ba_ext
      rw [Lib.extract_data]
      simp
    have hsz : (⟨(p.data.toList ++ m :: J).toArray⟩ : ByteArray).size = p.data.toList.length + (J.length + 1) := by
      show (p.data.toList ++ m :: J).toArray.size = _
      simp
    have e2 : (⟨(p.data.toList ++ m :: J).toArray⟩ : ByteArray).extract (p.data.toList.length + 1) (⟨(p.data.toList ++ m :: J).toArray⟩ : ByteArray).size = ⟨J.toArray⟩ := by
      apply ba_ext
      rw [Lib.extract_data, hsz]
      have e3 : List.drop (p.data.toList.length + 1) (p.data.toList ++ m :: J) = J := by rw [← List.drop_drop, List.drop_left]; rfl
      show List.take _ (List.drop _ (p.data.toList ++ m :: J).toArray.toList) = J.toArray.toList
      rw [List.toList_toArray, e3, List.toList_toArray, List.take_of_length_le (by omega)]
    rw [e1, e2, ih]
theorem hexDig_ne : ∀ i : Fin 16, hexDig i.val ≠ 44 := by decide +kernel
theorem pad_ne : ∀ (k n : Nat), (44 : UInt8) ∉ hexPad k n
  | 0, n => by simp [hexPad]
  | k + 1, n => by
    rw [hexPad]
    intro h
    rcases List.mem_append.1 h with h | h
    · exact pad_ne k _ h
    · rw [List.mem_singleton] at h
      exact hexDig_ne ⟨n % 16, by omega⟩ h.symm
theorem tx_at {xs : List Nat} {i x : Nat} (h : xs[i]? = some x) : (tx xs)[i]? = some (hexB (cn .f32 x)) := by simp [tx, h]
/-- What the program makes out of its pieces is their text if and only if each piece is a number's. -/
theorem nums_law {s : ByteArray} {xs : List Nat} (hlen : xs.length = (splitS s 44).length)
    (hx : ∀ (i : Nat) x p, xs[i]? = some x → (splitS s 44)[i]? = some p → p.size = 8 ∧ x < 4294967296 ∧ ∀ n, hexV p = some n → x = n) :
    match allN (splitS s 44) with
    | some ys => ys = xs ∧ joinedB (tx xs) = s
    | none => joinedB (tx xs) ≠ s := by
  have hne := split_ne s 44
  have hxne : xs ≠ [] := fun e => by subst e; exact hne (List.length_eq_zero_iff.1 hlen.symm)
  have hj : joinedB (tx xs) = ⟨(Lib.join ((tx xs).map (·.data.toList)) [44]).toArray⟩ := by
    unfold joinedB
    rw [if_neg]
    cases xs with
    | nil => exact absurd rfl hxne
    | cons => simp [tx]
  cases ha : allN (splitS s 44) with
  | some ys =>
    obtain ⟨h1, h2⟩ := allN_at ha
    have he : ys = xs := by
      apply List.ext_getElem?
      intro i
      rcases Nat.lt_or_ge i xs.length with hi | hi
      · obtain ⟨p, hp⟩ : ∃ p, (splitS s 44)[i]? = some p := ⟨_, List.getElem?_eq_getElem (by omega)⟩
        obtain ⟨n, hn, hr⟩ := h2 i p hp
        have hxi : xs[i]? = some xs[i] := List.getElem?_eq_getElem hi
        have := (hx i _ p hxi hp).2.2 n (readN_iff.1 hr).2.1
        rw [hn, hxi, this]
      · rw [List.getElem?_eq_none hi, List.getElem?_eq_none (by omega)]
    subst he
    refine ⟨rfl, ?_⟩
    have ht : tx ys = splitS s 44 := by
      apply List.ext_getElem?
      intro i
      rcases Nat.lt_or_ge i ys.length with hi | hi
      · obtain ⟨p, hp⟩ : ∃ p, (splitS s 44)[i]? = some p := ⟨_, List.getElem?_eq_getElem (by omega)⟩
        obtain ⟨n, hn, hr⟩ := h2 i p hp
        obtain ⟨r1, r2, r3⟩ := readN_iff.1 hr
        rw [tx_at hn, hp, r3, (hexB_V r1 r2).1]
      · rw [List.getElem?_eq_none (by rw [tx_len]; omega), List.getElem?_eq_none (by omega)]
    rw [hj, ht]
    apply ba_ext
    rw [List.toList_toArray]
    exact join_split 44 s.size s (Nat.le_refl _)
  | none =>
    intro he
    have hs : splitS s 44 = tx xs := by
      rw [hj] at he
      rw [← he]
      cases xs with
      | nil => exact absurd rfl hxne
      | cons x xs =>
        exact split_join (tx xs) (hexB (cn .f32 x)) (fun q hq => by
          have hq' : q ∈ tx (x :: xs) := hq
          unfold tx at hq'
          obtain ⟨y, _, rfl⟩ := List.mem_map.1 hq'
          show (44 : UInt8) ∉ (hexPad 8 (cn .f32 y)).toArray.toList
          rw [List.toList_toArray]
          exact pad_ne 8 _)
    have hall : allN (tx xs) = some xs := by
      have hx' : ∀ x ∈ xs, readN (hexB (cn .f32 x)) = some x := fun x hxm => by
        obtain ⟨i, hi⟩ := List.mem_iff_getElem?.1 hxm
        have ht := tx_at hi
        rw [← hs] at ht
        obtain ⟨g1, g2, g3⟩ := hx i x _ hi ht
        have hc : cn .f32 x < 4294967296 := by
          unfold cn
          split
          · decide +kernel
          · exact g2
        have := g3 _ (hexV_B hc)
        exact readN_iff.2 ⟨hexB_size _, by rw [hexV_B hc, ← this], this.symm⟩
      clear hs ha he hj hxne hne hx hlen
      induction xs with
      | nil => rfl
      | cons x xs ih =>
        show allN (hexB (cn .f32 x) :: tx xs) = _
        simp only [allN]
        rw [hx' x (by simp), ih (fun y hy => hx' y (List.mem_cons_of_mem _ hy))]
        rfl
    rw [hs, hall] at ha
    cases ha
end Go.Proofs.YtnpccnhamohnkaaGreatDoor
