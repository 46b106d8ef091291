/-
  The plain law of texts of numbers that are read.
-/
import Derived.Test.YtjmpldcnhjgpkaaGreatDoorHexR
import Derived.Test.YtjmpldcnhjgpkaaGreatDoorLtT
import Derived.Test.YtjmpldcnhjgpkaaGreatDoorReadP
import Derived.Maps.AppendAt
namespace Go.Proofs.YtjmpldcnhjgpkaaGreatDoor
open Go.RowKit Mem Fl
set_option linter.unusedVariables false

theorem dig_low : ∀ i : Fin 16, lowd (hexDig i.val) = some i.val := by decide +kernel
theorem low_dig_tab : ∀ k : Fin 256, (lowd (UInt8.ofNat k.val)).all (fun d => hexDig d == UInt8.ofNat k.val) = true := by decide +kernel
theorem low_dig {c : UInt8} {d : Nat} (h : lowd c = some d) : hexDig d = c := by
  have := low_dig_tab ⟨c.toNat, c.toNat_lt⟩
  have e : UInt8.ofNat c.toNat = c := by simp
  simp only [e, h, Option.all_some, beq_iff_eq] at this
  exact this
theorem hexF_snoc {c : UInt8} : ∀ (l : List UInt8) (acc : Nat), hexF acc (l ++ [c]) = (hexF acc l).bind fun a => (lowd c).bind fun d => some (16 * a + d)
  | [], acc => by
    simp only [List.nil_append, hexF, Option.bind_some]
    cases lowd c <;> rfl
  | b :: l, acc => by
    simp only [List.cons_append, hexF]
    cases lowd b with
    | none => rfl
    | some d => exact hexF_snoc l _
theorem hexF_pad : ∀ (k n : Nat), n < 16 ^ k → hexF 0 (hexPad k n) = some n
  | 0, n, h => by
    have : n = 0 := by simpa using h
    subst this; rfl
  | k + 1, n, h => by
    have h1 := hexF_pad k (n / 16) (by rw [Nat.pow_succ] at h; omega)
    have h2 := dig_low ⟨n % 16, by omega⟩
    simp only at h2
    rw [hexPad, hexF_snoc, h1]
    simp only [Option.bind_some, h2, Option.some.injEq]
    omega
theorem pad_hexF : ∀ (k : Nat) (l : List UInt8) (n : Nat), l.length = k → hexF 0 l = some n → hexPad k n = l ∧ n < 16 ^ k
  | 0, l, n, hl, h => by
    obtain rfl : l = [] := List.length_eq_zero_iff.1 hl
    simp only [hexF, Option.some.injEq] at h
    subst h; exact ⟨rfl, by simp⟩
  | k + 1, l, n, hl, h => by
    have hne : l ≠ [] := fun e => by subst e; cases hl
    obtain ⟨l', c, rfl⟩ : ∃ l' c, l = l' ++ [c] := ⟨l.dropLast, l.getLast hne, (List.dropLast_concat_getLast hne).symm⟩
    rw [hexF_snoc] at h
    cases h1 : hexF 0 l' with
    | none => rw [h1] at h; cases h
    | some a =>
      rw [h1] at h
      simp only [Option.bind_some] at h
      cases h2 : lowd c with
      | none => rw [h2] at h; cases h
      | some d =>
        rw [h2] at h
        simp only [Option.bind_some, Option.some.injEq] at h
        obtain ⟨e1, e2⟩ := pad_hexF k l' a (by simpa using hl) h1
        have hd := lowd_lt h2
        have hc := low_dig h2
        subst h
        refine ⟨?_, by rw [Nat.pow_succ]; omega⟩
        rw [hexPad, show (16 * a + d) / 16 = a by omega, show (16 * a + d) % 16 = d by omega, e1, hc]
theorem hexV_B {n : Nat} (h : n < 4294967296) : hexV (hexB n) = some n := hexF_pad 8 n (by simpa using h)
theorem hexB_V {p : ByteArray} {n : Nat} (hp : p.size = 8) (h : hexV p = some n) : hexB n = p ∧ n < 4294967296 := by
  obtain ⟨h1, h2⟩ := pad_hexF 8 p.data.toList n (by rw [Array.length_toList]; exact hp) h
  refine ⟨ba_ext ?_, h2⟩
  unfold hexB; simpa using h1
/-- The number with a piece of text, if there is one. -/
def readN (p : ByteArray) : Option Nat := if p.size = 8 then (hexV p).bind fun n => if cn .f32 n = n then some n else none else none
theorem readN_iff {p : ByteArray} {n : Nat} : readN p = some n ↔ p.size = 8 ∧ hexV p = some n ∧ cn .f32 n = n := by
  unfold readN
  constructor
  · intro h
    split at h
    · rename_i hp
      cases hv : hexV p with
      | none => rw [hv] at h; cases h
      | some m =>
        rw [hv] at h
        simp only [Option.bind_some] at h
        split at h
        · rename_i hc; injection h with h; subst h; exact ⟨hp, rfl, hc⟩
        · cases h
    · cases h
  · rintro ⟨h1, h2, h3⟩
    rw [if_pos h1, h2]
    simp only [Option.bind_some]
    rw [if_pos h3]
theorem readN_size {p : ByteArray} (h : p.size ≠ 8) : readN p = none := by unfold readN; rw [if_neg h]
def allN : List ByteArray → Option (List Nat)
  | [] => some []
  | p :: ps => (readN p).bind fun n => (allN ps).bind fun l => some (n :: l)
theorem allN_snoc {p : ByteArray} : ∀ ps : List ByteArray, allN (ps ++ [p]) = (allN ps).bind fun l => (readN p).bind fun n => some (l ++ [n])
  | [] => by simp only [List.nil_append, allN]; cases readN p <;> rfl
  | q :: ps => by
    simp only [List.cons_append, allN, allN_snoc ps]
    cases readN q with
    | none => rfl
    | some m =>
      cases allN ps with
      | none => rfl
      | some l => cases readN p <;> rfl
theorem allN_bad {p : ByteArray} : ∀ {ps : List ByteArray}, p ∈ ps → readN p = none → allN ps = none
  | q :: ps, h, hp => by
    simp only [allN]
    rcases List.mem_cons.1 h with rfl | h
    · rw [hp]; rfl
    · rw [allN_bad h hp]; cases readN q <;> rfl
theorem allN_take {ps : List ByteArray} {k n : Nat} {p : ByteArray} {l : List Nat} (h : allN (ps.take k) = some l) (hp : ps[k]? = some p) (hn : readN p = some n) : allN (ps.take (k + 1)) = some (l ++ [n]) := by
  rw [take_eq hp, allN_snoc, h, hn]; rfl
theorem allN_at : ∀ {ps : List ByteArray} {l : List Nat}, allN ps = some l → ps.length = l.length ∧ ∀ (i : Nat) p, ps[i]? = some p → ∃ n, l[i]? = some n ∧ readN p = some n
  | [], l, h => by simp only [allN, Option.some.injEq] at h; subst h; exact ⟨rfl, fun i p h => by cases h⟩
  | q :: ps, l, h => by
    simp only [allN] at h
    cases hq : readN q with
    | none => rw [hq] at h; cases h
    | some m =>
      cases ha : allN ps with
      | none => rw [hq, ha] at h; cases h
      | some r =>
        rw [hq, ha] at h
        simp only [Option.bind_some, Option.some.injEq] at h
        subst h
        obtain ⟨h1, h2⟩ := allN_at ha
        refine ⟨by simp [h1], fun i p hp => ?_⟩
        cases i with
        | zero => simp at hp; subst hp; exact ⟨m, rfl, hq⟩
        | succ i => simpa using h2 i p (by simpa using hp)
def noneB : ByteArray := ⟨#[110, 111, 110, 101]⟩
/-- The numbers with a text, if there are any. -/
def numsV (s : ByteArray) : Option (List Nat) := if s = noneB then some [] else if (splitS s 44).length ≤ 256 then allN (splitS s 44) else none

theorem first_of {m : UInt8} : ∀ d : List UInt8, m ∈ d → ∃ j : Nat, d[j]? = some m ∧ ∀ i : Nat, i < j → d[i]? ≠ some m
  | b :: d, h => by
    by_cases hb : b = m
    · exact ⟨0, by simp [hb], fun i hi => absurd hi (by omega)⟩
    · obtain ⟨j, h1, h2⟩ := first_of d (by
        rcases List.mem_cons.1 h with h | h
        · exact absurd h.symm hb
        · exact h)
      refine ⟨j + 1, by simpa using h1, fun i hi => ?_⟩
      cases i with
      | zero => simpa using hb
      | succ i => simpa using h2 i (by omega)
theorem split_ne (s : ByteArray) (m : UInt8) : splitS s m ≠ [] := by
  intro h
  have := Lib.splitB_all (markB m) (show 1 ≤ (markB m).size from Nat.le_refl 1) 0 _ s rfl
  unfold splitS at h
  rw [h] at this; cases this
theorem join_split (m : UInt8) : ∀ (k : Nat) (s : ByteArray), s.size ≤ k → Lib.join ((splitS s m).map (·.data.toList)) [m] = s.data.toList := by
  intro k
  induction k with
  | zero =>
    intro s hs
    have hl : s.data.toList.length = s.size := Array.length_toList
    have he : s.data.toList = [] := List.length_eq_zero_iff.1 (by omega)
    rw [splitS_miss (by intro i; rw [he]; simp)]
    simp [Lib.join_one]
  | succ k ih =>
    intro s hs
    have hl : s.data.toList.length = s.size := Array.length_toList
    by_cases hm : m ∈ s.data.toList
    · obtain ⟨j, h1, h2⟩ := first_of _ hm
      have hj : j < s.data.toList.length := by
        rcases Nat.lt_or_ge j s.data.toList.length with h | h
        · exact h
        · rw [List.getElem?_eq_none h] at h1; cases h1
      rw [splitS_hit h1 h2]
      have hi := ih (s.extract (j + 1) s.size) (by rw [ByteArray.size_extract]; omega)
      obtain ⟨q, qs, hq⟩ : ∃ q qs, splitS (s.extract (j + 1) s.size) m = q :: qs := by
        cases h : splitS (s.extract (j + 1) s.size) m with
        | nil => exact absurd h (split_ne _ _)
        | cons q qs => exact ⟨q, qs, rfl⟩
      rw [hq] at hi ⊢
      simp only [List.map_cons, Lib.join_cons] at hi ⊢
      have e1 : Lib.joinTail [m] (q.data.toList :: qs.map (·.data.toList)) = [m] ++ (q.data.toList ++ Lib.joinTail [m] (qs.map (·.data.toList))) := by simp [Lib.joinTail]
      rw [e1, hi, Lib.extract_data, Lib.extract_data]
      have e2 : s.data.toList.drop j = m :: s.data.toList.drop (j + 1) := by
        rw [List.drop_eq_getElem_cons hj]
        rw [List.getElem?_eq_getElem hj] at h1
        injection h1 with h1
        rw [h1]
      have e3 : List.take (s.size - (j + 1)) (List.drop (j + 1) s.data.toList) = s.data.toList.drop (j + 1) := List.take_of_length_le (by rw [List.length_drop]; omega)
      rw [e3, List.drop_zero, Nat.sub_zero]
      have := List.take_append_drop j s.data.toList
      rw [e2] at this
      simpa using this
    · rw [splitS_miss (fun i h => hm (List.mem_of_getElem? h))]
      simp [Lib.join_one]
theorem split_join {m : UInt8} : ∀ (l : List ByteArray) (p : ByteArray), (∀ q ∈ p :: l, m ∉ q.data.toList) → splitS ⟨(Lib.join ((p :: l).map (·.data.toList)) [m]).toArray⟩ m = p :: l
  | [], p, h => by
    have e : (⟨(Lib.join ([p].map (·.data.toList)) [m]).toArray⟩ : ByteArray) = p := ba_ext (by simp [Lib.join_one])
    rw [e]
    exact splitS_miss (fun i hi => h p (by simp) (List.mem_of_getElem? hi))
  | q :: l, p, h => by
    have ih := split_join (m := m) l q (fun x hx => h x (List.mem_cons_of_mem _ hx))
    generalize hJ : Lib.join ((q :: l).map (·.data.toList)) [m] = J at ih
    have e : Lib.join ((p :: q :: l).map (·.data.toList)) [m] = p.data.toList ++ m :: J := by
      rw [← hJ]
      simp [Lib.join_cons, Lib.joinTail]
    rw [e]
    have hp := h p (by simp)
    rw [splitS_hit (j := p.data.toList.length) (by simp) (fun i hi => by
      show (p.data.toList ++ m :: J).toArray.toList[i]? ≠ _
      rw [List.toList_toArray, List.getElem?_append_left hi]
      exact fun e => hp (List.mem_of_getElem? e))]
    have e1 : (⟨(p.data.toList ++ m :: J).toArray⟩ : ByteArray).extract 0 p.data.toList.length = p := by
      apply ba_ext
      rw [Lib.extract_data]
      simp
    have hsz : (⟨(p.data.toList ++ m :: J).toArray⟩ : ByteArray).size = p.data.toList.length + (J.length + 1) := by
      show (p.data.toList ++ m :: J).toArray.size = _
      simp
    have e2 : (⟨(p.data.toList ++ m :: J).toArray⟩ : ByteArray).extract (p.data.toList.length + 1) (⟨(p.data.toList ++ m :: J).toArray⟩ : ByteArray).size = ⟨J.toArray⟩ := by
      apply ba_ext
      rw [Lib.extract_data, hsz]
      have e3 : List.drop (p.data.toList.length + 1) (p.data.toList ++ m :: J) = J := by rw [← List.drop_drop, List.drop_left]; rfl
      show List.take _ (List.drop _ (p.data.toList ++ m :: J).toArray.toList) = J.toArray.toList
      rw [List.toList_toArray, e3, List.toList_toArray, List.take_of_length_le (by omega)]
    rw [e1, e2, ih]
theorem hexDig_ne : ∀ i : Fin 16, hexDig i.val ≠ 44 := by decide +kernel
theorem pad_ne : ∀ (k n : Nat), (44 : UInt8) ∉ hexPad k n
  | 0, n => by simp [hexPad]
  | k + 1, n => by
    rw [hexPad]
    intro h
    rcases List.mem_append.1 h with h | h
    · exact pad_ne k _ h
    · rw [List.mem_singleton] at h
      exact hexDig_ne ⟨n % 16, by omega⟩ h.symm
theorem tx_at {xs : List Nat} {i x : Nat} (h : xs[i]? = some x) : (tx xs)[i]? = some (hexB (cn .f32 x)) := by simp [tx, h]
/-- What the program makes out of its pieces is their text if and only if each piece is a number's. -/
theorem nums_law {s : ByteArray} {xs : List Nat} (hlen : xs.length = (splitS s 44).length)
    (hx : ∀ (i : Nat) x p, xs[i]? = some x → (splitS s 44)[i]? = some p → p.size = 8 ∧ x < 4294967296 ∧ ∀ n, hexV p = some n → x = n) :
    match allN (splitS s 44) with
    | some ys => ys = xs ∧ joinedB (tx xs) = s
    | none => joinedB (tx xs) ≠ s := by
  have hne := split_ne s 44
  have hxne : xs ≠ [] := fun e => by subst e; exact hne (List.length_eq_zero_iff.1 hlen.symm)
  have hj : joinedB (tx xs) = ⟨(Lib.join ((tx xs).map (·.data.toList)) [44]).toArray⟩ := by
    unfold joinedB
    rw [if_neg]
    cases xs with
    | nil => exact absurd rfl hxne
    | cons => simp [tx]
  cases ha : allN (splitS s 44) with
  | some ys =>
    obtain ⟨h1, h2⟩ := allN_at ha
    have he : ys = xs := by
      apply List.ext_getElem?
      intro i
      rcases Nat.lt_or_ge i xs.length with hi | hi
      · obtain ⟨p, hp⟩ : ∃ p, (splitS s 44)[i]? = some p := ⟨_, List.getElem?_eq_getElem (by omega)⟩
        obtain ⟨n, hn, hr⟩ := h2 i p hp
        have hxi : xs[i]? = some xs[i] := List.getElem?_eq_getElem hi
        have := (hx i _ p hxi hp).2.2 n (readN_iff.1 hr).2.1
        rw [hn, hxi, this]
      · rw [List.getElem?_eq_none hi, List.getElem?_eq_none (by omega)]
    subst he
    refine ⟨rfl, ?_⟩
    have ht : tx ys = splitS s 44 := by
      apply List.ext_getElem?
      intro i
      rcases Nat.lt_or_ge i ys.length with hi | hi
      · obtain ⟨p, hp⟩ : ∃ p, (splitS s 44)[i]? = some p := ⟨_, List.getElem?_eq_getElem (by omega)⟩
        obtain ⟨n, hn, hr⟩ := h2 i p hp
        obtain ⟨r1, r2, r3⟩ := readN_iff.1 hr
        rw [tx_at hn, hp, r3, (hexB_V r1 r2).1]
      · rw [List.getElem?_eq_none (by rw [tx_len]; omega), List.getElem?_eq_none (by omega)]
    rw [hj, ht]
    apply ba_ext
    rw [List.toList_toArray]
    exact join_split 44 s.size s (Nat.le_refl _)
  | none =>
    intro he
    have hs : splitS s 44 = tx xs := by
      rw [hj] at he
      rw [← he]
      cases xs with
      | nil => exact absurd rfl hxne
      | cons x xs =>
        exact split_join (tx xs) (hexB (cn .f32 x)) (fun q hq => by
          have hq' : q ∈ tx (x :: xs) := hq
          unfold tx at hq'
          obtain ⟨y, _, rfl⟩ := List.mem_map.1 hq'
          show (44 : UInt8) ∉ (hexPad 8 (cn .f32 y)).toArray.toList
          rw [List.toList_toArray]
          exact pad_ne 8 _)
    have hall : allN (tx xs) = some xs := by
      have hx' : ∀ x ∈ xs, readN (hexB (cn .f32 x)) = some x := fun x hxm => by
        obtain ⟨i, hi⟩ := List.mem_iff_getElem?.1 hxm
        have ht := tx_at hi
        rw [← hs] at ht
        obtain ⟨g1, g2, g3⟩ := hx i x _ hi ht
        have hc : cn .f32 x < 4294967296 := by
          unfold cn
          split
          · decide +kernel
          · exact g2
        have := g3 _ (hexV_B hc)
        exact readN_iff.2 ⟨hexB_size _, by rw [hexV_B hc, ← this], this.symm⟩
      clear hs ha he hj hxne hne hx hlen
      induction xs with
      | nil => rfl
      | cons x xs ih =>
        show allN (hexB (cn .f32 x) :: tx xs) = _
        simp only [allN]
        rw [hx' x (by simp), ih (fun y hy => hx' y (List.mem_cons_of_mem _ hy))]
        rfl
    rw [hs, hall] at ha
    cases ha
end Go.Proofs.YtjmpldcnhjgpkaaGreatDoor

/-
  Lists of numbers are read out of texts: both sides.
-/
namespace Go.Proofs.YtjmpldcnhjgpkaaGreatDoor
open Go.RowKit Mem Fl Go.Shelf
set_option linter.unusedVariables false
set_option maxRecDepth 100000

theorem none_list (s : ByteArray) : (s.toList == [110, 111, 110, 101]) = decide (s = noneB) := by
  rw [← str_eq]
  congr 1
  rw [Lib.toList_data]; rfl
def piecesOf (s : ByteArray) : List ByteArray := if s = noneB then [] else splitS s 44
/-- The texts lie in a row. -/
def PR (w : World) (A : Option Addr) (ps : List ByteArray) : Prop := ∀ (j : Nat) p, ps[j]? = some p → ∃ g, A = some ⟨g, 0, none⟩ ∧ g < w.heap.size ∧ w.cell? ⟨g, j, none⟩ = some (.string p)
theorem PR.below {w w' : World} {A : Option Addr} {ps : List ByteArray} (h : PR w A ps) (hb : Below w.heap.size w w') : PR w' A ps := fun j p hp => by
  obtain ⟨g, h1, h2, h3⟩ := h j p hp
  exact ⟨g, h1, Nat.lt_of_lt_of_le h2 hb.size, (hb.cell (p := ⟨g, j, none⟩) h2).trans h3⟩
theorem i_pieces {s : ByteArray} {b : Int} {w : World} (hs : s.size ≤ 1048576) (hm : w.cell? ⟨renSplit.g 1, 0, none⟩ = some (.int .i64 b)) :
    Calls Tryz.prog 181 #[.string s] w fun e w' => ∃ A c, e = .returned (.slice A (piecesOf s).length c) ∧ PR w' A (piecesOf s) ∧ (∀ g, A = some ⟨g, 0, none⟩ → w.heap.size ≤ g) ∧ Below w.heap.size w w' := by
  by_cases hq : s = noneB
  · have hp : piecesOf s = [] := if_pos hq
    have HP := hide hp
    have hs1 : (s.toList == [110, 111, 110, 101]) = true := by rw [none_list]; exact decide_eq_true hq
    clear hp hq
    go_enter Tryz.func181, Tryz.ntmps181
    go_wp2
    go_ret
    exact ⟨none, 0, by rw [HP.out]; rfl, by rw [HP.out]; intro j p hp; simp at hp, (fun g e => by cases e), Below.refl _ _⟩
  · have hp : piecesOf s = splitS s 44 := if_neg hq
    have HP := hide hp
    have hs1 : (s.toList == [110, 111, 110, 101]) = false := by rw [none_list]; exact decide_eq_false hq
    have HS := hide (split_calls (s := s) (m := 44) w (by omega) hm)
    have hblk := Blk.new w 9 ((splitS s 44).map Value.string).toArray
    have HB : Hid (PR (w.alloc (.cells ((splitS s 44).map Value.string).toArray 9)) (some ⟨w.heap.size, 0, none⟩) (piecesOf s)) := hide (by
      intro j p hj
      rw [hp] at hj
      exact ⟨w.heap.size, rfl, by simp, by rw [hblk.cell]; simp [hj]⟩)
    clear hp hq hblk
    go_enter Tryz.func181, Tryz.ntmps181
    go_wp2_with fail
    refine HS.out.mono ?_
    rintro e w1 ⟨rfl, rfl⟩
    go_wp2
    go_ret
    exact ⟨_, _, by rw [HP.out]; rfl, HB.out, (fun g e => by injection e with e; injection e with e; omega), (Below.refl _ _).alloc (Nat.le_refl _) _⟩
/-- What a list that was read looks like. -/
def NR (base : Nat) (o : Option (List Nat)) (e : Ending) (w' : World) : Prop := ∃ v, e = .returned (.tuple #[v, .bool o.isSome]) ∧ match o with
  | some xs => w'.ownsRow base 25 1 v xs.length (fl .f32 xs) ∧ ∀ x ∈ xs, x < 4294967296
  | none => v = .slice none 0 0
theorem NR.no {base : Nat} {o : Option (List Nat)} {w' : World} (h : o = none) : NR base o (.returned (.tuple #[.slice none 0 0, .bool false])) w' := by
  subst h; exact ⟨_, rfl, rfl⟩
theorem NR.yes {base : Nat} {o : Option (List Nat)} {v : Value} {xs : List Nat} {n : Nat} {w' : World} (h : o = some xs) (hn : n = xs.length) (ho : w'.ownsRow base 25 1 v n (fl .f32 xs)) (hx : ∀ x ∈ xs, x < 4294967296) : NR base o (.returned (.tuple #[v, .bool true])) w' := by
  subst h; subst hn; exact ⟨_, rfl, ho, hx⟩
/-- What the program holds of its first pieces. -/
def Rd (ps : List ByteArray) (xs : List Nat) : Prop := ∀ (i : Nat) x p, xs[i]? = some x → ps[i]? = some p → p.size = 8 ∧ x < 4294967296 ∧ ∀ n, hexV p = some n → x = n
theorem Rd.snoc {ps : List ByteArray} {xs : List Nat} {p : ByteArray} {x : Nat} (h : Rd ps xs) (hp : ps[xs.length]? = some p) (h8 : p.size = 8) (hx : x < 4294967296) (hv : ∀ n, hexV p = some n → x = n) : Rd ps (xs ++ [x]) := by
  intro i y q hy hq
  rcases Nat.lt_or_ge i xs.length with hi | hi
  · rw [List.getElem?_append_left hi] at hy; exact h i y q hy hq
  · have : i = xs.length := by
      rcases Nat.lt_or_ge i (xs.length + 1) with h | h
      · omega
      · rw [List.getElem?_eq_none (by simp; omega)] at hy; cases hy
    subst this
    rw [hp] at hq
    injection hq with hq
    subst hq
    simp at hy
    subst hy
    exact ⟨h8, hx, hv⟩
theorem Rd.lt {ps : List ByteArray} {xs : List Nat} (h : Rd ps xs) (hl : xs.length ≤ ps.length) : ∀ x ∈ xs, x < 4294967296 := fun x hx => by
  obtain ⟨i, hi⟩ := List.mem_iff_getElem?.1 hx
  have hil : i < xs.length := by
    rcases Nat.lt_or_ge i xs.length with h | h
    · exact h
    · rw [List.getElem?_eq_none h] at hi; cases hi
  exact (h i x _ hi (List.getElem?_eq_getElem (by omega))).2.1
theorem numsV_size {s p : ByteArray} {k : Nat} (hp : (piecesOf s)[k]? = some p) (h8 : p.size ≠ 8) : numsV s = none := by
  unfold numsV piecesOf at *
  split
  · rename_i h; rw [if_pos h] at hp; cases hp
  · rename_i h; rw [if_neg h] at hp
    split
    · exact allN_bad (List.mem_of_getElem? hp) (readN_size h8)
    · rfl
theorem numsV_long {s p : ByteArray} {k : Nat} (hp : (piecesOf s)[k]? = some p) (hk : 256 ≤ k) : numsV s = none := by
  unfold numsV piecesOf at *
  split
  · rename_i h; rw [if_pos h] at hp; cases hp
  · rename_i h; rw [if_neg h] at hp
    rw [if_neg]
    intro hl
    rw [List.getElem?_eq_none (by omega)] at hp
    cases hp
theorem numsV_end {s : ByteArray} {xs : List Nat} (hl : xs.length = (piecesOf s).length) (h6 : xs.length ≤ 256) (h : Rd (piecesOf s) xs) :
    (joinedB (tx xs) = s ∧ numsV s = some xs) ∨ (joinedB (tx xs) ≠ s ∧ numsV s = none) := by
  by_cases hq : s = noneB
  · have e1 : piecesOf s = [] := if_pos hq
    have e2 : numsV s = some [] := if_pos hq
    rw [e1] at hl
    obtain rfl : xs = [] := List.length_eq_zero_iff.1 hl
    exact .inl ⟨by rw [hq]; rfl, e2⟩
  · have e1 : piecesOf s = splitS s 44 := if_neg hq
    rw [e1] at hl h
    have e2 : numsV s = allN (splitS s 44) := by unfold numsV; rw [if_neg hq, if_pos (by omega)]
    have := nums_law hl h
    rw [e2]
    cases ha : allN (splitS s 44) with
    | some ys => rw [ha] at this; obtain ⟨rfl, h2⟩ := this; exact .inl ⟨h2, rfl⟩
    | none => rw [ha] at this; exact .inr ⟨this, rfl⟩
theorem wf_lt {x : Nat} (h : x < 4294967296) : Wf .f32 x := by
  unfold Wf
  have hw : 2 ^ FloatKind.f32.format.width = 4294967296 := by decide +kernel
  rw [hw]; exact h
theorem numsV_len {s : ByteArray} {xs : List Nat} (h : numsV s = some xs) : xs.length ≤ 256 := by
  unfold numsV at h
  split at h
  · injection h with h; subst h; simp
  · split at h
    · have := (allN_at h).1; omega
    · cases h
end Go.Proofs.YtjmpldcnhjgpkaaGreatDoor

/-
  ReadNumbers, as the program has it.
-/
namespace Go.Proofs.YtjmpldcnhjgpkaaGreatDoor
open Go.RowKit Mem Fl Go.Shelf
set_option linter.unusedVariables false
set_option maxRecDepth 100000

theorem wpList_append1b {P : Program} {w0 w : World} {ops : Array Oper} {rest : List Oper} {o : Oper} {a : Act} {Q : Exit → Act → World → Prop} (hgd : o.guard = none) (s x : Operand) (t : TypeId)
    (ho : o.op = .call { callee := .builtin .append, args := #[s, x], argTypes := #[t, t] })
    (base : Nat) (e : TypeId) (z u : Value) (by_ : Nat) (hI : (P.info? e).map (fun i => (i.zero, i.size, i.bytes)) = some (some z, 1, by_)) (ht : P.underlying t = some (.slice e)) (hz : z.cells.size = 1)
    (hw : w = w0.alloc (.cells #[u] e)) (v : Value) (n : Nat) (xs : List Value) (hs : a.eval s = v) (hown : w0.ownsRow base e 1 v n xs)
    (hx : a.eval x = .slice (some ⟨w0.heap.size, 0, none⟩) 1 1) (hu : u.oneCell' = true)
    (hn : n < 1099511627776) (hby : by_ ≤ 64) (hbase : base ≤ w0.heap.size)
    (h : ∀ v' w', w'.ownsRow base e 1 v' (n + 1) (xs ++ [u]) → Below base w0 w' → (∀ g i c, g < w0.heap.size → v.ownBlock ≠ some g → w0.cell? ⟨g, i, none⟩ = some c → w'.cell? ⟨g, i, none⟩ = some c) → (∀ g, g < w0.heap.size → v.ownBlock ≠ some g → v'.ownBlock ≠ some g) → wpList P ops Q rest (a.put o.dst v') w') : wpList P ops Q (o :: rest) a w := by
  subst hw
  obtain ⟨i0, hi, hz0, hz1, hz2⟩ := info_parts hI
  refine wpList_append_own_at _ hgd s x t ho base e i0 z 1 by_ ht hi hz0 hz1 hz2 hz (by decide) v n xs hs (hown.alloc _) ⟨w0.heap.size, 0, none⟩ 1 1 [u] hx rfl (cell_one_new _ _ _) (by simpa using hu) (by simp [maxLen]; omega) ?_ (by simp; omega) ?_
  · have : (n + 1) * by_ ≤ 1099511627776 * 64 := Nat.mul_le_mul (by omega) hby
    omega
  · intro v' w' h1 h2 _ h5
    refine h v' w' h1 (((Below.refl _ _).alloc hbase _).grown h2 (by simp; omega) (fun g hg => (hown.lt g hg).1)) (fun g i c hg hne hc =>
      h2.cell ((World.cell?_alloc_lt _ _ _ hg).trans hc) (fun e => hne e.symm)) (fun g hg hne e => ?_)
    rcases h5 with h5 | h5
    · exact hne (h5 ▸ e)
    · rw [h5] at e
      injection e with e
      rw [World.size_alloc] at e
      omega
theorem pieces_le (s : ByteArray) : (piecesOf s).length ≤ s.size + 1 := by
  unfold piecesOf
  split
  · simp
  · exact splitS_le s 44
set_option maxHeartbeats 1000000 in
theorem i_ReadNumbers {s : ByteArray} {b : Int} {w : World} (hs : s.size ≤ 1048576) (hm : w.cell? ⟨renSplit.g 1, 0, none⟩ = some (.int .i64 b)) (he : Errs w) (ht : w.cell? ⟨4, 15, none⟩ = some (.int .u8 4)) :
    Calls Tryz.prog 152 #[.string s] w fun e w' => NR w.heap.size (numsV s) e w' ∧ Below w.heap.size w w' := by
  have hlt := Go.Clock.block_lt ht
  have hltm := Go.Clock.block_lt hm
  have hpl := pieces_le s
  go_enter Tryz.func152, Tryz.ntmps152
  go_wp2_with fail
  refine (i_pieces hs ((World.cell?_alloc_lt _ _ _ hltm).trans hm)).mono ?_
  rintro e w1 ⟨A, c, rfl, hP, hA, hb⟩
  replace hA : Hid (∀ g, A = some ⟨g, 0, none⟩ → (Value.slice (some ⟨w.heap.size, 0, none⟩) 0 0).ownBlock ≠ some g) := hide (fun g hg e => by
    injection e with e
    have := hA g hg
    rw [World.size_alloc] at this
    change w.heap.size = g at e
    omega)
  have bel1 : Below w.heap.size w w1 := ((Below.refl _ _).alloc (Nat.le_refl _) _).trans (hb.mono (by simp))
  have own1 : Hid (w1.ownsRow w.heap.size 25 1 (.slice (some ⟨w.heap.size, 0, none⟩) 0 0) 0 (fl .f32 [])) := hide (own_below (World.ownsRow_made _ _ _ (Nat.le_refl _) (by simp [maxLen]) (by simp)) hb)
  generalize hn : (piecesOf s).length = n at hpl
  replace hP := hide hP
  replace hn := hide hn
  clear hb
  go_wp2
  go_loopw [4, 13] (fun v i wr => ∃ (k : Nat) (xs : List Nat), k ≤ n ∧ k ≤ 256 ∧ i = .int .i64 k ∧ Hid (xs.length = k) ∧ Hid (wr.ownsRow w.heap.size 25 1 v k (fl .f32 xs)) ∧ Hid (Rd (piecesOf s) xs) ∧ Hid (PR wr A (piecesOf s)) ∧ Hid (∀ g, A = some ⟨g, 0, none⟩ → v.ownBlock ≠ some g) ∧ Below w.heap.size w wr) (fun _ i _ => n - (intOf i).toNat)
  case atStart => exact ⟨0, [], Nat.zero_le _, Nat.zero_le _, rfl, hide rfl, own1, hide (fun i x p h => by simp at h), hP, hA, bel1⟩
  case round =>
    obtain ⟨k, xs, hk, hk6, rfl, hxl, hown, hrd, hpr, hne, hbel⟩ := hrel
    by_cases hk2 : k < n
    · obtain ⟨p, hp⟩ : ∃ p, (piecesOf s)[k]? = some p := ⟨_, List.getElem?_eq_getElem (by rw [hn.out]; exact hk2)⟩
      obtain ⟨g, hAg, hg, hc⟩ := hpr.out k p hp
      have hneg := hide (hne.out g hAg)
      subst hAg
      have hkI : (k : Int) < (n : Int) := by omega
      obtain ⟨A1, c1, rfl⟩ := own_shape hown.out
      by_cases h8 : p.size = 8
      · have h8I : (p.size : Int) = 8 := by omega
        by_cases h6 : k = 256
        · have HR := hide (numsV_long hp (by omega))
          clear hp
          subst h6
          go_wp2
          go_ret2
          exact ⟨NR.no HR.out, hbel⟩
        · have h6I : ¬ (k : Int) = 256 := by omega
          have HC := hide (i_readHex (w := wr) h8 (he.below hbel))
          have Hp := hide hp
          clear hp
          go_wp2_with fail
          refine HC.out.mono ?_
          rintro e w2 ⟨hb2, x, hx, hv, rfl⟩
          have hown2 := hide (own_below hown.out hb2)
          have hbel3 := hbel.trans (hb2.mono hbel.size)
          have hpr2 := hide (hpr.out.below hb2)
          have HRd : Hid (Rd (piecesOf s) (xs ++ [x])) := hide (hrd.out.snoc (by rw [hxl.out]; exact Hp.out) h8 hx hv)
          have HXl : Hid ((xs ++ [x]).length = k + 1) := hide (by simp [hxl.out])
          have hsz := hbel3.size
          have hg2 := Nat.lt_of_lt_of_le hg hb2.size
          clear hc hv hown HC Hp hb2
          have HO0 := fun o => own_below hown2.out ((Below.refl w2.heap.size w2).alloc (Nat.le_refl _) o)
          go_wp2_with (at_builtin; refine wpList_append1b rfl (.tmp 25) (.tmp 28) 28 rfl w.heap.size 25 (.float .f32 0) _ 4 info_f32 Tryz.underlying28 rfl rfl _ _ _ rfl hown2.out (by show Value.slice (some ⟨w2.heap.size, 0, none⟩) 1 1 = _; simp) rfl (by omega) (by omega) hsz ?_)
          intro v' w' hown' hb' hkeep hblk
          have hbel5 := hbel3.trans hb'
          have HO : Hid (w'.ownsRow w.heap.size 25 1 v' (k + 1) (fl .f32 (xs ++ [x]))) := hide (by simpa [fl] using hown')
          have HP : Hid (PR w' (some ⟨g, 0, none⟩) (piecesOf s)) := hide (fun j q hq => by
            obtain ⟨g', e, hg', hc'⟩ := hpr2.out j q hq
            injection e with e
            injection e with e
            subst e
            exact ⟨_, rfl, Nat.lt_of_lt_of_le hg' hb'.size, hkeep _ _ _ hg' hneg.out hc'⟩)
          have HN : Hid (∀ g', (some ⟨g, 0, none⟩ : Option Addr) = some ⟨g', 0, none⟩ → v'.ownBlock ≠ some g') := hide (fun g' e => by
            injection e with e
            injection e with e
            subst e
            exact hblk _ hg2 hneg.out)
          clear hown' hb' hkeep hblk hown2 hpr2 hneg
          go_wp2
          go_roundw
          case rel => exact ⟨k + 1, xs ++ [x], by omega, by omega, by go_num, HXl, HO, HRd, HP, HN, hbel5⟩
          case measure => (simp [intOf]; try omega)
      · have h8I : ¬ (p.size : Int) = 8 := by omega
        have HR := hide (numsV_size hp h8)
        clear hp
        go_wp2
        go_ret2
        exact ⟨NR.no HR.out, hbel⟩
    · obtain rfl : k = n := by omega
      obtain ⟨A1, c1, rfl⟩ := own_shape hown.out
      have hkI : ¬ (k : Int) < (k : Int) := by omega
      have hlt32 := hrd.out.lt (by rw [hxl.out, hn.out]; exact Nat.le_refl _)
      have HNt := hide (i_NumbersText (w := wr) (c := c1) (Reads.of_own hown.out) (fun x hx => wf_lt (hlt32 x hx)) hk6 ((hbel.cell (p := ⟨4, 15, none⟩) hlt).trans ht))
      replace hlt32 := hide hlt32
      rcases numsV_end (by rw [hxl.out, hn.out]) (by rw [hxl.out]; exact hk6) hrd.out with ⟨h1, h2⟩ | ⟨h1, h2⟩
      · have hs1 : (!(joinedB (tx xs)).toList == s.toList) = false := by rw [str_ne, decide_eq_true h1]; rfl
        have HR := hide h2
        clear h1 h2
        go_wp2_with fail
        refine HNt.out.mono ?_
        rintro e w2 ⟨rfl, hb2⟩
        have hown2 := hide (own_below hown.out hb2)
        have hbel2 := hbel.trans (hb2.mono hbel.size)
        clear hown hb2 HNt
        go_wp2
        go_ret2
        exact ⟨NR.yes HR.out hxl.out.symm hown2.out hlt32.out, hbel2⟩
      · have hs1 : (!(joinedB (tx xs)).toList == s.toList) = true := by rw [str_ne, decide_eq_false h1]; rfl
        have HR := hide h2
        clear h1 h2
        go_wp2_with fail
        refine HNt.out.mono ?_
        rintro e w2 ⟨rfl, hb2⟩
        have hbel2 := hbel.trans (hb2.mono hbel.size)
        clear hown hb2 HNt
        go_wp2
        go_ret2
        exact ⟨NR.no HR.out, hbel2⟩
end Go.Proofs.YtjmpldcnhjgpkaaGreatDoor

/-
  A number, and numbers behind it: the plain law.
-/
namespace Go.Proofs.YtjmpldcnhjgpkaaGreatDoor
open Go.RowKit Mem Fl
set_option linter.unusedVariables false

theorem hexF_low {b : UInt8} : ∀ (l : List UInt8) (acc n : Nat), hexF acc l = some n → b ∈ l → lowd b ≠ none
  | c :: l, acc, n, h, hb => by
    simp only [hexF] at h
    cases hc : lowd c with
    | none => rw [hc] at h; cases h
    | some d =>
      rw [hc] at h
      rcases List.mem_cons.1 hb with rfl | hb
      · rw [hc]; simp
      · exact hexF_low l _ n h hb
theorem readN_plain {p : ByteArray} {n : Nat} (h : readN p = some n) : (59 : UInt8) ∉ p.data.toList := fun hm =>
  hexF_low _ _ _ (readN_iff.1 h).2.1 hm (by decide +kernel)
theorem mem_tail {b : UInt8} : ∀ l : List (List UInt8), b ∈ Lib.joinTail [44] l → b = 44 ∨ ∃ p ∈ l, b ∈ p
  | [], h => by simp [Lib.joinTail] at h
  | p :: l, h => by
    have e : Lib.joinTail [44] (p :: l) = 44 :: (p ++ Lib.joinTail [44] l) := by simp [Lib.joinTail]
    rw [e] at h
    rcases List.mem_cons.1 h with h | h
    · exact .inl h
    · rcases List.mem_append.1 h with h | h
      · exact .inr ⟨p, by simp, h⟩
      · rcases mem_tail l h with h | ⟨q, hq, h⟩
        · exact .inl h
        · exact .inr ⟨q, List.mem_cons_of_mem _ hq, h⟩
theorem mem_join {b : UInt8} {l : List (List UInt8)} (h : b ∈ Lib.join l [44]) : b = 44 ∨ ∃ p ∈ l, b ∈ p := by
  cases l with
  | nil => rw [Lib.join_nil] at h; cases h
  | cons p l =>
    rw [Lib.join_cons] at h
    rcases List.mem_append.1 h with h | h
    · exact .inr ⟨p, by simp, h⟩
    · rcases mem_tail l h with h | ⟨q, hq, h⟩
      · exact .inl h
      · exact .inr ⟨q, List.mem_cons_of_mem _ hq, h⟩
theorem numsV_plain {s : ByteArray} {xs : List Nat} (h : numsV s = some xs) : (59 : UInt8) ∉ s.data.toList := by
  intro hm
  unfold numsV at h
  split at h
  · rename_i hq; subst hq; revert hm; decide +kernel
  · split at h
    · obtain ⟨h1, h2⟩ := allN_at h
      rw [← join_split 44 s.size s (Nat.le_refl _)] at hm
      rcases mem_join hm with e | ⟨p, hp, hb⟩
      · exact absurd e (by decide)
      · obtain ⟨q, hq, rfl⟩ := List.mem_map.1 hp
        obtain ⟨i, hi⟩ := List.mem_iff_getElem?.1 hq
        obtain ⟨n, _, hr⟩ := h2 i q hi
        exact readN_plain hr hb
    · cases h
theorem numsV_split {s : ByteArray} {xs : List Nat} (h : numsV s = some xs) : splitS s 59 = [s] := splitS_miss (fun i hi => numsV_plain h (List.mem_of_getElem? hi))
/-- The number and the numbers with a text. -/
def headV (t : ByteArray) : Option (Int × List Nat) :=
  match splitS t 59 with
  | [A, B] => (valV A).bind fun n => (numsV B).bind fun xs => some (n, xs)
  | _ => none
theorem headV_two {t A B : ByteArray} (h : splitS t 59 = [A, B]) : headV t = (valV A).bind fun n => (numsV B).bind fun xs => some (n, xs) := by
  unfold headV; rw [h]
theorem headV_len {t : ByteArray} (h : (splitS t 59).length ≠ 2) : headV t = none := by
  unfold headV
  split
  · rename_i h2; rw [h2] at h; simp at h
  · rfl
/-- So does the program see it. -/
theorem headV_cut (t : ByteArray) : headV t = if cutF 59 t = true then (valV (cutA 59 t)).bind fun n => (numsV (cutB 59 t)).bind fun xs => some (n, xs) else none := by
  rcases cut_split 59 t with ⟨h1, h2⟩ | ⟨h1, h2⟩
  · rw [h1]; exact headV_len (by rw [h2]; simp)
  · rw [h1, if_pos rfl]
    cases hB : numsV (cutB 59 t) with
    | some xs =>
      have h3 : splitS t 59 = [cutA 59 t, cutB 59 t] := by rw [h2, numsV_split hB]
      rw [headV_two h3, hB]
    | none =>
      have hr : ((valV (cutA 59 t)).bind fun n => (none : Option (List Nat)).bind fun xs => some (n, xs)) = none := by cases valV (cutA 59 t) <;> rfl
      rw [hr]
      by_cases hl : (splitS t 59).length = 2
      · rw [h2] at hl
        have hl2 : (splitS (cutB 59 t) 59).length = 1 := by simpa using hl
        rcases cut_split 59 (cutB 59 t) with ⟨_, h4⟩ | ⟨_, h4⟩
        · rw [headV_two (by rw [h2, h4]), hB]; exact hr
        · rw [h4] at hl2
          have := splitS_pos (cutB 59 (cutB 59 t)) 59
          rw [List.length_cons] at hl2; omega
      · exact headV_len hl
end Go.Proofs.YtjmpldcnhjgpkaaGreatDoor

/-
  A number, and numbers behind it: both sides' walks.
-/
namespace Go.Proofs.YtjmpldcnhjgpkaaGreatDoor
open Go.RowKit Mem Fl Go.Shelf
set_option linter.unusedVariables false
set_option maxRecDepth 100000

/-- What a number and its list look like. -/
def HRd (base : Nat) (o : Option (Int × List Nat)) (e : Ending) (w' : World) : Prop := ∃ (n : Int) (v : Value), e = .returned (.tuple #[.int .i64 n, v, .bool o.isSome]) ∧ match o with
  | some (m, xs) => n = m ∧ w'.ownsRow base 25 1 v xs.length (fl .f32 xs) ∧ ∀ x ∈ xs, x < 4294967296
  | none => ∃ A ln c, v = .slice A ln c
theorem NR.sl {base : Nat} {o : Option (List Nat)} {v : Value} {w' : World} (h : match o with
    | some xs => w'.ownsRow base 25 1 v xs.length (fl .f32 xs) ∧ ∀ x ∈ xs, x < 4294967296
    | none => v = .slice none 0 0) : ∃ A ln c, v = .slice A ln c := by
  cases o with
  | none => exact ⟨_, _, _, h⟩
  | some xs => obtain ⟨A, c, h⟩ := own_shape h.1; exact ⟨_, _, _, h⟩
theorem HRd.no {base : Nat} {o : Option (Int × List Nat)} {n : Int} {A : Option Addr} {ln c : Nat} {w' : World} (h : o = none) : HRd base o (.returned (.tuple #[.int .i64 n, .slice A ln c, .bool false])) w' := by
  subst h; exact ⟨_, _, rfl, _, _, _, rfl⟩
theorem HRd.yes {base : Nat} {o : Option (Int × List Nat)} {n : Int} {v : Value} {xs : List Nat} {w' : World} (h : o = some (n, xs)) (ho : w'.ownsRow base 25 1 v xs.length (fl .f32 xs)) (hx : ∀ x ∈ xs, x < 4294967296) : HRd base o (.returned (.tuple #[.int .i64 n, v, .bool true])) w' := by
  subst h; exact ⟨_, _, rfl, rfl, ho, hx⟩
theorem own_base {w : World} {b b' : Nat} {e : TypeId} {size n : Nat} {v : Value} {xs : List Value} (h : w.ownsRow b e size v n xs) (hb : b' ≤ b) : w.ownsRow b' e size v n xs := by
  refine ⟨h.1, ?_⟩
  rcases h.2 with h | ⟨g, cap, cur, h1, h2, h3⟩
  · exact .inl h
  · exact .inr ⟨g, cap, cur, h1, Nat.le_trans hb h2, h3⟩
set_option maxHeartbeats 1000000 in
theorem i_readHeaded {t : ByteArray} {bm bs : Int} {w : World} (hs : t.size ≤ 1048576) (hm : w.cell? ⟨renCutF.g 1, 0, none⟩ = some (.int .i64 bm)) (hm2 : w.cell? ⟨renSplit.g 1, 0, none⟩ = some (.int .i64 bs)) (he : Errs w)
    (htab : Lib.TabIs Tryz.prog w "internal/strconv.uint64pow10" .u64 Lib.pow10Tab) (ht : w.cell? ⟨4, 15, none⟩ = some (.int .u8 4)) :
    Calls Tryz.prog 178 #[.string t] w fun e w' => HRd w.heap.size (headV t) e w' ∧ Below w.heap.size w w' := by
  have hlt := Go.Clock.block_lt ht
  have hltm := Go.Clock.block_lt hm2
  have hA := cutA_size 59 t
  have hB := cutB_size 59 t
  have HC := hide (headV_cut t)
  have HN : ∀ (W : World), Below w.heap.size w W → _ := fun W hb => i_ReadNumbers (s := cutB 59 t) (w := W) (by omega) ((hb.cell (p := ⟨renSplit.g 1, 0, none⟩) hltm).trans hm2) (he.below hb) ((hb.cell (p := ⟨4, 15, none⟩) hlt).trans ht)
  have HD : ∀ (W : World), Below w.heap.size w W → _ := fun W hb => i_ReadDecimal (s := cutA 59 t) (w := W) (by omega) (he.below hb) (pow_kept htab hb)
  have HCut := hide (cutS_calls (s := t) (m := 59) (w := w) (by omega) hm)
  replace HN := hide HN
  replace HD := hide HD
  generalize cutA 59 t = A at *
  generalize cutB 59 t = B at *
  generalize cutF 59 t = F at *
  go_enter Tryz.func178, Tryz.ntmps178
  go_wp2_with fail
  refine HCut.out.mono ?_
  rintro e w1 ⟨rfl, nq, rfl⟩
  have bel1 := below_drewN (Below.refl w.heap.size w) nq
  go_wp2_with fail
  refine (HD.out _ bel1).mono ?_
  rintro e w2 ⟨rfl, hb2⟩
  have bel2 := bel1.trans (hb2.mono bel1.size)
  clear hb2
  cases hv : valV A with
  | none =>
    rw [rdV_none hv]
    have HR : Hid (headV t = none) := hide (by rw [HC.out, hv]; cases F <;> rfl)
    clear hv
    go_wp2_with fail
    refine (HN.out _ bel2).mono ?_
    rintro e w3 ⟨⟨v, rfl, hr⟩, hb3⟩
    obtain ⟨vA, vn, vc, rfl⟩ := NR.sl hr
    clear hr
    have bel3 := bel2.trans (hb3.mono bel2.size)
    cases F
    all_goals
      go_wp2
      go_ret3
      exact ⟨HRd.no HR.out, bel3⟩
  | some n =>
    rw [rdV_some hv]
    go_wp2_with fail
    refine (HN.out _ bel2).mono ?_
    rintro e w3 ⟨⟨v, rfl, hr⟩, hb3⟩
    obtain ⟨vA, vn, vc, rfl⟩ := NR.sl hr
    have bel3 := bel2.trans (hb3.mono bel2.size)
    have hsz := bel2.size
    cases hn : numsV B with
    | none =>
      have HR : Hid (headV t = none) := hide (by rw [HC.out, hv, hn]; cases F <;> rfl)
      clear hv hn hr
      simp only [Option.isSome_none]
      cases F
      all_goals
        go_wp2
        go_ret3
        exact ⟨HRd.no HR.out, bel3⟩
    | some xs =>
      rw [hn] at hr
      simp only [Option.isSome_some]
      obtain ⟨ho, hx⟩ := hr
      have HO := hide (own_base ho hsz)
      have HX := hide hx
      clear ho hx
      cases F with
      | true =>
        have HR : Hid (headV t = some (n, xs)) := hide (by rw [HC.out, hv, hn]; rfl)
        clear hv hn
        go_wp2
        go_ret3
        exact ⟨HRd.yes HR.out HO.out HX.out, bel3⟩
      | false =>
        have HR : Hid (headV t = none) := hide (by rw [HC.out]; rfl)
        clear hv hn
        go_wp2
        go_ret3
        exact ⟨HRd.no HR.out, bel3⟩
end Go.Proofs.YtjmpldcnhjgpkaaGreatDoor
