/-
  The texts of lists of 32-bit numbers: both sides.
-/
import Derived.Test.YtnpccnhamohnkaaGreatDoorText
import Derived.Test.YtnpccnhamohnkaaGreatDoorRow
namespace Go.Proofs.YtnpccnhamohnkaaGreatDoor
open Go.RowKit Mem Fl Go.Shelf
set_option linter.unusedVariables false
set_option maxRecDepth 100000

/-- Texts with commas between them, 'none' if there are none. -/
def joinedB (L : List ByteArray) : ByteArray := if L.isEmpty then ⟨#[110, 111, 110, 101]⟩ else ⟨(Lib.join (L.map (·.data.toList)) [44]).toArray⟩
theorem i_joined {L : List ByteArray} {v : Value} {base n : Nat} {w : World} (hown : w.ownsRow base 9 1 v n (L.map Value.string)) (hlen : (Lib.join (L.map (·.data.toList)) [44]).length ≤ 140737488355328) (hn : n ≤ 100000) :
    Calls Tryz.prog 65 #[v] w fun e w' => e = .returned (.string (joinedB L)) ∧ Below w.heap.size w w' := by
  have hl : L.length = n := by have := hown.1; simpa using this
  cases L with
  | nil =>
    obtain rfl : n = 0 := by simpa using hl.symm
    obtain ⟨A, c, rfl⟩ := own_shape hown
    clear hown hl hlen
    go_enter Tryz.func65, Tryz.ntmps65
    go_wp2_with fail
    go_ret
    exact ⟨rfl, Below.refl _ _⟩
  | cons x L =>
    obtain ⟨g, cap, rfl, hg, hgl, hcap, hcell⟩ := row_of_own (by simp at hl; omega) hown
    have hj := join_calls g cap (x :: L) w (fun j y hy => hcell j _ (by rw [List.getElem?_map, hy]; rfl)) hgl (by omega) hlen (by omega)
    rw [hl] at hj
    have hn0 : ¬ (n : Int) = 0 := by simp at hl; omega
    clear hown hcell
    go_enter Tryz.func65, Tryz.ntmps65
    go_wp2_with fail
    refine hj.mono ?_
    rintro e w1 ⟨rfl, hb⟩
    go_wp2
    go_ret
    exact ⟨rfl, hb⟩
def tx (xs : List Nat) : List ByteArray := xs.map fun x => hexB (cn .f32 x)
theorem tx_len (xs : List Nat) : (tx xs).length = xs.length := by simp [tx]
theorem lens_tx (xs : List Nat) : Lib.lens ((tx xs).map (·.data.toList)) = 8 * xs.length := by
  induction xs with
  | nil => rfl
  | cons x xs ih =>
    simp only [tx, List.map_cons, Lib.lens, List.length_cons] at ih ⊢
    rw [List.sum_cons, ih]
    have : (hexB (cn .f32 x)).data.toList.length = 8 := by rw [Array.length_toList]; exact hexB_size _
    omega
theorem join_tx (xs : List Nat) : (Lib.join ((tx xs).map (·.data.toList)) [44]).length ≤ 9 * xs.length := by
  cases xs with
  | nil => simp [tx, Lib.join_nil]
  | cons x xs =>
    have h1 := lens_tx (x :: xs)
    have h2 := Lib.join_length (hexB (cn .f32 x)).data.toList ((tx xs).map (·.data.toList)) [44]
    have h3 : (tx (x :: xs)).map (·.data.toList) = (hexB (cn .f32 x)).data.toList :: (tx xs).map (·.data.toList) := rfl
    rw [h3] at h1 ⊢
    rw [h2, h1]
    simp [tx_len]
    omega
theorem take_tx {xs : List Nat} {k x : Nat} (h : xs[k]? = some x) : tx (xs.take (k + 1)) = tx (xs.take k) ++ [hexB (cn .f32 x)] := by
  rw [take_eq h]; simp [tx]
set_option maxHeartbeats 1000000 in
theorem i_NumbersText {A : Option Addr} {n c : Nat} {xs : List Nat} {w : World} (h : Reads w w.heap.size 1 A n (fl .f32 xs)) (wx : ∀ x ∈ xs, Wf .f32 x) (hn : n ≤ 256) (ht : w.cell? ⟨8, 15, none⟩ = some (.int .u8 4)) :
    Calls Tryz.prog 25 #[.slice A n c] w fun e w' => e = .returned (.tuple #[.string (joinedB (tx xs)), .bool true]) ∧ Below w.heap.size w w' := by
  have Hl := hide h.map_len
  have hlt := Go.Clock.block_lt ht
  go_enter Tryz.func25, Tryz.ntmps25
  go_wp2
  go_loopw [4, 13] (fun v i wr => ∃ k : Nat, k ≤ n ∧ i = .int .i64 k ∧ Hid (wr.ownsRow w.heap.size 9 1 v k ((tx (xs.take k)).map .string)) ∧ Below w.heap.size w wr) (fun _ i _ => n - (intOf i).toNat)
  case atStart => exact ⟨0, Nat.zero_le _, rfl, hide (World.ownsRow_made _ _ _ (Nat.le_refl _) (by simp [maxLen]) (by simp)), (Below.refl _ _).alloc (Nat.le_refl _) _⟩
  case round =>
    obtain ⟨k, hk, rfl, hown, hbel⟩ := hrel
    by_cases hk2 : k < n
    · obtain ⟨ad, x, rfl, _, hx, hc⟩ := (h.below hbel).map_at hk2
      have wfx := wx x (List.mem_of_getElem? hx)
      have HT := hide (take_tx hx)
      have ht1 := (hbel.cell (p := ⟨8, 15, none⟩) hlt).trans ht
      have hkI : (k : Int) < (n : Int) := by omega
      go_wp2_with fail
      refine (i_hexOf wfx ht1).mono ?_
      rintro e w1 ⟨rfl, hb1⟩
      have hown1 := hide (own_below hown.out hb1)
      have hbel1 := hbel.trans (hb1.mono hbel.size)
      clear ht1 hc hx hown
      go_wp2_with (at_builtin; refine wpList_append1 rfl (.tmp 17) (.tmp 20) 72 rfl w.heap.size 9 (.string ByteArray.empty) _ 16 info_str Tryz.underlying72 rfl rfl _ _ _ rfl hown1.out rfl rfl (by omega) (by omega) hbel1.size ?_)
      intro v' w' hown' hb'
      have hbel' := hbel1.trans hb'
      have HO : Hid (w'.ownsRow w.heap.size 9 1 v' (k + 1) ((tx (xs.take (k + 1))).map .string)) := hide (by rw [HT.out]; simpa using hown')
      clear hown'
      go_wp2
      go_roundw
      case rel => exact ⟨k + 1, by omega, by go_num, HO, hbel'⟩
      case measure => (simp [intOf]; try omega)
    · obtain rfl : k = n := by omega
      have hown2 : wr.ownsRow w.heap.size 9 1 u4 k ((tx xs).map .string) := by
        have := hown.out
        rwa [show xs.take k = xs from List.take_of_length_le (by rw [Hl.out]; omega)] at this
      have hjl := join_tx xs
      have hkI : ¬ (k : Int) < (k : Int) := by omega
      rw [Hl.out] at hjl
      have HJ := hide (i_joined hown2 (by omega) (by omega))
      clear hown hown2 hjl
      go_wp2_with fail
      refine HJ.out.mono ?_
      rintro e w1 ⟨rfl, hb1⟩
      go_wp2
      go_ret2
      exact ⟨rfl, hbel.trans (hb1.mono hbel.size)⟩
theorem s_l01NText_nil {A : Option Addr} {c : Nat} {w : World} : Calls Tryz.prog 160 #[.slice A 0 c] w fun e w' => e = .returned (.string (joinedB (tx []))) ∧ Below w.heap.size w w' := by
  go_enter Tryz.func160, Tryz.ntmps160
  go_wp2
  go_ret
  exact ⟨rfl, Below.refl _ _⟩
/-- What is told of the first k numbers, k at least 1. -/
def nt (xs : List Nat) (k : Nat) : ByteArray := ⟨(Lib.join ((tx (xs.take k)).map (·.data.toList)) [44]).toArray⟩
theorem nt_one {xs : List Nat} {x : Nat} (h : xs[0]? = some x) : nt xs 1 = hexB (cn .f32 x) := by
  apply ba_ext
  unfold nt
  cases xs with
  | nil => cases h
  | cons y ys => simp at h; subst h; simp [tx, Lib.join_one]
theorem nt_succ {xs : List Nat} {k x : Nat} (hk : 1 ≤ k) (h : xs[k]? = some x) : nt xs (k + 1) = nt xs k ++ (⟨#[44]⟩ ++ hexB (cn .f32 x)) := by
  apply ba_ext
  unfold nt
  cases xs with
  | nil => cases h
  | cons y ys =>
    obtain ⟨j, rfl⟩ : ∃ j, k = j + 1 := ⟨k - 1, by omega⟩
    have h' : ((ys.map fun x => hexB (cn .f32 x)).map (·.data.toList))[j]? = some (hexB (cn .f32 x)).data.toList := by
      simp at h
      simp [h]
    have hs := Lib.joinTail_take_succ [44] ((ys.map fun x => hexB (cn .f32 x)).map (·.data.toList)) j _ h'
    simp only [tx, List.take_succ_cons, List.map_cons, Lib.join_cons, List.map_take]
    rw [hs]
    simp
theorem nt_size (xs : List Nat) (k : Nat) : (nt xs k).size ≤ 9 * k := by
  have h1 := join_tx (xs.take k)
  have h2 : (xs.take k).length ≤ k := List.length_take_le k xs
  show (Lib.join ((tx (xs.take k)).map (·.data.toList)) [44]).toArray.size ≤ _
  rw [List.size_toArray]
  omega
theorem nt_all {xs : List Nat} (h : xs ≠ []) : nt xs xs.length = joinedB (tx xs) := by
  unfold nt joinedB
  rw [List.take_length, if_neg]
  cases xs with
  | nil => exact absurd rfl h
  | cons => simp [tx]
set_option maxHeartbeats 1000000 in
theorem s_l01NText {A : Option Addr} {n c : Nat} {xs : List Nat} {w : World} (h : Reads w w.heap.size 1 A n (fl .f32 xs)) (wx : ∀ x ∈ xs, Wf .f32 x) (h1 : 1 ≤ n) (hn : n ≤ 100000) :
    Calls Tryz.prog 160 #[.slice A n c] w fun e w' => e = .returned (.string (joinedB (tx xs))) ∧ Below w.heap.size w w' := by
  have hl := h.map_len
  have HA := hide (nt_all (xs := xs) (by intro e; rw [e] at hl; simp at hl; omega))
  rw [hl] at HA
  obtain ⟨ad, x, rfl, _, hx, hc⟩ := h.map_at (k := 0) (by omega)
  have wfx := wx x (List.mem_of_getElem? hx)
  have H1 := hide (nt_one hx)
  have hnI : ¬ (n : Int) = 0 := by omega
  replace hc : w.cell? ad = some (.float .f32 x) := by simpa [Addr.add] using hc
  clear hx hl
  go_enter Tryz.func160, Tryz.ntmps160
  go_wp2_with fail
  refine (s_l01HexB wfx).mono ?_
  rintro e w1 ⟨rfl, hb1⟩
  rw [← H1.out]
  clear hc wfx H1
  go_wp2_with fail
  go_loopw [3, 4] (fun t i wr => ∃ k : Nat, 1 ≤ k ∧ k ≤ n ∧ i = .int .i64 k ∧ t = .string (nt xs k) ∧ Below w.heap.size w wr) (fun _ i _ => n - (intOf i).toNat)
  case atStart => exact ⟨1, Nat.le_refl _, h1, rfl, rfl, hb1⟩
  case round =>
    obtain ⟨k, hk1, hk, rfl, rfl, hbel⟩ := hrel
    by_cases hk2 : k < n
    · obtain ⟨ad', y, e', _, hy, hcy⟩ := (h.below hbel).map_at hk2
      obtain rfl : ad = ad' := by injection e'
      have wfy := wx y (List.mem_of_getElem? hy)
      have HT := hide (nt_succ hk1 hy)
      have hz := nt_size xs k
      have hz2 : (⟨#[44]⟩ ++ hexB (cn .f32 y) : ByteArray).size = 9 := by rw [ByteArray.size_append, hexB_size]; rfl
      have hs1 := fun w => run_string_add_sum (P := Tryz.prog) w ⟨#[44]⟩ (hexB (cn .f32 y)) (by rw [hexB_size]; decide)
      have hs2 := fun w => run_string_add_sum (P := Tryz.prog) w (nt xs k) (⟨#[44]⟩ ++ hexB (cn .f32 y)) (by rw [hz2]; omega)
      have hkI : (k : Int) < (n : Int) := by omega
      clear hy hz hz2
      go_wp2_with (go_at_call 204; refine (s_l01HexB wfy).mono ?_; rintro e w2 ⟨rfl, hb2⟩)
      go_roundw
      case rel => exact ⟨k + 1, by omega, by omega, by go_num, by rw [HT.out], hbel.trans (hb2.mono hbel.size)⟩
      case measure => (simp [intOf]; try omega)
    · obtain rfl : k = n := by omega
      have hkI : ¬ (k : Int) < (k : Int) := by omega
      go_wp2
      go_ret
      exact ⟨by rw [← HA.out]; rfl, hbel⟩
end Go.Proofs.YtnpccnhamohnkaaGreatDoor
