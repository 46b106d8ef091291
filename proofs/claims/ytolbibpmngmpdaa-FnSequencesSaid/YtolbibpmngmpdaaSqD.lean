/-
  The two tables of the law of sequence tests, in plain lists.
-/
import Derived.Test.YtolbibpmngmpdaaSqL
import Derived.Test.YtolbibpmngmpdaaSqR
import Derived.Test.YtolbibpmngmpdaaChJ
import Derived.Test.YtolbibpmngmpdaaCap
namespace Go.Proofs.Ytolbibpmngmpdaa
open Go.RowKit Mem Fl
set_option linter.unusedVariables false
set_option maxRecDepth 100000

theorem wf_sh : ∀ j : Nat, j < 17 → shq j < 4294967296 := by decide +kernel
theorem wf_hi : ∀ l : Nat, l < 6 → ∀ h : Nat, h < 8 → hiq l h < 4294967296 := by decide +kernel
theorem wf32 {x : Nat} (h : x < 4294967296) : Wf .f32 x := h
theorem bars_in : ∀ a : Nat, a < 7 → ∀ b : Nat, b < 7 → barsIn (shq (a + 1)) (shq (b + 1)) = true ∧ fin .f32 (barA a b) = true ∧ fin .f32 (barB a b) = true ∧ (FloatKind.f32.format.order (barA a b) 0 == some .gt || FloatKind.f32.format.order (barA a b) 0 == some .eq) = false ∧ (FloatKind.f32.format.order (barB a b) 0 == some .lt || FloatKind.f32.format.order (barB a b) 0 == some .eq) = false := by decide +kernel
theorem hi_fin : ∀ l : Nat, l < 6 → ∀ h : Nat, h < 8 → fin .f32 (hiq l h) = true := by decide +kernel
theorem seq_in : ∀ l : Nat, l < 6 → ∀ h : Nat, h < 8 → seqIn (shq (l + 1)) (hiq l h) = true := by decide +kernel
theorem bars_ok {a b : Nat} (ha : a < 7) (hb : b < 7) : barsOk (shq (a + 1)) (shq (b + 1)) = true := by
  obtain ⟨h1, h2, h3, _⟩ := bars_in a ha b hb
  obtain ⟨e1, e2⟩ := bar_tab a ha b hb
  unfold barsOk
  rw [h1, e1, e2, h2, h3]; rfl
theorem q_Bars {a b : Nat} (ha : a < 7) (hb : b < 7) {w : World} : Calls Try.prog 18 #[.float .f32 (shq (a + 1)), .float .f32 (shq (b + 1))] w fun e w' => e = .returned (.tuple #[.float .f32 (barA a b), .float .f32 (barB a b), .bool true]) ∧ Below w.heap.size w w' := by
  refine (i_SequenceBars (wf32 (wf_sh _ (by omega))) (wf32 (wf_sh _ (by omega)))).mono ?_
  rintro e w' ⟨h, hb'⟩
  obtain ⟨h1, h2, h3, _⟩ := bars_in a ha b hb
  obtain ⟨e1, e2⟩ := bar_tab a ha b hb
  unfold BarR at h
  rw [bars_ok ha hb, if_pos rfl, if_pos rfl, e1, e2] at h
  obtain ⟨x, y, rfl, hx, hy⟩ := h
  rw [fin_word hx h2, fin_word hy h3]
  exact ⟨rfl, hb'⟩
section
variable {l h a b : Nat} (hl : l < 6) (hh : h < 8) (ha : a < 7) (hb : b < 7)
include hl hh ha hb
theorem seq_ok : seqOk (shq (l + 1)) (hiq l h) (shq (a + 1)) (shq (b + 1)) = true := by
  unfold seqOk; rw [bars_ok ha hb, seq_in l hl h hh]; rfl
theorem q_Test {A : Option Addr} {n c : Nat} {xs : List Bool} {w : World} (hr : Reads w w.heap.size 1 A n (bl xs)) (hn : n ≤ 256) {E M : Int} (hE : seqRes (barA a b) (barB a b) (upU l h) (upD l h) xs 0 0 = (E, M)) :
    Calls Try.prog 19 #[.slice A n c, .float .f32 (shq (l + 1)), .float .f32 (hiq l h), .float .f32 (shq (a + 1)), .float .f32 (shq (b + 1))] w fun e w' => e = .returned (.tuple #[.int .i64 E, .int .i64 M, .bool true]) ∧ Below w.heap.size w w' := by
  refine (i_SequenceTest hr (by omega) (wf32 (wf_sh _ (by omega))) (wf32 (wf_hi l hl h hh)) (wf32 (wf_sh _ (by omega))) (wf32 (wf_sh _ (by omega)))).mono ?_
  rintro e w' ⟨rfl, hb'⟩
  obtain ⟨e1, e2⟩ := bar_tab a ha b hb
  obtain ⟨e3, e4⟩ := up_tab l hl h hh
  have hlen := hr.map_len
  have hok : tOk xs (shq (l + 1)) (hiq l h) (shq (a + 1)) (shq (b + 1)) = true := by
    unfold tOk; rw [seq_ok hl hh ha hb, decide_eq_true (by omega)]; rfl
  rw [tR_yes hok, e1, e2, e3, e4, hE, hok]
  exact ⟨rfl, hb'⟩
theorem q_Chances {sh m o0 o1 o2 : Nat} {w : World} (hs : shB sh = true) (hm : m ≤ 64) (ho : (chSt (barA a b) (barB a b) (upU l h) (upD l h) sh m).2 = [o0, o1, o2]) (hf : fin .f32 o0 = true ∧ fin .f32 o1 = true ∧ fin .f32 o2 = true) :
    Calls Try.prog 20 #[.float .f32 sh, .float .f32 (shq (l + 1)), .float .f32 (hiq l h), .float .f32 (shq (a + 1)), .float .f32 (shq (b + 1)), .int .i64 (m : Int)] w fun e w' => ∃ g c, e = .returned (.tuple #[.slice (some ⟨g, 0, none⟩) 3 c, .bool true]) ∧ w'.ownsRow w.heap.size 27 1 (.slice (some ⟨g, 0, none⟩) 3 c) 3 (fl .f32 [o0, o1, o2]) ∧ Below w.heap.size w w' := by
  refine (i_SequenceChances (wf32 (wf_sh _ (by omega))) (wf32 (wf_hi l hl h hh)) (wf32 (wf_sh _ (by omega))) (wf32 (wf_sh _ (by omega)))).mono ?_
  rintro e w' ⟨hC, hb'⟩
  obtain ⟨e1, e2⟩ := bar_tab a ha b hb
  obtain ⟨e3, e4⟩ := up_tab l hl h hh
  have hV : chV sh (shq (l + 1)) (hiq l h) (shq (a + 1)) (shq (b + 1)) (m : Int) = [o0, o1, o2] := by
    unfold chV; rw [e1, e2, e3, e4, Int.toNat_natCast]; exact ho
  have hok : chO sh (shq (l + 1)) (hiq l h) (shq (a + 1)) (shq (b + 1)) (m : Int) = true := by
    have hi : inB (m : Int) 0 64 = true := by unfold inB; simp; omega
    unfold chO chOk
    rw [hV, seq_ok hl hh ha hb, hs, hi]
    simp [hf.1, hf.2.1, hf.2.2]
  unfold ChRd chR at hC
  rw [hok, if_pos rfl, hV] at hC
  obtain ⟨v, zs, rfl, hown, hz⟩ := hC
  have hz2 : zs = [o0, o1, o2] := by
    match zs, hz with
    | [x, y, z], hz =>
      simp only [List.map_cons, List.map_nil, List.cons.injEq, and_true] at hz
      obtain ⟨h1, h2, h3⟩ := hz
      rw [fin_word h1 hf.1, fin_word h2 hf.2.1, fin_word h3 hf.2.2]
  subst hz2
  obtain ⟨g, c, rfl⟩ := own_addr hown (by simp)
  exact ⟨g, c, rfl, hown, hb'⟩
end
def capL : List Nat := [1065353216, 1073741824, 1077936128]
theorem cap_ok : capOk capL 3212836864 1084227584 = true ∧ fin .f32 (capA capL 3212836864 1084227584) = true ∧ fin .f32 (capB capL 3212836864 1084227584) = true ∧
    (FloatKind.f64.format.order (gapV (capA capL 3212836864 1084227584) 1065353216) 4562254508917369340 == some .lt) = true ∧ (FloatKind.f64.format.order (gapV (capB capL 3212836864 1084227584) 1065353216) 4562254508917369340 == some .lt) = true := by decide +kernel
theorem q_Cap {A : Option Addr} {c : Nat} {w : World} (h : Reads w w.heap.size 1 A 3 (fl .f32 capL)) :
    Calls Try.prog 21 #[.slice A 3 c, .float .f32 3212836864, .float .f32 1084227584] w fun e w' => e = .returned (.tuple #[.float .f32 (capA capL 3212836864 1084227584), .float .f32 (capB capL 3212836864 1084227584), .bool true]) ∧ Below w.heap.size w w' := by
  refine (i_CapabilityOf h (by decide)).mono ?_
  rintro e w' ⟨z1, z2, rfl, h1, h2, hb⟩
  obtain ⟨c1, c2, c3, _⟩ := cap_ok
  rw [c1, fin_word h1.out c2, fin_word h2.out c3]
  exact ⟨rfl, hb⟩
end Go.Proofs.Ytolbibpmngmpdaa
namespace Go.Proofs.Ytolbibpmngmpdaa
open Go.RowKit Mem Fl
set_option linter.unusedVariables false
set_option maxRecDepth 100000

def incT (xs : List Int) (n : Nat) : Nat → List Int
  | 0 => xs
  | i + 1 => (incT xs n i).set (i * n + i) ((incT xs n i).getD (i * n + i) 0 + 1)
def whT (xs : List Int) (n N : Nat) : Nat → List Int
  | 0 => List.replicate N 0
  | i + 1 => (whT xs n N i).set (i * n + i) (xs.getD (i * n + i) 0)
theorem incT_len (xs : List Int) (n : Nat) : ∀ k, (incT xs n k).length = xs.length
  | 0 => rfl
  | k + 1 => by rw [incT, List.length_set, incT_len xs n k]
theorem whT_len (xs : List Int) (n N : Nat) : ∀ k, (whT xs n N k).length = N
  | 0 => by simp [whT]
  | k + 1 => by rw [whT, List.length_set, whT_len xs n N k]
theorem idx_inj {n i j i' j' : Nat} (h1 : j < n) (h2 : j' < n) (h : i * n + j = i' * n + j') : i = i' ∧ j = j' := by
  have e1 : (i * n + j) / n = i := by rw [Nat.add_comm, Nat.add_mul_div_right _ _ (by omega), Nat.div_eq_of_lt h1, Nat.zero_add]
  have e2 : (i' * n + j') / n = i' := by rw [Nat.add_comm, Nat.add_mul_div_right _ _ (by omega), Nat.div_eq_of_lt h2, Nat.zero_add]
  have e3 : i = i' := by rw [← e1, ← e2, h]
  subst e3
  exact ⟨rfl, by omega⟩
theorem getD_set {xs : List Int} {i j : Nat} {v : Int} (h : i < xs.length) : (xs.set i v).getD j 0 = if i = j then v else xs.getD j 0 := by
  rw [List.getD_eq_getElem?_getD, List.getD_eq_getElem?_getD, List.getElem?_set]
  split
  · rfl
  · rfl
theorem idx_lt {n i j : Nat} (hi : i < n) (hj : j < n) : i * n + j < n * n := by
  have := Nat.mul_le_mul_right n (show i + 1 ≤ n by omega)
  rw [Nat.add_mul] at this
  omega
theorem incT_get {xs : List Int} {n : Nat} (hl : xs.length = n * n) {i j : Nat} (hi : i < n) (hj : j < n) : ∀ k, k ≤ n → (incT xs n k).getD (i * n + j) 0 = xs.getD (i * n + j) 0 + (if i = j ∧ i < k then 1 else 0)
  | 0, _ => by rw [incT, if_neg (by omega)]; omega
  | k + 1, hk => by
    rw [incT, getD_set (by rw [incT_len, hl]; exact idx_lt (by omega) (by omega))]
    by_cases e : k * n + k = i * n + j
    · obtain ⟨e1, e2⟩ := idx_inj (by omega) hj e
      subst e1; subst e2
      rw [if_pos rfl, incT_get hl hi hj k (by omega), if_neg (by omega), if_pos (by omega)]; omega
    · rw [if_neg e, incT_get hl hi hj k (by omega)]
      by_cases h : i = j ∧ i < k
      · rw [if_pos h, if_pos (by omega)]
      · rw [if_neg h, if_neg]
        rintro ⟨h1, h2⟩
        obtain h3 : i = k := by omega
        subst h3; subst h1; exact e rfl
theorem whT_get {xs : List Int} {n : Nat} {i j : Nat} (hi : i < n) (hj : j < n) : ∀ k, k ≤ n → (whT xs n (n * n) k).getD (i * n + j) 0 = if i = j ∧ i < k then xs.getD (i * n + j) 0 else 0
  | 0, _ => by
    rw [whT, if_neg (by omega), List.getD_eq_getElem?_getD, List.getElem?_replicate]; split <;> rfl
  | k + 1, hk => by
    rw [whT, getD_set (by rw [whT_len]; exact idx_lt (by omega) (by omega))]
    by_cases e : k * n + k = i * n + j
    · obtain ⟨e1, e2⟩ := idx_inj (by omega) hj e
      subst e1; subst e2
      rw [if_pos rfl, if_pos (by omega)]
    · rw [if_neg e, whT_get hi hj k (by omega)]
      by_cases h : i = j ∧ i < k
      · rw [if_pos h, if_pos (by omega)]
      · rw [if_neg h, if_neg]
        rintro ⟨h1, h2⟩
        obtain h3 : i = k := by omega
        subst h3; subst h1; exact e rfl
theorem small_at {xs : List Int} {N k : Nat} (hl : xs.length = N) (h : ∀ z ∈ xs, 0 ≤ z ∧ z < 6) (hk : k < N) : 0 ≤ xs.getD k 0 ∧ xs.getD k 0 < 6 := by
  rw [List.getD_eq_getElem?_getD, List.getElem?_eq_getElem (by omega)]
  exact h _ (List.getElem_mem _)
theorem tab_inc {xs : List Int} {n : Nat} (hl : xs.length = n * n) (h : ∀ z ∈ xs, 0 ≤ z ∧ z < 6) : Tab (incT xs n n) n := by
  refine ⟨by rw [incT_len, hl], fun i hi => ?_, fun i j hi hj hne => ?_⟩
  · rw [incT_get hl hi hi n (Nat.le_refl _), if_pos ⟨rfl, hi⟩]
    have := small_at hl h (idx_lt hi hi)
    omega
  · rw [incT_get hl hi hj n (Nat.le_refl _), if_neg (by omega)]
    have := small_at hl h (idx_lt hi hj)
    omega
theorem tab_wh {xs : List Int} {n : Nat} (h : Tab xs n) : Tab (whT xs n (n * n) n) n := by
  refine ⟨whT_len _ _ _ _, fun i hi => ?_, fun i j hi hj hne => ?_⟩
  · rw [whT_get hi hi n (Nat.le_refl _), if_pos ⟨rfl, hi⟩]; exact h.mid i hi
  · rw [whT_get hi hj n (Nat.le_refl _), if_neg (by omega)]; omega
theorem tab_at {xs : List Int} {n : Nat} (h : Tab xs n) {k : Nat} (hk : k < n * n) : 0 ≤ xs.getD k 0 ∧ xs.getD k 0 ≤ 6 := by
  have hn : 0 < n := by
    rcases Nat.eq_zero_or_pos n with e | e
    · subst e; omega
    · exact e
  have e : k = (k / n) * n + k % n := by rw [Nat.mul_comm]; exact (Nat.div_add_mod k n).symm
  rw [e]
  exact h.at_ (Nat.div_lt_of_lt_mul hk) (Nat.mod_lt _ hn)
theorem mid_all {xs : List Int} {n : Nat} (h2 : 2 ≤ n) (h4 : n ≤ 4) (hl : xs.length = n * n) (ho : ∀ i j, i < n → j < n → i ≠ j → xs.getD (i * n + j) 0 = 0) : diI xs n n = xs.sum := by
  rw [stI_all hl]
  have : n = 2 ∨ n = 3 ∨ n = 4 := by omega
  rcases this with rfl | rfl | rfl
  · have a1 := ho 0 1 (by omega) (by omega) (by omega)
    have a2 := ho 1 0 (by omega) (by omega) (by omega)
    simp only [diI, stI, Nat.zero_mul, Nat.one_mul, Nat.zero_add, Nat.add_zero, Nat.reduceMul, Nat.reduceAdd] at *
    omega
  · have a1 := ho 0 1 (by omega) (by omega) (by omega)
    have a2 := ho 0 2 (by omega) (by omega) (by omega)
    have a3 := ho 1 0 (by omega) (by omega) (by omega)
    have a4 := ho 1 2 (by omega) (by omega) (by omega)
    have a5 := ho 2 0 (by omega) (by omega) (by omega)
    have a6 := ho 2 1 (by omega) (by omega) (by omega)
    simp only [diI, stI, Nat.zero_mul, Nat.one_mul, Nat.zero_add, Nat.add_zero, Nat.reduceMul, Nat.reduceAdd] at *
    omega
  · have a1 := ho 0 1 (by omega) (by omega) (by omega)
    have a2 := ho 0 2 (by omega) (by omega) (by omega)
    have a3 := ho 0 3 (by omega) (by omega) (by omega)
    have a4 := ho 1 0 (by omega) (by omega) (by omega)
    have a5 := ho 1 2 (by omega) (by omega) (by omega)
    have a6 := ho 1 3 (by omega) (by omega) (by omega)
    have a7 := ho 2 0 (by omega) (by omega) (by omega)
    have a8 := ho 2 1 (by omega) (by omega) (by omega)
    have a9 := ho 2 3 (by omega) (by omega) (by omega)
    have b1 := ho 3 0 (by omega) (by omega) (by omega)
    have b2 := ho 3 1 (by omega) (by omega) (by omega)
    have b3 := ho 3 2 (by omega) (by omega) (by omega)
    simp only [diI, stI, Nat.zero_mul, Nat.one_mul, Nat.zero_add, Nat.add_zero, Nat.reduceMul, Nat.reduceAdd] at *
    omega
theorem alone_tab : ∀ x : Nat, x < 6 → (FloatKind.f32.format.order (fb .sub .f32 1065353216 (agB ((x + 1 : Nat) : Int) [(((x + 1 : Nat) : Int), ((x + 1 : Nat) : Int))])) 0 == some .eq) = true := by decide +kernel
/-- A table of one. -/
theorem alone {xs : List Int} (h : Tab xs 1) : 0 < xs.sum ∧ xs.sum ≤ 96 ∧ (FloatKind.f32.format.order (fb .sub .f32 1065353216 (agB xs.sum (agL xs 1 1))) 0 == some .eq) = true := by
  have hs := stI_all h.len
  have h0 := h.mid 0 (by omega)
  have e1 : stI xs (1 * 1) = xs.getD 0 0 := by simp [stI]
  have e2 : agL xs 1 1 = [(xs.getD 0 0, xs.getD 0 0)] := by simp [agL, rowI, colI]
  have e3 : xs.getD (0 * 1 + 0) 0 = xs.getD 0 0 := rfl
  rw [e3] at h0
  rw [hs, e1, e2]
  refine ⟨by omega, by omega, ?_⟩
  have := alone_tab (xs.getD 0 0 - 1).toNat (by omega)
  have e4 : (((xs.getD 0 0 - 1).toNat + 1 : Nat) : Int) = xs.getD 0 0 := by omega
  rwa [e4] at this
/-- Agreement of small tables: what is told. -/
theorem agree_told {xs : List Int} {n : Nat} (h : Tab xs n) (h2 : 2 ≤ n) (h4 : n ≤ 4) : 0 < xs.sum ∧ xs.sum ≤ 96 ∧ (FloatKind.f32.format.order (fb .sub .f32 1065353216 (agB xs.sum (agL xs n n))) 0 == some .eq) = false ∧ fin .f32 (agV (diI xs n n) xs.sum (agL xs n n)) = true ∧
    (FloatKind.f64.format.order (wide (agV (diI xs n n) xs.sum (agL xs n n))) 4607186922399644778 == some .lt) = true ∧ (FloatKind.f64.format.order (wide (agV (diI xs n n) xs.sum (agL xs n n))) 13830558959254420586 == some .gt) = true ∧
    (diI xs n n = xs.sum → (FloatKind.f64.format.order (gapV (agV (diI xs n n) xs.sum (agL xs n n)) 1065353216) 4562254508917369340 == some .lt) = true) := by
  have k := ag_all h h2 h4
  have hlen : ∀ m, (agL xs n m).length = m := fun m => by
    induction m with
    | zero => rfl
    | succ m ih => rw [agL, List.length_cons, ih]
  obtain ⟨a1, a2, a3, a4, a5, a6⟩ := agV_ok k.pos k.most (by rw [hlen]; exact h4) k.mem k.m0 k.m1 k.one k.two
  obtain ⟨c1, c2⟩ := agree_in a3 a4 a5
  refine ⟨k.pos, by have := k.most; omega, ?_, a3, c1, c2, fun he => gap_near a3 a4 (a6 he)⟩
  rw [ord_eq a1 f0.1, decide_eq_false_iff_not, f0.2]
  exact fun e => by rw [e] at a2; exact absurd a2 Rat.lt_irrefl
/-- The four numbers that a law chooses. -/
structure Four (l h a b LO HI AL BE : Nat) : Prop where
  l6 : l < 6
  h8 : h < 8
  a7 : a < 7
  b7 : b < 7
  e1 : shq (l + 1) = LO
  e2 : hiq l h = HI
  e3 : shq (a + 1) = AL
  e4 : shq (b + 1) = BE
theorem Four.bars {l h a b LO HI AL BE : Nat} (k : Four l h a b LO HI AL BE) {w : World} : Calls Try.prog 18 #[.float .f32 AL, .float .f32 BE] w fun e w' => e = .returned (.tuple #[.float .f32 (barA a b), .float .f32 (barB a b), .bool true]) ∧ Below w.heap.size w w' := by
  obtain ⟨h1, h2, h3, h4, rfl, rfl, rfl, rfl⟩ := k
  exact q_Bars h3 h4
theorem Four.test {l h a b LO HI AL BE : Nat} (k : Four l h a b LO HI AL BE) {A : Option Addr} {n c : Nat} {xs : List Bool} {w : World} (hr : Reads w w.heap.size 1 A n (bl xs)) (hn : n ≤ 256) {E M : Int} (hE : seqRes (barA a b) (barB a b) (upU l h) (upD l h) xs 0 0 = (E, M)) :
    Calls Try.prog 19 #[.slice A n c, .float .f32 LO, .float .f32 HI, .float .f32 AL, .float .f32 BE] w fun e w' => e = .returned (.tuple #[.int .i64 E, .int .i64 M, .bool true]) ∧ Below w.heap.size w w' := by
  obtain ⟨h1, h2, h3, h4, rfl, rfl, rfl, rfl⟩ := k
  exact q_Test h1 h2 h3 h4 hr hn hE
theorem Four.chances {l h a b LO HI AL BE : Nat} (k : Four l h a b LO HI AL BE) {sh m o0 o1 o2 : Nat} {w : World} (hs : shB sh = true) (hm : m ≤ 64) (ho : (chSt (barA a b) (barB a b) (upU l h) (upD l h) sh m).2 = [o0, o1, o2]) (hf : fin .f32 o0 = true ∧ fin .f32 o1 = true ∧ fin .f32 o2 = true) :
    Calls Try.prog 20 #[.float .f32 sh, .float .f32 LO, .float .f32 HI, .float .f32 AL, .float .f32 BE, .int .i64 (m : Int)] w fun e w' => ∃ g c, e = .returned (.tuple #[.slice (some ⟨g, 0, none⟩) 3 c, .bool true]) ∧ w'.ownsRow w.heap.size 27 1 (.slice (some ⟨g, 0, none⟩) 3 c) 3 (fl .f32 [o0, o1, o2]) ∧ Below w.heap.size w w' := by
  obtain ⟨h1, h2, h3, h4, rfl, rfl, rfl, rfl⟩ := k
  exact q_Chances h1 h2 h3 h4 hs hm ho hf
theorem seqRes_0 {A B up dn : Nat} (xs : List Bool) : ∃ (E : Int) (M : Nat), seqRes A B up dn xs 0 0 = (E, (M : Int)) ∧ M ≤ xs.length ∧ (E = 0 ∨ E = 1 ∨ E = -1) ∧ (E = 0 → M = xs.length) ∧ seqRes A B up dn (xs.take M) 0 0 = (E, (M : Int)) := by
  obtain ⟨e, m, h1, h2, h3, h4, h5⟩ := seqRes_spec (A := A) (B := B) (up := up) (dn := dn) xs 0 0
  rw [Nat.zero_add] at h1 h5
  exact ⟨e, m, h1, h2, h3, h4, h5⟩
theorem snoc_bl {w : World} {b : Nat} {t : TypeId} {v : Value} {k : Nat} {z : Bool} {zs : List Bool} (h : w.ownsRow b t 1 v k (bl zs ++ [.bool z])) : w.ownsRow b t 1 v k (bl (zs ++ [z])) := by
  rw [bl, List.map_append]; exact h
theorem own_cap2 {w : World} {base : Nat} {e : TypeId} {size n c : Nat} {A : Option Addr} {xs : List Value} (h : w.ownsRow base e size (.slice A n c) n xs) : n ≤ c := by
  rcases h.2 with ⟨h1, h2⟩ | ⟨g1, c1, cur, h1, _, _, h2, _⟩
  · omega
  · injection h1 with _ _ h4; omega
theorem reads_take {w : World} {B n m : Nat} {A : Option Addr} {xs : List Bool} (h : Reads w B 1 A n (bl xs)) (hm : m ≤ n) : Reads w B 1 A m (bl (xs.take m)) := by
  have hl := h.map_len
  refine ⟨by unfold bl; simp; omega, fun h0 => ?_⟩
  obtain ⟨ad, e, hb, hc⟩ := h.2 (by omega)
  refine ⟨ad, e, hb, fun j u hu => hc j u ?_⟩
  unfold bl at hu ⊢
  rw [List.getElem?_map] at hu ⊢
  rw [List.getElem?_take] at hu
  split at hu
  · exact hu
  · cases hu
/-- A row of whole numbers in a block. -/
def RowI (w : World) (g N : Nat) (L : List Int) : Prop := ∃ cur : Array Value, Blk w g 2 cur ∧ L.length = N ∧ N ≤ cur.size ∧ ∀ i, i < N → cur[i]? = some (.int .i64 (L.getD i 0))
theorem row_of_own {w : World} {base N : Nat} {v : Value} {L : List Int} (h : w.ownsRow base 2 1 v N (il L)) (hN : 0 < N) : ∃ g c, v = .slice (some ⟨g, 0, none⟩) N c ∧ base ≤ g ∧ RowI w g N L := by
  rcases h with ⟨hl, ⟨_, h0⟩ | ⟨g, cap, cur, rfl, hb, hh, hc, _, hs, ht⟩⟩
  · omega
  · have hL : L.length = N := by unfold il at hl; simp at hl; omega
    refine ⟨g, cap, rfl, hb, cur, hh, hL, by omega, fun i hi => ?_⟩
    have e : (cur.toList.take (N * 1))[i]? = (il L)[i]? := by rw [ht]
    rw [List.getElem?_take, if_pos (by omega), Array.getElem?_toList] at e
    rw [e]
    unfold il
    rw [List.getElem?_map, List.getD_eq_getElem?_getD, List.getElem?_eq_getElem (by omega)]; rfl
theorem RowI.lt {w : World} {g N : Nat} {L : List Int} (h : RowI w g N L) : g < w.heap.size := by
  obtain ⟨cur, hb, _⟩ := h; exact hb.lt
theorem RowI.cell {w : World} {g N : Nat} {L : List Int} (h : RowI w g N L) {i : Nat} (hi : i < N) : w.cell? ⟨g, i, none⟩ = some (.int .i64 (L.getD i 0)) := by
  obtain ⟨cur, hb, _, _, hc⟩ := h
  rw [hb.cell, hc i hi]
theorem RowI.frozen {w : World} {g N : Nat} {L : List Int} (h : RowI w g N L) (i : Nat) : w.frozen? ⟨g, i, none⟩ = false := by
  obtain ⟨cur, hb, _⟩ := h; exact hb.frozen i
theorem RowI.put {w : World} {g N : Nat} {L : List Int} (h : RowI w g N L) {i : Nat} (hi : i < N) (v : Int) : RowI (w.setCell ⟨g, i, none⟩ (.int .i64 v)) g N (L.set i v) := by
  obtain ⟨cur, hb, hl, hs, hc⟩ := h
  refine ⟨_, hb.set_ i _, by rw [List.length_set]; exact hl, by simpa using hs, fun j hj => ?_⟩
  rw [getD_set (by omega), Array.getElem?_setIfInBounds]
  by_cases e : i = j
  · rw [if_pos e, if_pos e, if_pos (by omega)]
  · rw [if_neg e, if_neg e]; exact hc j hj
theorem RowI.far {w : World} {g N : Nat} {L : List Int} (h : RowI w g N L) {p : Addr} (hp : g ≠ p.block) (u : Value) : RowI (w.setCell p u) g N L := by
  obtain ⟨cur, hb, r⟩ := h; exact ⟨cur, hb.far hp u, r⟩
theorem RowI.alloc {w : World} {g N : Nat} {L : List Int} (h : RowI w g N L) (o : Obj) : RowI (w.alloc o) g N L := by
  obtain ⟨cur, hb, r⟩ := h; exact ⟨cur, hb.alloc o, r⟩
theorem RowI.below {w w' : World} {g N : Nat} {L : List Int} (h : RowI w g N L) (hb' : Below w.heap.size w w') : RowI w' g N L := by
  have hl := h.lt
  obtain ⟨cur, hb, r⟩ := h; exact ⟨cur, hb.below hb' hl, r⟩
theorem RowI.reads {w : World} {g N B : Nat} {L : List Int} (h : RowI w g N L) (hB : g < B) : Reads w B 1 (some ⟨g, 0, none⟩) N (il L) := by
  have hl : L.length = N := by obtain ⟨_, _, h, _⟩ := h; exact h
  refine ⟨by unfold il; simp; exact hl, fun _ => ⟨⟨g, 0, none⟩, rfl, hB, fun j u hu => ?_⟩⟩
  unfold il at hu
  rw [List.getElem?_map] at hu
  rw [Addr.add_lit, Nat.zero_add]
  by_cases hj : j < N
  · rw [h.cell hj, ← hu, List.getD_eq_getElem?_getD, List.getElem?_eq_getElem (by omega)]; rfl
  · rw [List.getElem?_eq_none (by omega)] at hu; cases hu
theorem RowI.made (w : World) (N : Nat) : RowI (w.alloc (.cells (Array.replicate N (.int .i64 0)) 2)) w.heap.size N (List.replicate N 0) := by
  refine ⟨_, Blk.new w _ _, by simp, by simp, fun i hi => ?_⟩
  rw [Array.getElem?_replicate, if_pos hi, List.getD_eq_getElem?_getD, List.getElem?_replicate, if_pos hi]; rfl
theorem run_make_i64 {N : Nat} (hN : N ≤ 1000) (W : World) : (Instr.makeSlice 40 (.int .i64 (N : Int)) (.int .i64 (N : Int))).run Try.prog W = .ok (.slice (some ⟨W.heap.size, 0, none⟩) N N) (W.alloc (.cells (Array.replicate N (.int .i64 0)) 2)) :=
  run_make1 40 2 (.int .i64 0) 8 info_i64 Try.underlying40 rfl N (by omega) (by omega) W
theorem run_make_bool (W : World) : (Instr.makeSlice 46 (.int .i64 256) (.int .i64 256)).run Try.prog W = .ok (.slice (some ⟨W.heap.size, 0, none⟩) 256 256) (W.alloc (.cells (Array.replicate 256 (.bool false)) 4)) :=
  run_make1 46 4 (.bool false) 1 info_bool Try.underlying46 rfl 256 (by omega) (by omega) W
theorem reads_bools (W : World) : Reads (W.alloc (.cells (Array.replicate 256 (.bool false)) 4)) (W.alloc (.cells (Array.replicate 256 (.bool false)) 4)).heap.size 1 (some ⟨W.heap.size, 0, none⟩) 256 (bl (List.replicate 256 false)) := by
  refine ⟨by simp [bl], fun _ => ⟨⟨W.heap.size, 0, none⟩, rfl, by simp, fun j u hu => ?_⟩⟩
  unfold bl at hu
  rw [List.map_replicate, List.getElem?_replicate] at hu
  split at hu
  · rename_i hj
    rw [Addr.add_lit]
    have := (Blk.new W 4 (Array.replicate 256 (.bool false))).cell j
    rw [Nat.zero_add, this, ← hu, Array.getElem?_replicate, if_pos hj]
  · cases hu
theorem agree_yes {w : World} {g N n c : Nat} {L : List Int} (h : RowI w g N L) (hT : Tab L n) (hN : n * n = N) (h2 : 2 ≤ n) (h4 : n ≤ 4) :
    Calls Try.prog 23 #[.slice (some ⟨g, 0, none⟩) N c, .int .i64 (n : Int)] w fun e w' => e = .returned (.tuple #[.float .f32 (agV (diI L n n) L.sum (agL L n n)), .bool true]) ∧ Below w.heap.size w w' := by
  obtain ⟨a1, a2, a3, a4, _⟩ := agree_told hT h2 h4
  exact i_AgreeOf (b := false) (h.reads h.lt) (Nat.le_refl _) hN (by omega) h4 (fun k hk => tab_at hT (by rw [hN]; exact hk)) a1 a2 a3 (fun _ => a4)
theorem agree_no {w : World} {g c : Nat} {L : List Int} (h : RowI w g 1 L) (hT : Tab L 1) :
    Calls Try.prog 23 #[.slice (some ⟨g, 0, none⟩) 1 c, .int .i64 1] w fun e w' => e = .returned (.tuple #[.float .f32 0, .bool false]) ∧ Below w.heap.size w w' := by
  obtain ⟨a1, a2, a3⟩ := alone hT
  exact i_AgreeOf (n := 1) (b := true) (h.reads h.lt) (Nat.le_refl _) rfl (by omega) (by omega) (fun k hk => tab_at hT (by omega)) a1 a2 a3 (fun h => by cases h)
theorem RowI.len {w : World} {g N : Nat} {L : List Int} (h : RowI w g N L) : L.length = N := by
  obtain ⟨_, _, h, _⟩ := h; exact h
theorem gapF_ok {fs fp : Nat} (h1 : fs < 21) (h2 : fp < 21) (h3 : fs ≤ fp + 1) (h4 : fp ≤ fs + 1) : (FloatKind.f64.format.order (gapV (Fn fp) (floatOfInt .f32 (fs : Int))) 4607186922399644778 == some .gt) = false ∧ fin .f32 (floatOfInt .f32 (fs : Int)) = true := by
  have h := step_gap fp h2 fs h1
  rw [decide_eq_true h3, decide_eq_true h4] at h
  exact ⟨h, (k_F fs (by omega)).2.2⟩
end Go.Proofs.Ytolbibpmngmpdaa
