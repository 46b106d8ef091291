/-
  Lines of desks, from what their words do.
-/
import Derived.Test.YtjmpldcnhjgpkaaGreatDoorDkI
import Derived.Test.YtjmpldcnhjgpkaaGreatDoorReadL
import Derived.Test.YtjmpldcnhjgpkaaGreatDoorLtT
import Derived.Test.YtjmpldcnhjgpkaaGreatDoorChc
import Derived.Test.YtjmpldcnhjgpkaaGreatDoorLfE
import Derived.Test.YtjmpldcnhjgpkaaGreatDoorSrc
import Derived.Test.YtjmpldcnhjgpkaaGreatDoorBelW
import Derived.Test.YtjmpldcnhjgpkaaGreatDoorBaF
namespace Go.Proofs.YtjmpldcnhjgpkaaGreatDoor
open Go.RowKit Mem Fl Go.Shelf
set_option linter.unusedVariables false
set_option maxRecDepth 100000

theorem Gl.drewN {w : World} (h : Gl w) (k : Nat) : Gl (w.drewN k) := h.below (below_drewN (Below.refl _ _) k)
theorem DkAt.drewN {w : World} {lo g : Nat} {D : Dk} (h : DkAt w lo g D) (k : Nat) : DkAt (w.drewN k) lo g D := by
  obtain ⟨LA, ln, lc, RA, rn, rc, h1, h2⟩ := h
  exact ⟨LA, ln, lc, RA, rn, rc, h1.drewN k, h2.drewN k⟩
theorem Line.one {D D' : Dk} {a t : ByteArray} {ok has : Bool} (H : ∀ (W : World) (lo g : Nat), DkAt W lo g D → Gl W → Calls Tryz.prog 117 #[.pointer (some ⟨g, 0, none⟩), .string a] W (Did lo g D' t ok has W)) : Line D [a] D' t ok has :=
  fun W lo g b hA hG hB _ => ca_one hB (H W lo g hA hG)
theorem Line.two {D D' : Dk} {a a2 t : ByteArray} {ok has : Bool} (H : ∀ (W : World) (lo g : Nat), DkAt W lo g D → Gl W → Calls Tryz.prog 118 #[.pointer (some ⟨g, 0, none⟩), .string a, .string a2] W (Did lo g D' t ok has W)) : Line D [a, a2] D' t ok has :=
  fun W lo g b hA hG hB hne => ca_two hne hB (fun k => H _ lo g (hA.drewN k) (hG.drewN k))
theorem Line.three {D D' : Dk} {a a2 a3 t : ByteArray} {ok has : Bool} (H : ∀ (W : World) (lo g : Nat), DkAt W lo g D → Gl W → Calls Tryz.prog 119 #[.pointer (some ⟨g, 0, none⟩), .string a, .string a2, .string a3] W (Did lo g D' t ok has W)) : Line D [a, a2, a3] D' t ok has :=
  fun W lo g b hA hG hB hne => ca_three hne hB (fun k => H _ lo g (hA.drewN k) (hG.drewN k))
theorem Line.yes {D D' : Dk} {line t : ByteArray} {P : List ByteArray} (h : Line D P D' t true true) (hl : line.size ≤ 1048576) (hP : splitS line 32 = P) (hok : dkOk D' = true) : Cmd D line D' t :=
  fun v w hv hG => cmd_yes hv hG hl hP h hok
theorem Line.what {D D' : Dk} {line t : ByteArray} {ok : Bool} {P : List ByteArray} (h : Line D P D' t ok false) (hl : line.size ≤ 1048576) (hP : splitS line 32 = P) : Cmd D line D ⟨#[119, 104, 97, 116]⟩ :=
  fun v w hv hG => cmd_what hv hG hl hP h
theorem Line.no {D D' : Dk} {line t : ByteArray} {P : List ByteArray} (h : Line D P D' t false true) (hl : line.size ≤ 1048576) (hP : splitS line 32 = P) : Cmd D line D ⟨#[110, 111]⟩ :=
  fun v w hv hG => cmd_no hv hG hl hP h
end Go.Proofs.YtjmpldcnhjgpkaaGreatDoor

/-
  Texts: their bytes, and that they are read back: plain law.
-/
namespace Go.Proofs.YtjmpldcnhjgpkaaGreatDoor
open Go.RowKit Mem Fl
set_option linter.unusedVariables false
set_option maxRecDepth 100000

/-- All bytes are above the blank. -/
def hiB (s : ByteArray) : Prop := ∀ b ∈ s.data.toList, 33 ≤ b.toNat
theorem hiB.no {s : ByteArray} (h : hiB s) {m : UInt8} (hm : m.toNat < 33) : m ∉ s.data.toList := fun hb => by have := h m hb; omega
theorem hiB.app {a b : ByteArray} (ha : hiB a) (hb : hiB b) : hiB (a ++ b) := by
  intro x hx
  rw [ByteArray.data_append, Array.toList_append] at hx
  rcases List.mem_append.1 hx with h | h
  · exact ha x h
  · exact hb x h
theorem hexDig_48 : ∀ i : Fin 16, 48 ≤ (hexDig i.val).toNat := by decide +kernel
theorem hexPad_48 : ∀ (k n : Nat), ∀ b ∈ hexPad k n, 48 ≤ b.toNat
  | 0, n, b, h => by simp [hexPad] at h
  | k + 1, n, b, h => by
    rw [hexPad] at h
    rcases List.mem_append.1 h with h | h
    · exact hexPad_48 k _ b h
    · rw [List.mem_singleton] at h; subst h; exact hexDig_48 ⟨n % 16, by omega⟩
theorem hexB_48 (n : Nat) : ∀ b ∈ (hexB n).data.toList, 48 ≤ b.toNat := fun b hb => hexPad_48 8 n b (by
  have e : (hexB n).data.toList = hexPad 8 n := List.toList_toArray
  rwa [e] at hb)
theorem numS_45 (n : Int) : ∀ b ∈ (numS n).data.toList, 45 ≤ b.toNat ∧ b.toNat ≤ 57 := by
  intro b hb
  have e : (numS n).data.toList = Lib.itoa n := rfl
  rw [e, itoa_of] at hb
  split at hb
  · rcases List.mem_cons.1 hb with h | h
    · subst h; decide
    · have := dec_head _ b h; omega
  · have := dec_head _ b hb; omega
theorem numS_ne (n : Int) : ∀ b ∈ (numS n).data.toList, b = 45 ∨ 48 ≤ b.toNat := by
  intro b hb
  have e : (numS n).data.toList = Lib.itoa n := rfl
  rw [e, itoa_of] at hb
  split at hb
  · rcases List.mem_cons.1 hb with h | h
    · exact .inl h
    · exact .inr (dec_head _ b h).1
  · exact .inr (dec_head _ b hb).1
theorem numS_hi (n : Int) : hiB (numS n) := fun b hb => by have := numS_45 n b hb; omega
theorem joined_hi {L : List ByteArray} (h : ∀ p ∈ L, hiB p) : hiB (joinedB L) := by
  unfold joinedB
  split
  · intro b hb
    have : b ∈ ([110, 111, 110, 101] : List UInt8) := hb
    revert this; revert b; decide
  · intro b hb
    have hb' : b ∈ Lib.join (L.map (·.data.toList)) [44] := by
      have e : (⟨(Lib.join (L.map (·.data.toList)) [44]).toArray⟩ : ByteArray).data.toList = Lib.join (L.map (·.data.toList)) [44] := List.toList_toArray
      rwa [e] at hb
    rcases mem_join hb' with e | ⟨p, hp, hbp⟩
    · subst e; decide
    · obtain ⟨q, hq, rfl⟩ := List.mem_map.1 hp
      exact h q hq b hbp
theorem tx_hi (xs : List Nat) : hiB (joinedB (tx xs)) := joined_hi (fun p hp => by
  unfold tx at hp
  obtain ⟨x, _, rfl⟩ := List.mem_map.1 hp
  exact fun b hb => by have := hexB_48 _ b hb; omega)
theorem dx_hi (xs : List Int) : hiB (joinedB (dx xs)) := joined_hi (fun p hp => by
  unfold dx at hp
  obtain ⟨x, _, rfl⟩ := List.mem_map.1 hp
  exact numS_hi x)
theorem byte_hi {m : UInt8} (h : 33 ≤ m.toNat) : hiB ⟨#[m]⟩ := fun b hb => by
  have : b ∈ ([m] : List UInt8) := hb
  rw [List.mem_singleton] at this; subst this; exact h
theorem headB_hi (n : Int) (xs : List Nat) : hiB (headB n (joinedB (tx xs))) := ((numS_hi n).app (byte_hi (by decide))).app (tx_hi xs)
theorem planS_hi (a b : Int) : hiB (planS a b) := ((numS_hi a).app (byte_hi (by decide))).app (numS_hi b)
/-- Two parts. -/
theorem split2 {a b : ByteArray} {m : UInt8} (ha : m ∉ a.data.toList) (hb : m ∉ b.data.toList) : splitS ((a ++ ⟨#[m]⟩) ++ b) m = [a, b] := by
  have h := split_join (m := m) [b] a (by
    intro q hq
    rcases List.mem_cons.1 hq with rfl | hq
    · exact ha
    · rw [List.mem_singleton] at hq; subst hq; exact hb)
  have e : (⟨(Lib.join ((a :: [b]).map (·.data.toList)) [m]).toArray⟩ : ByteArray) = (a ++ ⟨#[m]⟩) ++ b := by
    apply ba_ext
    simp [Lib.join_cons, Lib.joinTail]
  rwa [e] at h
theorem split3 {a b c : ByteArray} {m : UInt8} (ha : m ∉ a.data.toList) (hb : m ∉ b.data.toList) (hc : m ∉ c.data.toList) : splitS ((((a ++ ⟨#[m]⟩) ++ b) ++ ⟨#[m]⟩) ++ c) m = [a, b, c] := by
  have h := split_join (m := m) [b, c] a (by
    intro q hq
    simp only [List.mem_cons, List.not_mem_nil, or_false] at hq
    rcases hq with rfl | rfl | rfl
    · exact ha
    · exact hb
    · exact hc)
  have e : (⟨(Lib.join ((a :: [b, c]).map (·.data.toList)) [m]).toArray⟩ : ByteArray) = (((a ++ ⟨#[m]⟩) ++ b) ++ ⟨#[m]⟩) ++ c := by
    apply ba_ext
    simp [Lib.join_cons, Lib.joinTail]
  rwa [e] at h
/-- Numbers are read back. -/
theorem allN_tx : ∀ xs : List Nat, (∀ x ∈ xs, x < 4294967296 ∧ cn .f32 x = x) → allN (tx xs) = some xs
  | [], _ => rfl
  | x :: xs, h => by
    obtain ⟨h1, h2⟩ := h x (by simp)
    have hr : readN (hexB (cn .f32 x)) = some x := readN_iff.2 ⟨hexB_size _, by rw [h2, hexV_B h1], h2⟩
    show allN (hexB (cn .f32 x) :: tx xs) = _
    simp only [allN]
    rw [hr, allN_tx xs (fun y hy => h y (List.mem_cons_of_mem _ hy))]
    rfl
theorem numsV_tx {xs : List Nat} (h : ∀ x ∈ xs, x < 4294967296 ∧ cn .f32 x = x) (h1 : xs ≠ []) (hl : xs.length ≤ 256) : numsV (joinedB (tx xs)) = some xs := by
  cases xs with
  | nil => exact absurd rfl h1
  | cons x xs =>
    have hj : joinedB (tx (x :: xs)) = ⟨(Lib.join ((tx (x :: xs)).map (·.data.toList)) [44]).toArray⟩ := by
      unfold joinedB; rw [if_neg (by simp [tx])]
    have hs : splitS (joinedB (tx (x :: xs))) 44 = tx (x :: xs) := by
      rw [hj]
      exact split_join (tx xs) (hexB (cn .f32 x)) (fun q hq => by
        have hq' : q ∈ tx (x :: xs) := hq
        unfold tx at hq'
        obtain ⟨y, _, rfl⟩ := List.mem_map.1 hq'
        intro hm
        have := hexB_48 _ _ hm
        revert this; decide)
    have hne : joinedB (tx (x :: xs)) ≠ noneB := by
      intro e
      rw [e] at hs
      have e1 : splitS noneB 44 = [noneB] := splitS_miss (by
        intro i hi
        have := List.mem_of_getElem? hi
        revert this; decide)
      rw [e1] at hs
      have e2 : tx (x :: xs) = hexB (cn .f32 x) :: tx xs := rfl
      rw [e2] at hs
      injection hs with hs _
      have := congrArg ByteArray.size hs
      rw [hexB_size] at this
      revert this; decide
    unfold numsV
    rw [if_neg hne, hs, if_pos (by rw [tx_len]; exact hl)]
    exact allN_tx _ h
theorem headV_head {n : Int} {xs : List Nat} (hn : n.natAbs ≤ 1000000000000000) (h : ∀ x ∈ xs, x < 4294967296 ∧ cn .f32 x = x) (h1 : xs ≠ []) (hl : xs.length ≤ 256) : headV (headB n (joinedB (tx xs))) = some (n, xs) := by
  have hs : splitS (headB n (joinedB (tx xs))) 59 = [numS n, joinedB (tx xs)] := split2 (fun hm => by have := numS_45 n _ hm; revert this; decide) (numsV_plain (numsV_tx h h1 hl))
  rw [headV_two hs, valV_iff.2 ⟨hn, rfl⟩, numsV_tx h h1 hl]
  rfl
theorem lawV_text {kd : Int} {sh sc : Nat} (hk : lawOk kd sh sc = true) (hn : kd.natAbs ≤ 1000) (h1 : sh < 4294967296 ∧ cn .f32 sh = sh) (h2 : sc < 4294967296 ∧ cn .f32 sc = sc) : lawV (headB kd (joinedB (tx [sh, sc]))) = some (kd, sh, sc) := by
  have hh := headV_head (n := kd) (xs := [sh, sc]) (by omega) (by intro x hx; simp only [List.mem_cons, List.not_mem_nil, or_false] at hx; rcases hx with rfl | rfl; exact h1; exact h2) (by simp) (by simp)
  unfold lawV
  rw [hh]
  simp only [Option.bind_some]
  rw [if_pos hk]
theorem chainV_text {st : Int} {rs : List Nat} (hk : chainOk st rs = true) (hn : st.natAbs ≤ 1000) (h : ∀ x ∈ rs, x < 4294967296 ∧ cn .f32 x = x) (h1 : rs ≠ []) (hl : rs.length ≤ 256) : headV (headB st (joinedB (tx rs))) = some (st, rs) ∧ chainV (headB st (joinedB (tx rs))) = some (st, rs) := by
  have hh := headV_head (n := st) (xs := rs) (by omega) h h1 hl
  refine ⟨hh, ?_⟩
  unfold chainV
  rw [hh]
  simp only [Option.bind_some]
  rw [if_pos hk]
theorem planV_text {a b : Int} (hk : planOkT a b = true) (ha : a.natAbs ≤ 1000) (hb : b.natAbs ≤ 1000) : planV (planS a b) = some (a, b) := by
  have hs : splitS (planS a b) 47 = [numS a, numS b] := by
    refine split2 ?_ ?_
    · intro hm; have := numS_ne a _ hm; revert this; decide
    · intro hm; have := numS_ne b _ hm; revert this; decide
  rw [planV_two hs (valV_iff.2 ⟨by omega, rfl⟩) (valV_iff.2 ⟨by omega, rfl⟩), if_pos hk]
theorem endsB_data (l : List (Nat × Bool)) : (endsB l).data.toList = l.map fun p => endB p.2 := List.toList_toArray
theorem endsB_fl (l : List (Nat × Bool)) : (endsB l).data.toList.all isFl = true := by
  rw [endsB_data, List.all_map, List.all_eq_true]
  intro p _
  obtain ⟨x, b⟩ := p
  cases b <;> rfl
theorem lifes_ends : ∀ l : List (Nat × Bool), lifesOf (timesL l) (l.map fun p => endB p.2) = l
  | [] => rfl
  | (x, b) :: l => by
    have ih := lifes_ends l
    unfold lifesOf timesL at ih ⊢
    simp only [List.map_cons, List.zipWith_cons_cons]
    rw [ih]
    cases b <;> rfl
theorem livesV_text {l : List (Nat × Bool)} (hk : livesOk l = true) (h : ∀ p ∈ l, p.1 < 4294967296 ∧ cn .f32 p.1 = p.1) : livesV (livesB l) = some l := by
  obtain ⟨h1, h2⟩ := livesOk_rng hk
  have hnv : numsV (joinedB (tx (timesL l))) = some (timesL l) := numsV_tx (by
    intro x hx
    unfold timesL at hx
    obtain ⟨p, hp, rfl⟩ := List.mem_map.1 hx
    exact h p hp) (by intro e; unfold timesL at e; have := congrArg List.length e; simp at this; rw [this] at h1; simp at h1) (by unfold timesL; simp; omega)
  have hs : splitS (livesB l) 59 = [joinedB (tx (timesL l)), endsB l] := split2 (numsV_plain hnv) (fun hm => by
    have := List.all_eq_true.1 (endsB_fl l) _ hm
    revert this; decide)
  rw [livesV_two hs, livesMk_some hnv (by rw [endsB_size]; unfold timesL; simp) (endsB_fl l), endsB_data, lifes_ends, if_pos hk]
theorem livesB_hi (l : List (Nat × Bool)) : hiB (livesB l) := ((tx_hi _).app (byte_hi (by decide))).app (fun b hb => by
  have := List.all_eq_true.1 (endsB_fl l) b hb
  unfold isFl at this
  simp only [Bool.or_eq_true, beq_iff_eq] at this
  rcases this with rfl | rfl <;> decide)
/-- Sizes. -/
theorem numS_sz {n : Int} (h : n.natAbs ≤ 1000000000000000) : (numS n).size ≤ 17 := (valV_len (valV_iff.2 ⟨h, rfl⟩)).2
theorem tx_sz (xs : List Nat) : (joinedB (tx xs)).size ≤ 9 * xs.length + 4 := by
  unfold joinedB
  split
  · have : (⟨#[110, 111, 110, 101]⟩ : ByteArray).size = 4 := rfl
    omega
  · have := join_tx xs
    have e : (⟨(Lib.join ((tx xs).map (·.data.toList)) [44]).toArray⟩ : ByteArray).size = (Lib.join ((tx xs).map (·.data.toList)) [44]).length := by show (Lib.join ((tx xs).map (·.data.toList)) [44]).toArray.size = _; rw [List.size_toArray]
    omega
theorem headB_sz {n : Int} {xs : List Nat} (h : n.natAbs ≤ 1000) : (headB n (joinedB (tx xs))).size ≤ 9 * xs.length + 22 := by
  have h1 := numS_sz (n := n) (by omega)
  have h2 := tx_sz xs
  have e : (⟨#[59]⟩ : ByteArray).size = 1 := rfl
  unfold headB
  rw [ByteArray.size_append, ByteArray.size_append]
  omega
theorem livesB_sz (l : List (Nat × Bool)) : (livesB l).size ≤ 10 * l.length + 5 := by
  have h2 := tx_sz (timesL l)
  have h3 := endsB_size l
  have h4 : (timesL l).length = l.length := by unfold timesL; simp
  have e : (⟨#[59]⟩ : ByteArray).size = 1 := rfl
  unfold livesB
  rw [ByteArray.size_append, ByteArray.size_append]
  omega
theorem planS_sz {a b : Int} (ha : a.natAbs ≤ 1000) (hb : b.natAbs ≤ 1000) : (planS a b).size ≤ 35 := by
  have h1 := numS_sz (n := a) (by omega)
  have h2 := numS_sz (n := b) (by omega)
  have e : (⟨#[47]⟩ : ByteArray).size = 1 := rfl
  unfold planS
  rw [ByteArray.size_append, ByteArray.size_append]
  omega
theorem listS_sz {a b : Int} : (listS [a, b]).size ≤ 40 := by
  unfold listS
  split
  · rename_i h
    simp only [List.all_cons, List.all_nil, Bool.and_true, Bool.and_eq_true] at h
    have := join_dx (xs := [a, b]) (by intro x hx; simp only [List.mem_cons, List.not_mem_nil, or_false] at hx; rcases hx with rfl | rfl; exact h.1; exact h.2)
    unfold joinedB
    split
    · exact (by decide : (⟨#[110, 111, 110, 101]⟩ : ByteArray).size ≤ 40)
    · show (Lib.join ((dx [a, b]).map (·.data.toList)) [44]).toArray.size ≤ 40
      rw [List.size_toArray]; simp only [List.length_cons, List.length_nil] at this; omega
  · exact (by decide : (⟨#[]⟩ : ByteArray).size ≤ 40)
end Go.Proofs.YtjmpldcnhjgpkaaGreatDoor

/-
  The desks that the law draws: choices, lives, laws, plans.
-/
namespace Go.Proofs.YtjmpldcnhjgpkaaGreatDoor
open Go.RowKit Fl Mem
set_option linter.unusedVariables false
set_option maxRecDepth 100000

theorem r8_pick1 {p : Value} {m : Int} {w : World} (hm : m ≤ 1) : Calls Tryz.prog 65 #[p, .int .i64 m] w fun e w' => e = .returned (.int .i64 0) ∧ w' = w := by
  go_enter Tryz.func65, Tryz.ntmps65
  go_wp2
  go_ret
  exact ⟨rfl, rfl⟩
/-- A number below m. -/
theorem r8_pick {A : Option Addr} {n c g q B : Nat} {s m : Int} {xs : List Int} {w : World} (hb : SrcAt w g A n c q s) (h : Reads w B 1 A n (xs.map (Value.int .u8))) (hB : B ≤ g) (hx : ∀ a ∈ xs, (Lit.int .u8 a).wf = true)
    (hn : n ≤ 1048576) (hq : q ≤ 1048576) (hm : 0 < m) (hm2 : m ≤ 200) :
    Calls Tryz.prog 65 #[.pointer (some ⟨g, 0, none⟩), .int .i64 m] w fun e w' => ∃ (v q' : Nat) (s' : Int), e = .returned (.int .i64 (v : Int)) ∧ (v : Int) < m ∧ q' ≤ q + 1 ∧ SrcAt w' g A n c q' s' ∧ w.grownBy w' (some g) := by
  by_cases h1 : m ≤ 1
  · exact (r8_pick1 h1).mono fun e w' ⟨h2, h3⟩ => ⟨0, q, s, h2, by simpa using hm, Nat.le_succ _, h3 ▸ hb, h3 ▸ World.grownBy.refl _ _⟩
  · refine (s_pick hb h hB hx hn hq (by omega) hm2).mono fun e w' ⟨v, s', h2, h3, h4, h5, h6⟩ => ?_
    obtain ⟨vk, rfl⟩ := Int.eq_ofNat_of_zero_le h3
    exact ⟨vk, q + 1, s', h2, h4, Nat.le_refl _, h5, h6⟩
theorem r8_one {A : Option Addr} {n c g q B : Nat} {s m : Int} {xs : List Int} {w : World} (hb : SrcAt w g A n c q s) (h : Reads w B 1 A n (xs.map (Value.int .u8))) (hB : B ≤ g) (hx : ∀ a ∈ xs, (Lit.int .u8 a).wf = true)
    (hn : n ≤ 1048576) (hq : q ≤ 1048576) (hm : 0 < m) (hm2 : m ≤ 200) :
    Calls Tryz.prog 101 #[.pointer (some ⟨g, 0, none⟩), .int .i64 m] w fun e w' => ∃ (b : Bool) (q' : Nat) (s' : Int), e = .returned (.bool b) ∧ q' ≤ q + 1 ∧ SrcAt w' g A n c q' s' ∧ w.grownBy w' (some g) := by
  have HP := hide (r8_pick hb h hB hx hn hq hm hm2)
  clear hb h hB hx hn hq hm hm2
  go_enter Tryz.func101, Tryz.ntmps101
  go_wp2_with fail
  refine HP.out.mono ?_
  rintro e w1 ⟨v, q', s', rfl, hv, hq', hb', hg⟩
  obtain ⟨b, hb⟩ : ∃ b, decide (v = 0) = b := ⟨_, rfl⟩
  go_wp2
  go_ret
  exact ⟨_, q', s', rfl, hq', hb', hg⟩
/-- Halves of whole numbers. -/
def r8h (j : Nat) : Nat := fb .quo .f32 (floatOfInt .f32 ((1 : Int) + (j : Int))) 1073741824
def r8q (j : Nat) : Nat := fb .quo .f32 (floatOfInt .f32 ((2 : Int) + (j : Int))) 1082130432
theorem r8h_tab : ∀ j : Nat, j < 32 → isNan .f32 (r8h j) = false ∧ fin .f32 (r8h j) = true ∧ r8h j < 4294967296 ∧ cn .f32 (r8h j) = r8h j ∧ 1 / 2 ≤ fv .f32 (r8h j) ∧ fv .f32 (r8h j) ≤ 16 := by decide +kernel
theorem r8h_12 : ∀ j : Nat, j < 24 → fv .f32 (r8h j) ≤ 12 := by decide +kernel
theorem r8q_tab : ∀ j : Nat, j < 11 → isNan .f32 (r8q j) = false ∧ fin .f32 (r8q j) = true ∧ r8q j < 4294967296 ∧ cn .f32 (r8q j) = r8q j ∧ 1 / 2 ≤ fv .f32 (r8q j) ∧ fv .f32 (r8q j) ≤ 3 := by decide +kernel
/-- Drawn lives. -/
def R8L (l : List (Nat × Bool)) : Prop := ∀ p ∈ l, ∃ j, j < 24 ∧ p.1 = r8h j
theorem r8_snoc (l : List (Nat × Bool)) (x : Nat) (b : Bool) : ll (l ++ [(x, b)]) = ll l ++ [.float .f32 x, .bool b] := by first | exact ll_snoc _ _ | exact ll_snoc | exact ll_snoc (p := (x, b))
set_option maxHeartbeats 4000000 in
theorem r8_lives {A : Option Addr} {n c g q B N : Nat} {s : Int} {xs : List Int} {w : World} (hb : SrcAt w g A n c q s) (h : Reads w B 1 A n (xs.map (Value.int .u8))) (hB : B ≤ g) (hx : ∀ a ∈ xs, (Lit.int .u8 a).wf = true)
    (hn : n ≤ 1048576) (hq0 : q ≤ 1000) (hN : N ≤ 8) :
    Calls Tryz.prog 66 #[.pointer (some ⟨g, 0, none⟩), .int .i64 (N : Int)] w fun e w' => ∃ v l q' s', e = .returned v ∧ w'.ownsRow w.heap.size 69 2 v N (ll l) ∧ Hid (R8L l) ∧ q' ≤ q + 2 * N ∧ SrcAt w' g A n c q' s' ∧ w.grownBy w' (some g) := by
  have hgs := hb.lt
  go_enter Tryz.func66, Tryz.ntmps66
  go_wp2
  go_loopw [1, 5] (fun i v wr => ∃ (k q' : Nat) (l : List (Nat × Bool)) (s' : Int), k ≤ N ∧ q' ≤ q + 2 * k ∧ i = .int .i64 ((N : Int) - (k : Int)) ∧ Hid (R8L l) ∧ SrcAt wr g A n c q' s' ∧ wr.ownsRow w.heap.size 69 2 v k (ll l) ∧ w.grownBy wr (some g)) (fun i _ _ => (intOf i).toNat)
  case atStart => exact ⟨0, q, [], s, Nat.zero_le _, by omega, by simp, hide (fun z hz => by cases hz), by exact hb.alloc _, World.ownsRow_made _ _ _ (Nat.le_refl _) (by simp [maxLen]) (by simp), only_alloc (World.grownBy.refl _ _) _⟩
  case round =>
    obtain ⟨k, q', l, s', hk, hq', rfl, hl, hbk, hown, hgr⟩ := hrel
    rename World => wr
    have Hown := hide hown
    have Hbk := hide hbk
    have hsz := hgr.size
    clear hown hbk
    by_cases hlt : k < N
    · have hpos : (0 : Int) < (N : Int) - (k : Int) := by omega
      have hrd : ∀ W, w.grownBy W (some g) → Reads W B 1 A n (xs.map (Value.int .u8)) := fun W hW => h.grown hW (by omega) (fun g' hg' => by injection hg' with hg'; omega)
      have hP := hide (r8_pick (m := 24) Hbk.out (hrd _ hgr) hB hx hn (by omega) (by decide) (by decide))
      go_wp2_with fail
      refine hP.out.mono ?_
      rintro e w1 ⟨v, q1, s1, rfl, hv, hq1, hb1, hg1⟩
      have hg01 := only_trans hgr hg1
      have htab := r8h_tab v (by omega)
      have hqv : ∀ W, flR .quo .f32 (floatOfInt .f32 ((1 : Int) + (v : Int))) 1073741824 W = r8h v := flR_num htab.1
      have hq0' : flN .quo .f32 (floatOfInt .f32 ((1 : Int) + (v : Int))) 1073741824 = 0 := flN_num htab.1
      have Hown1 := hide (Hown.out.kept hg1 (own_far Hown.out hgs))
      have hO := hide (r8_one (m := 4) hb1 (hrd _ hg01) hB hx hn (by omega) (by decide) (by decide))
      have hvN : v < 24 := by omega
      have HL2 : Hid (∀ b, R8L (l ++ [(r8h v, b)])) := hide (fun b p hp => by
        rcases List.mem_append.1 hp with h1 | h1
        · exact hl.out p h1
        · rw [List.mem_singleton.1 h1]; exact ⟨v, hvN, rfl⟩)
      clear hb1 hP Hown Hbk htab
      go_wp2_with (first
        | (go_at_call 101; refine hO.out.mono ?_; rintro e w2 ⟨b, q2, s2, rfl, hq2, hb2, hg2⟩; have Hown2 := hide (Hown1.out.kept hg2 (own_far Hown1.out hgs)); have hg02 := only_trans hg01 hg2; have hsz2 : w.heap.size ≤ w2.heap.size := hg02.size)
        | (at_builtin; refine wpList_append2 rfl (.tmp 21) (.tmp 25) 24 rfl w.heap.size 69 (.agg #[.float .f32 0, .bool false]) _ _ 8 info_life Tryz.underlying24 rfl rfl _ _ _ rfl Hown2.out (by first | rfl | (show Value.slice (some ⟨_, 0, none⟩) 1 1 = _; simp)) rfl rfl (by omega) (by omega) hsz2 ?_))
      intro v' w' hown' hb'
      rw [← r8_snoc] at hown'
      have HT := hide hown'
      have Hb2 : Hid (SrcAt w' g A n c q2 s2) := hide (Blk.below hb2 hb' hgs)
      have Hg2 : Hid (w.grownBy w' (some g)) := hide (only_below hg02 hb' (Nat.le_refl _))
      clear hown' hb' hb2 hqv hq0' Hown1 Hown2 hO
      go_wp2
      go_roundw
      case rel => exact ⟨k + 1, q2, l ++ [(r8h v, _)], s2, by omega, by omega, by go_num, hide (HL2.out _), Hb2.out, HT.out, Hg2.out⟩
      case measure => simp [intOf]; omega
    · obtain rfl : k = N := by omega
      go_wp2
      go_ret
      exact ⟨_, l, q', s', rfl, Hown.out, hl, hq', Hbk.out, hgr⟩
end Go.Proofs.YtjmpldcnhjgpkaaGreatDoor

/-
  The desks that the law draws: laws and plans.
-/
namespace Go.Proofs.YtjmpldcnhjgpkaaGreatDoor
open Go.RowKit Fl Mem
set_option linter.unusedVariables false
set_option maxRecDepth 100000

set_option maxHeartbeats 4000000 in
theorem r8_law {A : Option Addr} {n c g q B : Nat} {s : Int} {xs : List Int} {w : World} (hb : SrcAt w g A n c q s) (h : Reads w B 1 A n (xs.map (Value.int .u8))) (hB : B ≤ g) (hx : ∀ a ∈ xs, (Lit.int .u8 a).wf = true)
    (hn : n ≤ 1048576) (hq0 : q ≤ 1000) :
    Calls Tryz.prog 67 #[.pointer (some ⟨g, 0, none⟩)] w fun e w' => ∃ (a i j q' : Nat) (s' : Int), e = .returned (.agg #[.int .i64 (a : Int), .float .f32 (r8q i), .float .f32 (r8h j)]) ∧ a < 4 ∧ i < 11 ∧ j < 32 ∧ q' ≤ q + 3 ∧ SrcAt w' g A n c q' s' ∧ w.grownBy w' (some g) := by
  have hgs := hb.lt
  have hrd : ∀ W, w.grownBy W (some g) → Reads W B 1 A n (xs.map (Value.int .u8)) := fun W hW => h.grown hW (by omega) (fun g' hg' => by injection hg' with hg'; omega)
  have HRd := hide hrd
  have g0 : ∀ o, w.grownBy (w.alloc o) (some g) := fun o => only_alloc (World.grownBy.refl _ _) o
  have hP := hide (fun o => r8_pick (m := 4) (hb.alloc o) (hrd _ (g0 o)) hB hx hn (by omega) (by decide) (by decide))
  have G0 := hide g0
  clear hrd g0 hb h
  go_enter Tryz.func67, Tryz.ntmps67
  go_wp2_with fail
  refine (hP.out _).mono ?_
  rintro e w1 ⟨a, q1, s1, rfl, ha, hq1, hb1, hg1⟩
  have Z1 : Hid (Blk w1 w.heap.size 27 #[.int .i64 0, .float .f32 0, .float .f32 0]) := hide ((Blk.new w _ _).grown hg1 (by intro e; injection e with e; omega))
  have g1 := only_trans (G0.out _) hg1
  have z1 : w.heap.size + 1 ≤ w1.heap.size := by have := hg1.size; simpa using this
  have hP1 := hide (fun o => r8_pick (m := 11) (hb1.alloc o) (HRd.out _ (only_alloc g1 o)) hB hx hn (by omega) (by decide) (by decide))
  have G1 := hide (fun o => only_alloc g1 o)
  clear hg1 hb1 hP g1
  go_wp2_with fail
  refine (hP1.out _).mono ?_
  rintro e w2 ⟨i, q2, s2, rfl, hi, hq2, hb2, hg2⟩
  have Z2 := hide ((Z1.out.alloc _).grown hg2 (by intro e; injection e with e; omega))
  have Y2 : Hid (Blk w2 w1.heap.size 27 #[.int .i64 (a : Int), .float .f32 0, .float .f32 0]) := hide ((Blk.new w1 _ _).grown hg2 (by intro e; injection e with e; omega))
  have g2 := only_trans (G1.out _) hg2
  have z2 : w1.heap.size + 1 ≤ w2.heap.size := by have := hg2.size; simpa using this
  have hP2 := hide (fun (W : World) (hW : SrcAt W g A n c q2 s2) (hG : w.grownBy W (some g)) => r8_pick (m := 32) hW (HRd.out _ hG) hB hx hn (by omega) (by decide) (by decide))
  have t2 := r8q_tab i (by omega)
  have e2 : ∀ W, flR .quo .f32 (floatOfInt .f32 ((2 : Int) + (i : Int))) 1082130432 W = r8q i := flR_num t2.1
  have e2' : flN .quo .f32 (floatOfInt .f32 ((2 : Int) + (i : Int))) 1082130432 = 0 := flN_num t2.1
  have y1 : w2.cell? ⟨w1.heap.size, 1, none⟩ = some (.float .f32 0) := Y2.out.cell 1
  have yf1 : w2.frozen? ⟨w1.heap.size, 1, none⟩ = false := Y2.out.frozen 1
  clear hg2 hP1 Z1 t2
  go_wp2_with fail
  have hb2' : SrcAt (w2.setCell ⟨w1.heap.size, 1, none⟩ (.float .f32 (r8q i))) g A n c q2 s2 := hb2.far (by show g ≠ w1.heap.size; omega) _
  have g2' : w.grownBy (w2.setCell ⟨w1.heap.size, 1, none⟩ (.float .f32 (r8q i))) (some g) := only_setCell g2 (.inr (by show w.heap.size ≤ w1.heap.size; omega)) _
  refine (hP2.out _ hb2' g2').mono ?_
  rintro e w3 ⟨j, q3, s3, rfl, hj, hq3, hb3, hg3⟩
  have Z3 := hide ((Z2.out.far (p := ⟨w1.heap.size, 1, none⟩) (by show w.heap.size ≠ w1.heap.size; omega) (.float .f32 (r8q i))).grown hg3 (by intro e; injection e with e; omega))
  have Y3 := hide ((Y2.out.set_ 1 (.float .f32 (r8q i))).grown hg3 (by intro e; injection e with e; omega))
  have g3 := only_trans g2' hg3
  have z3 : w2.heap.size ≤ w3.heap.size := by have := hg3.size; rwa [World.size_setCell] at this
  have t3 := r8h_tab j (by omega)
  have e3 : ∀ W, flR .quo .f32 (floatOfInt .f32 ((1 : Int) + (j : Int))) 1073741824 W = r8h j := flR_num t3.1
  have e3' : flN .quo .f32 (floatOfInt .f32 ((1 : Int) + (j : Int))) 1073741824 = 0 := flN_num t3.1
  have x0 : w3.cell? ⟨w1.heap.size, 0, none⟩ = some (.int .i64 (a : Int)) := Y3.out.cell 0
  have x1 : w3.cell? ⟨w1.heap.size, 1, none⟩ = some (.float .f32 (r8q i)) := Y3.out.cell 1
  have x2 : w3.cell? ⟨w1.heap.size, 2, none⟩ = some (.float .f32 0) := Y3.out.cell 2
  have xf2 : w3.frozen? ⟨w1.heap.size, 2, none⟩ = false := Y3.out.frozen 2
  have u0 : w3.cell? ⟨w.heap.size, 0, none⟩ = some (.int .i64 0) := Z3.out.cell 0
  have u1 : w3.cell? ⟨w.heap.size, 1, none⟩ = some (.float .f32 0) := Z3.out.cell 1
  have u2 : w3.cell? ⟨w.heap.size, 2, none⟩ = some (.float .f32 0) := Z3.out.cell 2
  have v0 : w3.frozen? ⟨w.heap.size, 0, none⟩ = false := Z3.out.frozen 0
  have v1 : w3.frozen? ⟨w.heap.size, 1, none⟩ = false := Z3.out.frozen 1
  have v2 : w3.frozen? ⟨w.heap.size, 2, none⟩ = false := Z3.out.frozen 2
  clear hg3 g2' hb2' y1 yf1 Y2 Z2 g2 hb2 hP2 t3 e2 e2'
  go_wp2
  refine bodyPost_ret (results_cell_row (P := Tryz.prog) rfl _ _ w.heap.size 27 #[.int .i64 (a : Int), .float .f32 (r8q i), .float .f32 (r8h j)] (0, 0) _ rfl ((((Z3.out.far (p := ⟨w1.heap.size, 2, none⟩) (by show w.heap.size ≠ w1.heap.size; omega) _).set_ 0 _).set_ 1 _).set_ 2 _) Tryz.underlying27 rfl (by kernel_rfl)) rfl ?_
  refine ⟨a, i, j, q3, s3, rfl, by omega, by omega, by omega, by omega, ?_, ?_⟩
  · exact ((((hb3.far (p := ⟨w1.heap.size, 2, none⟩) (by show g ≠ w1.heap.size; omega) _).far (p := ⟨w.heap.size, 0, none⟩) (by show g ≠ w.heap.size; omega) _).far (p := ⟨w.heap.size, 1, none⟩) (by show g ≠ w.heap.size; omega) _).far (p := ⟨w.heap.size, 2, none⟩) (by show g ≠ w.heap.size; omega) _)
  · exact only_setCell (only_setCell (only_setCell (only_setCell g3 (.inr (by show w.heap.size ≤ w1.heap.size; omega)) _) (.inr (Nat.le_refl _)) _) (.inr (Nat.le_refl _)) _) (.inr (Nat.le_refl _)) _
end Go.Proofs.YtjmpldcnhjgpkaaGreatDoor

/-
  The desks that the law draws: plans.
-/
namespace Go.Proofs.YtjmpldcnhjgpkaaGreatDoor
open Go.RowKit Fl Mem
set_option linter.unusedVariables false
set_option maxRecDepth 100000

theorem s_l00Min {a b : Int} {w : World} : Calls Tryz.prog 103 #[.int .i64 a, .int .i64 b] w fun e w' => e = .returned (.int .i64 (min a b)) ∧ w' = w := by
  by_cases h : a < b
  · have e : Hid (min a b = a) := hide (by omega)
    go_enter Tryz.func103, Tryz.ntmps103
    go_wp2
    go_ret
    exact ⟨by rw [e.out]; rfl, rfl⟩
  · have e : Hid (min a b = b) := hide (by omega)
    go_enter Tryz.func103, Tryz.ntmps103
    go_wp2
    go_ret
    exact ⟨by rw [e.out]; rfl, rfl⟩
set_option maxHeartbeats 4000000 in
theorem r8_plan {A : Option Addr} {n c g q B : Nat} {s : Int} {xs : List Int} {w : World} (hb : SrcAt w g A n c q s) (h : Reads w B 1 A n (xs.map (Value.int .u8))) (hB : B ≤ g) (hx : ∀ a ∈ xs, (Lit.int .u8 a).wf = true)
    (hn : n ≤ 1048576) (hq0 : q ≤ 1000) :
    Calls Tryz.prog 69 #[.pointer (some ⟨g, 0, none⟩)] w fun e w' => ∃ (a b q' : Nat) (s' : Int), e = .returned (.agg #[.int .i64 ((1 : Int) + (a : Int)), .int .i64 (b : Int)]) ∧ a < 8 ∧ b < 4 ∧ b ≤ 1 + a ∧ q' ≤ q + 2 ∧ SrcAt w' g A n c q' s' ∧ w.grownBy w' (some g) := by
  have hgs := hb.lt
  have hrd : ∀ W, w.grownBy W (some g) → Reads W B 1 A n (xs.map (Value.int .u8)) := fun W hW => h.grown hW (by omega) (fun g' hg' => by injection hg' with hg'; omega)
  have HRd := hide hrd
  have g0 : ∀ o, w.grownBy (w.alloc o) (some g) := fun o => only_alloc (World.grownBy.refl _ _) o
  have hP := hide (fun o => r8_pick (m := 8) (hb.alloc o) (hrd _ (g0 o)) hB hx hn (by omega) (by decide) (by decide))
  have G0 := hide g0
  clear hrd g0 hb h
  go_enter Tryz.func69, Tryz.ntmps69
  go_wp2_with fail
  refine (hP.out _).mono ?_
  rintro e w1 ⟨a, q1, s1, rfl, ha, hq1, hb1, hg1⟩
  have Z1 : Hid (Blk w1 w.heap.size 32 #[.int .i64 0, .int .i64 0]) := hide ((Blk.new w _ _).grown hg1 (by intro e; injection e with e; omega))
  have g1 := only_trans (G0.out _) hg1
  have z1 : w.heap.size + 1 ≤ w1.heap.size := by have := hg1.size; simpa using this
  obtain ⟨m, hm⟩ : ∃ m : Int, min 4 ((1 : Int) + (a : Int) + 1) = m := ⟨_, rfl⟩
  have hP1 := hide (fun o => r8_pick (m := m) (hb1.alloc o) (HRd.out _ (only_alloc g1 o)) hB hx hn (by omega) (by omega) (by omega))
  have G1 := hide (fun o => only_alloc g1 o)
  have hM := hide (fun W => s_l00Min (a := 4) (b := (1 : Int) + (a : Int) + 1) (w := W))
  rw [hm] at hM
  have Hm := hide hm
  clear hg1 hb1 hP g1 hm
  go_wp2_with (first | (go_at_call 103; refine (hM.out _).mono ?_; rintro e w' ⟨rfl, rfl⟩) | (go_at_call 65; refine (hP1.out _).mono ?_; rintro e w2 ⟨b, q2, s2, rfl, hi, hq2, hb2, hg2⟩; have Z2 := hide ((Z1.out.alloc (.cells #[.int .i64 ((1 : Int) + (a : Int)), .int .i64 0] 32)).grown hg2 (by intro e; injection e with e; omega)); have Y2 : Hid (Blk w2 w1.heap.size 32 #[.int .i64 ((1 : Int) + (a : Int)), .int .i64 0]) := hide ((Blk.new w1 _ _).grown hg2 (by intro e; injection e with e; omega)); have y0 : w2.cell? ⟨w1.heap.size, 0, none⟩ = some (.int .i64 ((1 : Int) + (a : Int))) := Y2.out.cell 0; have y1 : w2.cell? ⟨w1.heap.size, 1, none⟩ = some (.int .i64 0) := Y2.out.cell 1; have yf1 : w2.frozen? ⟨w1.heap.size, 1, none⟩ = false := Y2.out.frozen 1; have u0 : w2.cell? ⟨w.heap.size, 0, none⟩ = some (.int .i64 0) := Z2.out.cell 0; have u1 : w2.cell? ⟨w.heap.size, 1, none⟩ = some (.int .i64 0) := Z2.out.cell 1; have v0 : w2.frozen? ⟨w.heap.size, 0, none⟩ = false := Z2.out.frozen 0; have v1 : w2.frozen? ⟨w.heap.size, 1, none⟩ = false := Z2.out.frozen 1))
  have g2 := only_trans (G1.out _) hg2
  have hm2 := Hm.out
  refine bodyPost_ret (results_cell_row (P := Tryz.prog) rfl _ _ w.heap.size 32 #[.int .i64 ((1 : Int) + (a : Int)), .int .i64 (b : Int)] (0, 0) _ rfl (((Z2.out.far (p := ⟨w1.heap.size, 1, none⟩) (by show w.heap.size ≠ w1.heap.size; omega) _).set_ 0 _).set_ 1 _) Tryz.underlying32 rfl (by kernel_rfl)) rfl ?_
  refine ⟨a, b, q2, s2, rfl, by omega, by omega, by omega, by omega, ?_, ?_⟩
  · exact (((hb2.far (p := ⟨w1.heap.size, 1, none⟩) (by show g ≠ w1.heap.size; omega) _).far (p := ⟨w.heap.size, 0, none⟩) (by show g ≠ w.heap.size; omega) _).far (p := ⟨w.heap.size, 1, none⟩) (by show g ≠ w.heap.size; omega) _)
  · exact only_setCell (only_setCell (only_setCell g2 (.inr (by show w.heap.size ≤ w1.heap.size; omega)) _) (.inr (Nat.le_refl _)) _) (.inr (Nat.le_refl _)) _
end Go.Proofs.YtjmpldcnhjgpkaaGreatDoor

/-
  The desks that the law draws: chains.
-/
namespace Go.Proofs.YtjmpldcnhjgpkaaGreatDoor
open Go.RowKit Fl Mem
set_option linter.unusedVariables false
set_option maxRecDepth 100000

def r8r (j : Nat) : Nat := fb .quo .f32 (floatOfInt .f32 ((1 : Int) + (j : Int))) 1082130432
theorem r8r_tab : ∀ j : Nat, j < 8 → isNan .f32 (r8r j) = false ∧ fin .f32 (r8r j) = true ∧ r8r j < 4294967296 ∧ cn .f32 (r8r j) = r8r j ∧ fv .f32 (r8r j) = ((j + 1 : Nat) : Rat) / 4 := by decide +kernel
/-- An entry of a drawn chain. -/
def E8 (m i k x : Nat) : Prop := (x = 0 ∨ ∃ j, j < 8 ∧ x = r8r j) ∧ (i = k → x = 0) ∧ (k = (i + 1) % m → i ≠ k → x ≠ 0)
/-- The entries of a drawn chain. -/
def P8 (m : Nat) (zs : List Nat) : Prop := ∀ t x, zs[t]? = some x → E8 m (t / m) (t % m) x
theorem P8.snoc {m : Nat} {zs : List Nat} {i k x : Nat} (h : P8 m zs) (hm : 0 < m) (hk : k < m) (hl : zs.length = i * m + k) (hx : E8 m i k x) : P8 m (zs ++ [x]) := by
  intro t y hy
  rcases Nat.lt_or_ge t zs.length with hlt | hge
  · rw [List.getElem?_append_left hlt] at hy
    exact h t y hy
  · have ht : t = zs.length := by
      have := (List.getElem?_eq_some_iff.1 hy).1
      simp at this; omega
    subst ht
    rw [List.getElem?_append_right (Nat.le_refl _), Nat.sub_self] at hy
    simp at hy
    subst hy
    rw [hl]
    have e1 : (i * m + k) / m = i := by rw [Nat.mul_comm, Nat.mul_add_div hm, Nat.div_eq_of_lt hk, Nat.add_zero]
    have e2 : (i * m + k) % m = k := by rw [Nat.mul_comm, Nat.mul_add_mod, Nat.mod_eq_of_lt hk]
    rw [e1, e2]
    exact hx
theorem r8r_qr : ∀ j : Nat, j < 8 → fin .f32 (r8r j) = true ∧ fv .f32 (r8r j) = (((j : Int) + 1 : Int) : Rat) * p2 (-2) ∧ 1 / 4 ≤ fv .f32 (r8r j) ∧ fv .f32 (r8r j) ≤ 2 := by decide +kernel
theorem qr_zero : Qr 0 := by
  refine ⟨⟨by decide +kernel, 0, by decide, ?_⟩, ?_, ?_⟩
  · decide +kernel
  · decide +kernel
  · decide +kernel
theorem P8.cw {m : Nat} {zs : List Nat} (h : P8 m zs) (h1 : 1 ≤ m) (h4 : m ≤ 4) (hl : zs.length = m * m) : Cw m zs := by
  have at_ : ∀ i k, i < m → k < m → ∃ x, zs[i * m + k]? = some x ∧ zs.getD (i * m + k) 0 = x ∧ E8 m i k x := fun i k hi hk => by
    have hlt : i * m + k < zs.length := by rw [hl]; exact ij_lt hi hk
    have hx : zs[i * m + k]? = some zs[i * m + k] := List.getElem?_eq_getElem hlt
    have e1 : (i * m + k) / m = i := by rw [Nat.mul_comm, Nat.mul_add_div (by omega), Nat.div_eq_of_lt hk, Nat.add_zero]
    have e2 : (i * m + k) % m = k := by rw [Nat.mul_comm, Nat.mul_add_mod, Nat.mod_eq_of_lt hk]
    have := h _ _ hx
    rw [e1, e2] at this
    exact ⟨_, hx, by rw [List.getD_eq_getElem?_getD, hx]; rfl, this⟩
  refine ⟨h1, h4, hl, ?_, ?_, ?_⟩
  · intro x hx
    obtain ⟨t, ht⟩ := List.mem_iff_getElem?.1 hx
    rcases (h t x ht).1 with rfl | ⟨j, hj, rfl⟩
    · exact qr_zero
    · obtain ⟨a, b, c, d⟩ := r8r_qr j hj
      exact ⟨⟨a, (j : Int) + 1, by omega, b⟩, by grind, d⟩
  · intro i hi
    obtain ⟨x, _, e, hE⟩ := at_ i i hi hi
    rw [e]; exact hE.2.1 rfl
  · intro i hi h2
    obtain ⟨x, _, e, hE⟩ := at_ i ((i + 1) % m) hi (Nat.mod_lt _ (by omega))
    rw [e]
    have hne : i ≠ (i + 1) % m := by
      rcases Nat.lt_or_ge (i + 1) m with hh | hh
      · rw [Nat.mod_eq_of_lt hh]; omega
      · have : i + 1 = m := by omega
        rw [this, Nat.mod_self]; omega
    have hx0 := hE.2.2 rfl hne
    rcases hE.1 with h0 | ⟨j, hj, rfl⟩
    · exact absurd h0 hx0
    · exact (r8r_qr j hj).2.2.1
end Go.Proofs.YtjmpldcnhjgpkaaGreatDoor
