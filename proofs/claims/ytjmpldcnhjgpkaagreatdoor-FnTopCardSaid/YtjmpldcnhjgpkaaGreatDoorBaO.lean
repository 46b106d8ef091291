/-
  BalanceOf of a chain that the laws draw: the rows that it makes. The program's walk.
-/
import Derived.Test.YtjmpldcnhjgpkaaGreatDoorBaP
import Derived.Test.YtjmpldcnhjgpkaaGreatDoorValid
namespace Go.Proofs.YtjmpldcnhjgpkaaGreatDoor
open Go.RowKit Mem Fl
set_option linter.unusedVariables false
set_option maxRecDepth 100000

theorem wpList_append1c {P : Program} {w0 w : World} {ops : Array Oper} {rest : List Oper} {o : Oper} {a : Act} {Q : Exit → Act → World → Prop} (hgd : o.guard = none) (s x : Operand) (t : TypeId)
    (ho : o.op = .call { callee := .builtin .append, args := #[s, x], argTypes := #[t, t] })
    (base : Nat) (e : TypeId) (z u : Value) (by_ : Nat) (hI : (P.info? e).map (fun i => (i.zero, i.size, i.bytes)) = some (some z, 1, by_)) (ht : P.underlying t = some (.slice e)) (hz : z.cells.size = 1)
    (hw : w = w0.alloc (.cells #[u] e)) (v : Value) (n : Nat) (xs : List Value) (hs : a.eval s = v) (hown : w0.ownsRow base e 1 v n xs)
    (hx : a.eval x = .slice (some ⟨w0.heap.size, 0, none⟩) 1 1) (hu : u.oneCell' = true)
    (hn : n < 1099511627776) (hby : by_ ≤ 64) (hbase : base ≤ w0.heap.size)
    (h : ∀ v' w', w'.ownsRow base e 1 v' (n + 1) (xs ++ [u]) → Below base w0 w' → (∀ g, g < w0.heap.size → v.ownBlock ≠ some g → w'.heap[g]? = w0.heap[g]?) → wpList P ops Q rest (a.put o.dst v') w') : wpList P ops Q (o :: rest) a w := by
  subst hw
  obtain ⟨i0, hi, hz0, hz1, hz2⟩ := info_parts hI
  refine wpList_append_own_at _ hgd s x t ho base e i0 z 1 by_ ht hi hz0 hz1 hz2 hz (by decide) v n xs hs (hown.alloc _) ⟨w0.heap.size, 0, none⟩ 1 1 [u] hx rfl (cell_one_new _ _ _) (by simpa using hu) (by simp [maxLen]; omega) ?_ (by simp; omega) ?_
  · have : (n + 1) * by_ ≤ 1099511627776 * 64 := Nat.mul_le_mul (by omega) hby
    omega
  · intro v' w' h1 h2 _ _
    refine h v' w' h1 (((Below.refl _ _).alloc hbase _).grown h2 (by simp; omega) (fun g hg => (hown.lt g hg).1)) (fun g hg hne => ?_)
    rw [h2.block g (by rw [World.size_alloc]; omega) (fun e => hne e.symm)]
    exact Below.heap_alloc w0 _ g hg
/-- The rows that are made so far. -/
structure RowsP (w : World) (B : Nat) (v : Value) (n k : Nat) (gs cs : Nat → Nat) (e : Nat → Nat → Nat) : Prop where
  own : w.ownsRow B 28 1 v k ((List.range k).map fun i => Value.slice (some ⟨gs i, 0, none⟩) (n + 1) (cs i))
  blk : ∀ i, i < k → B ≤ gs i ∧ n + 1 ≤ cs i ∧ ∃ cur, Blk w (gs i) 25 cur ∧ ∀ j, j < n + 1 → cur[j]? = some (.float .f32 (e i j))
  ne : ∀ i j, i < k → j < k → gs i = gs j → i = j
theorem RowsP.below {w w' : World} {B n k : Nat} {v : Value} {gs cs : Nat → Nat} {e : Nat → Nat → Nat} (h : RowsP w B v n k gs cs e) (hb : Below w.heap.size w w') : RowsP w' B v n k gs cs e :=
  ⟨own_below h.own hb, fun i hi => by
    obtain ⟨a, b, cur, hc, r⟩ := h.blk i hi
    exact ⟨a, b, cur, hc.below hb hc.lt, r⟩, h.ne⟩
/-- A row more. -/
theorem RowsP.more {w w' : World} {B n k g c : Nat} {v v' : Value} {gs cs : Nat → Nat} {e : Nat → Nat → Nat} {cur : Array Value} (h : RowsP w B v n k gs cs e) (hg : B ≤ g) (hne : ∀ i, i < k → gs i ≠ g) (hc : n + 1 ≤ c) (hcur : Blk w g 25 cur) (hat : ∀ j, j < n + 1 → cur[j]? = some (.float .f32 (e k j)))
    (hown : w'.ownsRow B 28 1 v' (k + 1) (((List.range k).map fun i => Value.slice (some ⟨gs i, 0, none⟩) (n + 1) (cs i)) ++ [.slice (some ⟨g, 0, none⟩) (n + 1) c]))
    (hk : ∀ x, x < w.heap.size → v.ownBlock ≠ some x → w'.heap[x]? = w.heap[x]?) : RowsP w' B v' n (k + 1) (fun i => if i = k then g else gs i) (fun i => if i = k then c else cs i) e := by
  have hvt : ∀ x cur, Blk w x 25 cur → v.ownBlock ≠ some x := by
    intro x cur hb hv
    rcases h.own with ⟨_, ⟨rfl, _⟩ | ⟨g', cap, cur', rfl, _, hh, _⟩⟩
    · simp [Value.ownBlock] at hv
    · simp [Value.ownBlock] at hv
      subst hv
      exact (Blk.ne_ (w := w) hh hb ty_ne) rfl
  refine ⟨?_, fun i hi => ?_, fun i j hi hj hg2 => ?_⟩
  · have e1 : (List.range (k + 1)).map (fun i => Value.slice (some ⟨if i = k then g else gs i, 0, none⟩) (n + 1) (if i = k then c else cs i)) = ((List.range k).map fun i => Value.slice (some ⟨gs i, 0, none⟩) (n + 1) (cs i)) ++ [.slice (some ⟨g, 0, none⟩) (n + 1) c] := by
      rw [List.range_succ, List.map_append]
      congr 1
      · exact List.map_congr_left (fun i hi => by
          have := List.mem_range.1 hi
          rw [if_neg (by omega), if_neg (by omega)])
      · simp
    rw [e1]; exact hown
  · by_cases hik : i = k
    · subst hik
      simp only [if_true]
      exact ⟨hg, hc, cur, (hk g hcur.lt (hvt g cur hcur)).trans hcur, hat⟩
    · rw [if_neg hik, if_neg hik]
      obtain ⟨a, b, cur2, hc2, r⟩ := h.blk i (by omega)
      exact ⟨a, b, cur2, (hk _ hc2.lt (hvt _ cur2 hc2)).trans hc2, r⟩
  · by_cases h1 : i = k <;> by_cases h2 : j = k
    · omega
    · rw [if_pos h1, if_neg h2] at hg2
      exact absurd hg2.symm (hne j (by omega))
    · rw [if_neg h1, if_pos h2] at hg2
      exact absurd hg2 (hne i (by omega))
    · rw [if_neg h1, if_neg h2] at hg2
      exact h.ne i j (by omega) (by omega) hg2
theorem RowsP.mat {w : World} {B n : Nat} {v : Value} {gs cs : Nat → Nat} {e : Nat → Nat → Nat} (h : RowsP w B v n n gs cs e) (hn : 1 ≤ n) : ∃ gr c, v = .slice (some ⟨gr, 0, none⟩) n c ∧ n ≤ c ∧ MatR w B gr n gs cs e := by
  rcases h.own with ⟨hl, ⟨_, h0⟩ | ⟨gr, cap, cur, rfl, hb, hh, hc, _, hs, ht⟩⟩
  · omega
  · refine ⟨gr, cap, rfl, hc, hb, ⟨cur, hh, by omega, fun i hi => ?_⟩, fun i hi => (h.blk i hi).2.1, fun i hi => ⟨(h.blk i hi).1, (h.blk i hi).2.2⟩, h.ne⟩
    have e1 : (cur.toList.take (n * 1))[i]? = ((List.range n).map fun i => Value.slice (some ⟨gs i, 0, none⟩) (n + 1) (cs i))[i]? := by rw [ht]
    rw [List.getElem?_take, if_pos (by omega), Array.getElem?_toList, List.getElem?_map, List.getElem?_range hi] at e1
    exact e1
theorem row_of {w : World} {B n : Nat} {v : Value} {xs : List Nat} (h : w.ownsRow B 25 1 v n (fl .f32 xs)) (hn : 0 < n) : ∃ g c cur, v = .slice (some ⟨g, 0, none⟩) n c ∧ B ≤ g ∧ n ≤ c ∧ Blk w g 25 cur ∧ ∀ j, j < n → cur[j]? = some (.float .f32 (xs.getD j 0)) := by
  rcases h with ⟨hl, ⟨_, h0⟩ | ⟨g, cap, cur, rfl, hb, hh, hc, _, hs, ht⟩⟩
  · omega
  · have hL : xs.length = n := by unfold fl at hl; simp at hl; omega
    refine ⟨g, cap, cur, rfl, hb, hc, hh, fun i hi => ?_⟩
    have e : (cur.toList.take (n * 1))[i]? = (fl .f32 xs)[i]? := by rw [ht]
    rw [List.getElem?_take, if_pos (by omega), Array.getElem?_toList] at e
    rw [e]
    unfold fl
    rw [List.getElem?_map, List.getD_eq_getElem?_getD, List.getElem?_eq_getElem (by omega)]; rfl
/-- Chains of the laws are valid. -/
theorem cw_ok {n : Nat} {ws : List Nat} (h : Cw n ws) : chainOk (n : Int) ws = true := by
  have n1 := h.n1
  have n4 := h.n4
  have f0 := f0'
  unfold chainOk
  have a : inB (n : Int) 1 8 = true := by simp [inB]; omega
  have b : decide ((ws.length : Int) = (n : Int) * (n : Int)) = true := by rw [h.l, Int.natCast_mul]; simp
  have c : ws.all leastF = true := by
    rw [List.all_eq_true]
    intro x hx
    obtain ⟨⟨g, _⟩, p, _⟩ := h.q x hx
    unfold leastF geF
    rw [g, ord_gt g f0.1, ord_eq g f0.1, f0.2]
    by_cases hz : fv .f32 x = 0
    · simp [hz]
    · have : 0 < fv .f32 x := by grind
      simp [this]
  have d : diagOk ws (n : Int).toNat = true := by
    unfold diagOk
    rw [List.all_eq_true]
    intro j hj
    have hj2 := List.mem_range.1 hj
    rw [Int.toNat_natCast] at hj2 ⊢
    rw [h.d j hj2]
    decide +kernel
  rw [a, b, c, d]; rfl
theorem bRow_take {ws : List Nat} {n k : Nat} : ∀ i, i ≤ n → ((List.range i).map fun i => if i = k then lvW ws n k else ws.getD (i * n + k) 0) = (bRow ws n k).take i := by
  intro i hi
  unfold bRow
  rw [List.take_append_of_le_length (by simp; exact hi), ← List.map_take, List.take_range, Nat.min_eq_left hi]
theorem bRow_len (ws : List Nat) (n k : Nat) : (bRow ws n k).length = n + 1 := by simp [bRow]
theorem bRow_at {ws : List Nat} {n k i : Nat} (hi : i < n) : (bRow ws n k)[i]? = some (if i = k then lvW ws n k else ws.getD (i * n + k) 0) := by
  unfold bRow
  rw [List.getElem?_append_left (by simp; exact hi), List.getElem?_map, List.getElem?_range hi]; rfl
theorem bRow_end (ws : List Nat) (n k : Nat) : (bRow ws n k).take n ++ [0] = bRow ws n k := by
  unfold bRow
  rw [List.take_append_of_le_length (by simp), List.take_of_length_le (by simp)]
theorem bM_at {ws : List Nat} {n k j : Nat} (hk : k + 1 < n) : el (bM ws n) k j = (bRow ws n k).getD j 0 := by
  unfold el
  rw [bM_row (by omega), if_neg (by omega)]
set_option maxHeartbeats 8000000 in
theorem i_BalanceOf {A : Option Addr} {n c N : Nat} {ws : List Nat} {w : World} (h : Reads w w.heap.size 1 A N (fl .f32 ws)) (hN : n * n = N) (hc : N ≤ c) (hw : Cw n ws) :
    Calls Tryz.prog 20 #[.agg #[.int .i64 (n : Int), .slice A N c]] w fun r w' => ∃ v, r = .returned (.tuple #[v, .bool true]) ∧ w'.ownsRow w.heap.size 25 1 v n (fl .f32 (balL ws n)) ∧ Below w.heap.size w w' := by
  have n1 := hw.n1
  have n4 := hw.n4
  have hN16 : N ≤ 16 := by have := Nat.mul_le_mul n4 n4; omega
  have HW := hide hw
  have HN := hide hN
  have hok := cw_ok hw
  have h0 := (h.alloc (Nat.le_refl _) (.cells #[.int .i64 (n : Int), .slice A N c] 30)).more (B' := (w.alloc (.cells #[.int .i64 (n : Int), .slice A N c] 30)).heap.size) (by simp)
  have b0 : Below w.heap.size w (w.alloc (.cells #[.int .i64 (n : Int), .slice A N c] 30)) := (Below.refl _ _).alloc (Nat.le_refl _) _
  have k0 : Blk (w.alloc (.cells #[.int .i64 (n : Int), .slice A N c] 30)) w.heap.size 30 #[.int .i64 (n : Int), .slice A N c] := Blk.new w _ _
  have Hh := hide h0
  have Hb := hide b0
  have Hk := hide k0
  clear h hw hN h0 b0 k0
  go_enter Tryz.func20, Tryz.ntmps20
  go_wp2_with fail
  refine (i_ValidChain Hh.out (Nat.le_refl _) (by omega)).mono ?_
  rintro e w1 ⟨rfl, hb1⟩
  rw [hok]
  have hb1' := Hb.out.trans (hb1.mono Hb.out.size)
  have hk1 := Hk.out.below hb1 Hk.out.lt
  have hr1 := (Hh.out.below hb1).more hb1.size
  have hgl : w.heap.size < w1.heap.size := hk1.lt
  have HBX : Hid (∀ wr, Below w1.heap.size w1 wr → (wr.cell? ⟨w.heap.size, 0, none⟩ = some (.int .i64 (n : Int)) ∧ wr.cell? ⟨w.heap.size, 1, none⟩ = some (.slice A N c)) ∧ Reads wr wr.heap.size 1 A N (fl .f32 ws) ∧ Below w.heap.size w wr) := hide (fun wr hb => by
    have hk := hk1.below hb hk1.lt
    exact ⟨⟨by rw [hk.cell]; rfl, by rw [hk.cell]; rfl⟩, (hr1.below hb).more hb.size, hb1'.trans (hb.mono hb1'.size)⟩)
  obtain ⟨⟨x0, x1⟩, _, _⟩ := HBX.out w1 (Below.refl _ _)
  obtain ⟨p, hp⟩ : ∃ p, p + 1 = n := ⟨n - 1, by omega⟩
  have hpI : (n : Int) - 1 = (p : Int) := by omega
  have HP := hide hp
  have r0 : RowsP (w1.alloc (.cells #[] 28)) w1.heap.size (.slice (some ⟨w1.heap.size, 0, none⟩) 0 0) n 0 (fun _ => 0) (fun _ => 0) (el (bM ws n)) := ⟨own_emp rfl (Nat.le_refl _), fun i hi => absurd hi (Nat.not_lt_zero _), fun i j hi => absurd hi (Nat.not_lt_zero _)⟩
  have Hr0 := hide r0
  have bb0 : Below w1.heap.size w1 (w1.alloc (.cells #[] 28)) := (Below.refl _ _).alloc (Nat.le_refl _) _
  have Hbb0 := hide bb0
  clear Hh Hb Hk hb1 hb1' hk1 hr1 r0 bb0 hok hp
  go_wp2_with fail
  clear x0 x1
  go_loopw [5, 24] (fun v kk wr => ∃ (k : Nat) (gs cs : Nat → Nat), k ≤ p ∧ kk = .int .i64 (k : Int) ∧ Hid (RowsP wr w1.heap.size v n k gs cs (el (bM ws n))) ∧ Hid (Below w1.heap.size w1 wr)) (fun _ kk _ => p - (intOf kk).toNat)
  case atStart => exact ⟨0, _, _, Nat.zero_le _, rfl, Hr0, Hbb0⟩
  case round =>
    clear Hr0 Hbb0
    obtain ⟨k, gs, cs, hk, rfl, HR, HB⟩ := hrel
    rename World => wo
    have hszo := HB.out.size
    by_cases hkp : k < p
    · have hkI : (k : Int) < (p : Int) := by omega
      have hkn : k < n := by have := HP.out; omega
      have hkn1 : k + 1 < n := by have := HP.out; omega
      have o0 : Hid ((wo.alloc (.cells #[] 25)).ownsRow wo.heap.size 25 1 (.slice (some ⟨wo.heap.size, 0, none⟩) 0 0) 0 (fl .f32 ((bRow ws n k).take 0))) := hide (own_emp rfl (Nat.le_refl _))
      have q0 : Hid (Below wo.heap.size wo (wo.alloc (.cells #[] 25))) := hide ((Below.refl _ _).alloc (Nat.le_refl _) _)
      go_wp2_with fail
      go_loopw [7, 29] (fun v ii wr => ∃ i : Nat, i ≤ n ∧ ii = .int .i64 (i : Int) ∧ Hid (wr.ownsRow wo.heap.size 25 1 v i (fl .f32 ((bRow ws n k).take i))) ∧ Hid (Below wo.heap.size wo wr)) (fun _ ii _ => n - (intOf ii).toNat)
      case atStart => exact ⟨0, Nat.zero_le _, rfl, o0, q0⟩
      case round =>
        clear o0 q0
        obtain ⟨i, hi, rfl, Hown, Hbel⟩ := hrel
        rename World => wr
        have hszr := Hbel.out.size
        by_cases hin : i < n
        · have hiI : (i : Int) < (n : Int) := by omega
          obtain ⟨⟨x0, x1⟩, xr, _⟩ := HBX.out wr (HB.out.trans (Hbel.out.mono hszo))
          have HT := hide (bRow_at (ws := ws) (n := n) (k := k) hin)
          by_cases hik : i = k
          · have hikI : (i : Int) = (k : Int) := by omega
            have hikB : ((i : Int) == (k : Int)) = true := by simp [hik]
            have HC := hide (c_leaves (k := k) xr HN.out hc HW.out hkn)
            have hlv := (lv_told HW.out hkn).1
            obtain ⟨LV, hLV⟩ : ∃ LV, lvW ws n k = LV := ⟨_, rfl⟩
            have hT2 : Hid ((bRow ws n k).take (i + 1) = (bRow ws n k).take i ++ [LV]) := hide (by rw [take_eq HT.out, if_pos hik, hLV])
            have hLV' : fb .sub .f32 0 (fsum (rwL ws n k)) = LV := hLV
            obtain ⟨FS, hFS⟩ : ∃ FS, fsum (rwL ws n k) = FS := ⟨_, rfl⟩
            rw [hFS] at HC hLV'
            rw [hLV] at hlv
            have f1 : ∀ W, flR .sub .f32 0 FS W = LV := fun W => by rw [← hLV']; exact flR_num (fin_n32 (by rw [hLV']; exact hlv)) W
            have f1n : flN .sub .f32 0 FS = 0 := flN_num (fin_n32 (by rw [hLV']; exact hlv))
            have hiknat : (i == k) = true := by simp [hik]
            subst hik
            obtain ⟨O, hO⟩ : ∃ O, (bRow ws n i).take i = O := ⟨_, rfl⟩
            rw [hO] at Hown hT2
            clear xr hLV hLV' hlv hFS HT hikI hikB hiknat hO
            go_wp2_with fail
            refine HC.out.mono ?_
            rintro e w2 ⟨rfl, hb2⟩
            have how2 := own_below Hown.out hb2
            have hbel2 := Hbel.out.trans (hb2.mono hszr)
            have hsz2 := hbel2.size
            clear hb2
            go_wp2_with (at_builtin; refine wpList_append1 rfl (.tmp 35) (.tmp 40) 28 rfl wo.heap.size 25 (.float .f32 0) _ 4 info_f32 Tryz.underlying28 rfl rfl _ _ _ rfl (own_drewN how2 _) rfl rfl (by omega) (by omega) (by simp; omega) ?_)
            intro v' w' hown' hb'
            have hbel' := hide ((below_drewN hbel2 _).trans hb')
            have HO := hide (own_snoc hown')
            rw [← hT2.out] at HO
            clear hown' hb' how2 hbel2
            go_wp2
            go_roundw
            case rel => exact ⟨i + 1, by omega, by go_num, HO, hbel'⟩
            case measure => simp [intOf]; omega
          · have hikI : ¬ (i : Int) = (k : Int) := by omega
            have hikB : ((i : Int) == (k : Int)) = false := by simp; omega
            have HC := hide (c_rate (c := c) xr HN.out (by omega) hin hkn)
            obtain ⟨X, hX⟩ : ∃ X, ws.getD (i * n + k) 0 = X := ⟨_, rfl⟩
            have hT2 : Hid ((bRow ws n k).take (i + 1) = (bRow ws n k).take i ++ [X]) := hide (by rw [take_eq HT.out, if_neg hik, hX])
            rw [hX] at HC
            obtain ⟨O, hO⟩ : ∃ O, (bRow ws n k).take i = O := ⟨_, rfl⟩
            rw [hO] at Hown hT2
            clear xr hX HT hO
            go_wp2_with fail
            refine HC.out.mono ?_
            rintro e w2 ⟨rfl, hb2⟩
            have how2 := own_below Hown.out hb2
            have hbel2 := Hbel.out.trans (hb2.mono hszr)
            have hsz2 := hbel2.size
            clear hb2
            go_wp2_with (at_builtin; refine wpList_append1 rfl (.tmp 42) (.tmp 47) 28 rfl wo.heap.size 25 (.float .f32 0) _ 4 info_f32 Tryz.underlying28 rfl rfl _ _ _ rfl how2 rfl rfl (by omega) (by omega) (by omega) ?_)
            intro v' w' hown' hb'
            have hbel' := hide (hbel2.trans hb')
            have HO := hide (own_snoc hown')
            rw [← hT2.out] at HO
            clear hown' hb' how2 hbel2
            go_wp2
            go_roundw
            case rel => exact ⟨i + 1, by omega, by go_num, HO, hbel'⟩
            case measure => simp [intOf]; omega
        · obtain rfl : i = n := by omega
          have hE := bRow_end ws i k
          obtain ⟨O, hO⟩ : ∃ O, (bRow ws i k).take i = O := ⟨_, rfl⟩
          rw [hO] at Hown hE
          have HE := hide hE
          clear hE hO
          go_wp2_with (at_builtin; refine wpList_append1 rfl (.tmp 51) (.tmp 52) 28 rfl wo.heap.size 25 (.float .f32 0) _ 4 info_f32 Tryz.underlying28 rfl rfl _ _ _ rfl Hown.out rfl rfl (by omega) (by omega) (by omega) ?_)
          intro v' w2 hown' hb'
          have hbel2 := Hbel.out.trans hb'
          have hO := own_snoc hown'
          rw [HE.out] at hO
          have hsz2 := hbel2.size
          obtain ⟨g, cg, cur, rfl, hg, hcg, hblk, hat⟩ := row_of hO (by omega)
          have hrow := HR.out.below hbel2
          have HR2 := hide hrow
          have HG := hide (And.intro hg (And.intro hcg (And.intro hblk hat)))
          have Hbel2 := hide hbel2
          clear hown' hb' hO hg hcg hblk hat hrow hbel2
          go_wp2_with (at_builtin; refine wpList_append1c rfl (.tmp 50) (.tmp 54) 96 rfl w1.heap.size 28 (.slice none 0 0) _ 24 info_sf32 Tryz.underlying96 rfl rfl _ _ _ rfl HR2.out.own rfl rfl (by omega) (by omega) (by omega) ?_)
          intro v3 w3 hown3 hb3 hkeep
          have hne : ∀ x, x < k → gs x ≠ g := fun x hx he => by
            obtain ⟨_, _, cur2, hc2, _⟩ := HR.out.blk x hx
            have := hc2.lt
            have := HG.out.1
            omega
          have HRn := hide (HR2.out.more (g := g) (c := cg) (by have := HG.out.1; omega) hne HG.out.2.1 HG.out.2.2.1 (fun j hj => by rw [HG.out.2.2.2 j hj, bM_at hkn1]) hown3 hkeep)
          have HBn := hide (HB.out.trans ((Hbel2.out.mono hszo).trans hb3))
          clear hown3 hb3 hkeep hne HG
          go_wp2
          go_roundw
          case rel => exact ⟨k + 1, _, _, by omega, by go_num, HRn, HBn⟩
          case measure => simp [intOf]; omega
    · obtain rfl : k = p := by omega
      have hkn := HP.out
      have e1 : ((n + 1 : Nat) : Int) = (n : Int) + 1 := by omega
      have HRep := g_Repeat (g := wo.heap.size) (c := n + 1) (u := 1065353216) (w := wo.alloc (.cells #[.float .f32 1065353216] 25)) (by omega) (by omega) (by simp) (by simp)
      rw [e1] at HRep
      have HRp := hide HRep
      have ba : Below wo.heap.size wo (wo.alloc (.cells #[.float .f32 1065353216] 25)) := (Below.refl _ _).alloc (Nat.le_refl _) _
      have Hba := hide ba
      clear HRep ba e1 hkn
      go_wp2_with fail
      refine HRp.out.mono ?_
      rintro e w2 ⟨g', rfl, hg', hblk, hb2⟩
      have hbel2 := Hba.out.trans (hb2.mono Hba.out.size)
      have HR2 := hide (HR.out.below hbel2)
      have HG := hide (And.intro hg' hblk)
      have Hbel2 := hide hbel2
      have hsz2 := hbel2.size
      have hszA := Hba.out.size
      clear hg' hblk hb2 hbel2 HRp
      go_wp2_with (at_builtin; refine wpList_append1c rfl (.tmp 57) (.tmp 62) 96 rfl w1.heap.size 28 (.slice none 0 0) _ 24 info_sf32 Tryz.underlying96 rfl rfl _ _ _ rfl HR2.out.own rfl rfl (by omega) (by omega) (by omega) ?_)
      intro v3 w3 hown3 hb3 hkeep
      have hgo : wo.heap.size ≤ g' := by have := HG.out.1; omega
      have hne : ∀ x, x < k → gs x ≠ g' := fun x hx he => by
        obtain ⟨_, _, cur2, hc2, _⟩ := HR.out.blk x hx
        have := hc2.lt
        omega
      have HRn := HR2.out.more (g := g') (c := n + 1) (by omega) hne (Nat.le_refl _) HG.out.2 (fun j hj => by
        have hkn := HP.out
        rw [bM_el (by omega) hj, if_pos hkn]
        unfold rpL
        rw [List.getElem?_toArray, List.getElem?_append_left (by simp; omega), List.getElem?_replicate, if_pos hj]) hown3 hkeep
      have HBn := HB.out.trans ((Hbel2.out.mono hszo).trans hb3)
      rw [HP.out] at HRn
      obtain ⟨gr, cr, rfl, hcr, hmat⟩ := HRn.mat n1
      have HM0 := hide hmat
      have HB3 := hide HBn
      have HX := hide (HBX.out w1 (Below.refl _ _)).2.2
      clear hown3 hb3 hkeep hne HG HRn HBn hmat hgo HR HR2 HB Hba Hbel2 HBX
      have hsz3 := HB3.out.size
      go_wp2_with fail
      go_loopw [65] (fun kk wr => ∃ (k : Nat) (gs cs : Nat → Nat), k ≤ n ∧ kk = .int .i64 (k : Int) ∧ Hid (MatR wr w1.heap.size gr n gs cs (el (gau (bM ws n) n k))) ∧ Hid (Below w1.heap.size w1 wr)) (fun kk _ => n - (intOf kk).toNat)
      case atStart => exact ⟨0, _, _, Nat.zero_le _, rfl, HM0, HB3⟩
      case round =>
        clear HM0 HB3 hsz3
        obtain ⟨k, gs, cs, hkle, rfl, HM, HB⟩ := hrel
        rename World => wo
        by_cases hkn : k < n
        · have hkI : (k : Int) < (n : Int) := by omega
          have HG := hide (stg_ok HW.out hkn)
          -- [CA
          go_wp2_with fail
          go_loopw [10, 11] (fun bb ii wr => ∃ m q : Nat, k + m ≤ n ∧ ii = .int .i64 ((k : Int) + (m : Int)) ∧ bb = .int .i64 (bst (gau (bM ws n) n k) k m : Int) ∧ wr = wo.drewN q) (fun _ ii _ => n - (intOf ii).toNat)
          case atStart => exact ⟨0, 0, by omega, by simp, rfl, rfl⟩
          case round =>
            obtain ⟨m, q, hm, rfl, rfl, hwr⟩ := hrel
            rename World => wr
            by_cases hmn : k + m < n
            · obtain ⟨i, hi⟩ : ∃ i, k + m = i := ⟨_, rfl⟩
              have hiI : (k : Int) + (m : Int) = (i : Int) := by omega
              have hin : i < n := by omega
              obtain ⟨hb1, hb2⟩ := HG.out.b m hm
              have HS : Hid (bst (gau (bM ws n) n k) k (m + 1) = if (FloatKind.f32.format.order (absW (el (gau (bM ws n) n k) i k)) (absW (el (gau (bM ws n) n k) (bst (gau (bM ws n) n k) k m) k)) == some .gt) = true then i else bst (gau (bM ws n) n k) k m) := hide (by rw [← hi]; rfl)
              obtain ⟨b, hb⟩ : ∃ b, bst (gau (bM ws n) n k) k m = b := ⟨_, rfl⟩
              rw [hb] at hb1 hb2 HS ⊢
              have HMr := hide (show MatR wr w1.heap.size gr n gs cs (el (gau (bM ws n) n k)) by rw [hwr]; exact HM.out.drewN q)
              have d1 := (HMr.out.rowAt hin).1
              have d2 := (HMr.out.at_ hin (show k < n + 1 by omega)).1
              have d3 := (HMr.out.rowAt hb2).1
              have d4 := (HMr.out.at_ hb2 (show k < n + 1 by omega)).1
              have fX := HG.out.a i hin
              have fY := HG.out.a b hb2
              obtain ⟨X, hX⟩ : ∃ X, el (gau (bM ws n) n k) i k = X := ⟨_, rfl⟩
              obtain ⟨Y, hY⟩ : ∃ Y, el (gau (bM ws n) n k) b k = Y := ⟨_, rfl⟩
              rw [hX] at d2 fX HS
              rw [hY] at d4 fY HS
              have C1 := hide (fun W : World => c_absolute (w := W) fX)
              have C2 := hide (fun W : World => c_absolute (w := W) fY)
              obtain ⟨AX, hAX⟩ : ∃ AX, absW X = AX := ⟨_, rfl⟩
              obtain ⟨AY, hAY⟩ : ∃ AY, absW Y = AY := ⟨_, rfl⟩
              rw [hAX] at C1 HS
              rw [hAY] at C2 HS
              obtain ⟨g1, hg1⟩ : ∃ g1, gs i = g1 := ⟨_, rfl⟩
              obtain ⟨g2, hg2⟩ : ∃ g2, gs b = g2 := ⟨_, rfl⟩
              obtain ⟨c1, hc1⟩ : ∃ c1, cs i = c1 := ⟨_, rfl⟩
              obtain ⟨c2, hc2⟩ : ∃ c2, cs b = c2 := ⟨_, rfl⟩
              rw [hg1, hc1] at d1
              rw [hg1] at d2
              rw [hg2, hc2] at d3
              rw [hg2] at d4
              have Hwr := hide hwr
              have HiI := hide hiI
              rw [hiI]
              have hinI : (i : Int) < (n : Int) := by omega
              have hbI : (b : Int) < (n : Int) := by omega
              have hk1 : k < n + 1 := by omega
              clear hi hiI hb hX hY hAX hAY hg1 hg2 hc1 hc2 hwr HMr fX fY
              cases ho : (FloatKind.f32.format.order AX AY == some .gt) with
              | true =>
                have HS2 : Hid (bst (gau (bM ws n) n k) k (m + 1) = i) := hide (by rw [HS.out, if_pos ho])
                clear HS
                go_wp2
                go_quiet ((go_at_call 50; first | exact Calls.quiet_of (C1.out _) | exact Calls.quiet_of (C2.out _)))
                go_wp2
                go_roundw
                case rel => exact ⟨m + 1, _, by omega, by rw [← HiI.out]; simp; omega, by rw [HS2.out], by rw [Hwr.out, World.drewN_drewN]⟩
                case measure => simp [intOf]; omega
              | false =>
                have HS2 : Hid (bst (gau (bM ws n) n k) k (m + 1) = b) := hide (by rw [HS.out, if_neg (by rw [ho]; decide)])
                clear HS
                go_wp2
                go_quiet ((go_at_call 50; first | exact Calls.quiet_of (C1.out _) | exact Calls.quiet_of (C2.out _)))
                go_wp2
                go_roundw
                case rel => exact ⟨m + 1, _, by omega, by rw [← HiI.out]; simp; omega, by rw [HS2.out], by rw [Hwr.out, World.drewN_drewN]⟩
                case measure => simp [intOf]; omega
            · have hmk : m = n - k := by omega
              have hiI : (k : Int) + (m : Int) = (n : Int) := by omega
              rw [hiI]
              obtain ⟨hb1, hb2⟩ := HG.out.b m hm
              have HeS : Hid (∀ i j, eS ws n k i j = el (gau (bM ws n) n k) (swI k (bst (gau (bM ws n) n k) k m) i) j) := hide (fun i j => by unfold eS; rw [hmk])
              obtain ⟨b, hb⟩ : ∃ b, bst (gau (bM ws n) n k) k m = b := ⟨_, rfl⟩
              rw [hb] at hb1 hb2 HeS ⊢
              have HMr := hide (show MatR wr w1.heap.size gr n gs cs (el (gau (bM ws n) n k)) by rw [hwr]; exact HM.out.drewN q)
              have HBr := hide (show Below w1.heap.size w1 wr by rw [hwr]; exact below_drewN HB.out q)
              obtain ⟨d1, d2⟩ := HMr.out.rowAt hkn
              obtain ⟨d3, d4⟩ := HMr.out.rowAt hb2
              obtain ⟨g1, hg1⟩ : ∃ g1, gs k = g1 := ⟨_, rfl⟩
              obtain ⟨g2, hg2⟩ : ∃ g2, gs b = g2 := ⟨_, rfl⟩
              obtain ⟨c1, hc1⟩ : ∃ c1, cs k = c1 := ⟨_, rfl⟩
              obtain ⟨c2, hc2⟩ : ∃ c2, cs b = c2 := ⟨_, rfl⟩
              have HSW := hide (fun W (h : MatR W w1.heap.size gr n gs cs (el (gau (bM ws n) n k))) => h.swap hkn hb2)
              rw [hg1, hg2, hc1, hc2] at HSW
              rw [hg1, hc1] at d1
              rw [hg2, hc2] at d3
              have hbI : (b : Int) < (n : Int) := by omega
              obtain ⟨ov, d5⟩ : ∃ ov, (wr.setCell ⟨gr, k, none⟩ (.slice (some ⟨g2, 0, none⟩) (n + 1) c2)).cell? ⟨gr, b, none⟩ = some ov := by
                obtain ⟨cur, hcb, hcs, hcr⟩ := HMr.out.row
                rw [(hcb.set_ k _).cell, Array.getElem?_setIfInBounds]
                split
                · rw [if_pos (by omega)]; exact ⟨_, rfl⟩
                · exact ⟨_, hcr b hb2⟩
              clear hiI hb hg1 hg2 hc1 hc2 hwr hmk
              go_wp2_with fail
              go_region
              obtain ⟨w4, hw4⟩ : ∃ w4, ((wr.setCell ⟨gr, k, none⟩ (.slice (some ⟨g2, 0, none⟩) (n + 1) c2)).setCell ⟨gr, b, none⟩ (.slice (some ⟨g1, 0, none⟩) (n + 1) c1)).drew = w4 := ⟨_, rfl⟩
              have hM4 : MatR w4 w1.heap.size gr n (fun i => gs (swI k b i)) (fun i => cs (swI k b i)) (eS ws n k) := by
                rw [← hw4]
                exact ((HSW.out wr HMr.out).drewN 1).congr (fun i j _ _ => (HeS.out i j).symm)
              have hB4 : Below w1.heap.size w1 w4 := by
                rw [← hw4]
                exact below_drewN (((HBr.out.setCell (p := ⟨gr, k, none⟩) HMr.out.base _).setCell (p := ⟨gr, b, none⟩) HMr.out.base _)) 1
              rw [hw4]
              obtain ⟨gs1, hgs1⟩ : ∃ gs1, (fun i => gs (swI k b i)) = gs1 := ⟨_, rfl⟩
              obtain ⟨cs1, hcs1⟩ : ∃ cs1, (fun i => cs (swI k b i)) = cs1 := ⟨_, rfl⟩
              rw [hgs1, hcs1] at hM4
              have HM4 := hide hM4
              have HB4 := hide hB4
              clear hw4 hM4 hB4 hgs1 hcs1 d1 d2 d3 d4 d5 HSW HMr HBr HM HB HeS hb1 hb2 hbI
              have e1 := (HM4.out.rowAt hkn).1
              have e2 := (HM4.out.at_ hkn (show k < n + 1 by omega)).1
              have hz := HG.out.z
              obtain ⟨PV, hPV⟩ : ∃ PV, eS ws n k k k = PV := ⟨_, rfl⟩
              obtain ⟨gk, hgk⟩ : ∃ gk, gs1 k = gk := ⟨_, rfl⟩
              obtain ⟨ck, hck⟩ : ∃ ck, cs1 k = ck := ⟨_, rfl⟩
              rw [hPV] at e2 hz
              rw [hgk] at e1 e2
              rw [hck] at e1
              have HPV := hide hPV
              have Hgk := hide hgk
              have Hck := hide hck
              have hk1 : k < n + 1 := by omega
              clear hPV hgk hck
              by_cases hkl : k + 1 = n
              · have HMn := hide (show MatR w4 w1.heap.size gr n gs1 cs1 (el (gau (bM ws n) n (k + 1))) from HM4.out.congr (fun i' j' hi' hj' => by
                  have h := fP_end HW.out hkn hi' hj'
                  have h2 := fP_0 (eS ws n k) k i' j'
                  rw [← h2, ← h, hkl]))
                have hknI : (k : Int) + 1 ≤ (n : Int) := by omega
                have hcrI : (k : Int) + 1 ≤ (cr : Int) := by omega
                have hL0 : n - (k + 1) = 0 := by omega
                have HKL := hide hkl
                clear HM4 hkl
                by_cases hcc : cr = k + 1
                · have hccI : (cr : Int) = (k : Int) + 1 := by omega
                  go_wp2_with fail
                  clear e1 e2 hz
                  go_loopw [120] (fun v wr => v = .int .i64 0 ∧ wr = w4) (fun v _ => 0)
                  case atStart => exact ⟨rfl, rfl⟩
                  case round =>
                    obtain ⟨rfl, rfl⟩ := hrel
                    clear HX
                    go_wp2_with fail
                    go_roundw
                    case rel => exact ⟨k + 1, gs1, cs1, by omega, by go_num, HMn, HB4⟩
                    case measure => simp [intOf]; omega
                · have hccI : ¬ (cr : Int) = (k : Int) + 1 := by omega
                  have hccN : k + 1 < cr := by have := HKL.out; omega
                  go_wp2_with fail
                  clear e1 e2 hz
                  go_loopw [120] (fun v wr => v = .int .i64 0 ∧ wr = w4) (fun v _ => 0)
                  case atStart => exact ⟨rfl, rfl⟩
                  case round =>
                    obtain ⟨rfl, rfl⟩ := hrel
                    clear HX
                    go_wp2_with fail
                    go_roundw
                    case rel => exact ⟨k + 1, gs1, cs1, by omega, by go_num, HMn, HB4⟩
                    case measure => simp [intOf]; omega
              · have hkl2 : k + 1 < n := by omega
                have hcr2 : k + 1 < cr := by omega
                obtain ⟨L, hL⟩ : ∃ L, n - (k + 1) = L := ⟨_, rfl⟩
                have hcr3 : ¬ cr = k + 1 := by omega
                have hcrI : (k : Int) + 1 ≤ (cr : Int) := by omega
                have hknI : (k : Int) + 1 ≤ (n : Int) := by omega
                have HL := hide hL
                have hLn : L ≤ 4 := by omega
                have HM5 : Hid (MatR w4 w1.heap.size gr n gs1 cs1 (fP (eS ws n k) k (k + 1 + 0) (k + 1))) := hide (HM4.out.congr (fun i j _ _ => (fP_0 _ _ _ _).symm))
                clear HM4
                go_wp2_with fail
                clear e1 e2 hz hL
                go_loopw [120] (fun v wr => ∃ r : Nat, r ≤ L ∧ v = .int .i64 (r : Int) ∧ Hid (MatR wr w1.heap.size gr n gs1 cs1 (fP (eS ws n k) k (k + 1 + r) (k + 1))) ∧ Hid (Below w1.heap.size w1 wr)) (fun v _ => L - (intOf v).toNat)
                case atStart => exact ⟨0, Nat.zero_le _, rfl, HM5, HB4⟩
                case round =>
                  clear HM5 HB4
                  obtain ⟨r, hr, rfl, HM, HB⟩ := hrel
                  rename World => w5
                  by_cases hrL : r < L
                  · have hin : k + 1 + r < n := by have := HL.out; omega
                    have hki : k < k + 1 + r := by omega
                    have f1 := (HM.out.rowAt hin).1
                    have f2 := (HM.out.at_ hin hk1).1
                    have f3 := (HM.out.rowAt hkn).1
                    have f4 := (HM.out.at_ hkn hk1).1
                    rw [fP_col] at f2
                    rw [fP_low, HPV.out] at f4
                    rw [Hgk.out, Hck.out] at f3
                    rw [Hgk.out] at f4
                    have hq := HG.out.q _ hki hin
                    rw [HPV.out] at hq
                    have HN2 : Hid (∀ j, j < n + 1 → isNan .f32 (fb .mul .f32 (fb .quo .f32 (eS ws n k (k + 1 + r) k) PV) (eS ws n k k j)) = false ∧ isNan .f32 (fb .sub .f32 (eS ws n k (k + 1 + r) j) (fb .mul .f32 (fb .quo .f32 (eS ws n k (k + 1 + r) k) PV) (eS ws n k k j))) = false) := hide (fun j hj => by
                      have a := HG.out.m _ j hki hin hj
                      have b := HG.out.s _ j hki hin hj
                      rw [HPV.out] at a b
                      exact ⟨a, b⟩)
                    obtain ⟨AV, hAV⟩ : ∃ AV, eS ws n k (k + 1 + r) k = AV := ⟨_, rfl⟩
                    obtain ⟨gi, hgi⟩ : ∃ gi, gs1 (k + 1 + r) = gi := ⟨_, rfl⟩
                    obtain ⟨ci, hci⟩ : ∃ ci, cs1 (k + 1 + r) = ci := ⟨_, rfl⟩
                    rw [hAV] at f2 hq HN2
                    rw [hgi] at f1 f2
                    rw [hci] at f1
                    obtain ⟨QV, hQV⟩ : ∃ QV, fb .quo .f32 AV PV = QV := ⟨_, rfl⟩
                    have hqw : ∀ W, flR .quo .f32 AV PV W = QV := fun W => by rw [← hQV]; exact flR_num hq W
                    have hqn : flN .quo .f32 AV PV = 0 := flN_num hq
                    rw [hQV] at HN2
                    have Hgi := hide hgi
                    have HAV := hide hAV
                    have HQV := hide hQV
                    have hrI : (r : Int) < (L : Int) := by omega
                    have hkn2 : (k : Int) < (n : Int) := by omega
                    clear hq hAV hgi hci hQV hin hki
                    have HM6 : Hid (∀ q : Nat, MatR (w5.drewN q) w1.heap.size gr n gs1 cs1 (fP (eS ws n k) k (k + 1 + r) (k + 1 + 0))) := hide (fun q => HM.out.drewN q)
                    have HB6 : Hid (∀ q : Nat, Below w1.heap.size w1 (w5.drewN q)) := hide (fun q => below_drewN HB.out q)
                    clear HM HB
                    go_wp2_with fail
                    go_quiet (fail)
                    go_wp2_with fail
                    clear f1 f2 f3 f4 hqw hqn
                    go_loopw [15] (fun v wr => ∃ t : Nat, t ≤ n - k ∧ v = .int .i64 ((k : Int) + 1 + (t : Int)) ∧ Hid (MatR wr w1.heap.size gr n gs1 cs1 (fP (eS ws n k) k (k + 1 + r) (k + 1 + t))) ∧ Hid (Below w1.heap.size w1 wr)) (fun v _ => n + 1 - (intOf v).toNat)
                    case atStart => exact ⟨0, Nat.zero_le _, by simp, hide (HM6.out _), hide (HB6.out _)⟩
                    case round =>
                      clear HM6 HB6
                      obtain ⟨t, ht, rfl, HM, HB⟩ := hrel
                      rename World => w6
                      obtain ⟨j, hj⟩ : ∃ j, k + 1 + t = j := ⟨_, rfl⟩
                      have hjI : (k : Int) + 1 + (t : Int) = (j : Int) := by omega
                      rw [hjI]
                      rw [hj] at HM
                      have Hj := hide hj
                      have HjI := hide hjI
                      have hL2 := HL.out
                      have hin : k + 1 + r < n := by omega
                      have hkj : k < j := by omega
                      have hjn1 : j ≤ n + 1 := by omega
                      clear hj hjI hL2
                      by_cases hjn : j < n + 1
                      · have hjnI : (j : Int) ≤ (n : Int) := by omega
                        obtain ⟨f1, f2⟩ := HM.out.at_ hin hjn
                        have f3 := (HM.out.rowAt hkn).1
                        have f4 := (HM.out.at_ hkn hjn).1
                        rw [fP_at, Hgi.out] at f1
                        rw [Hgi.out] at f2
                        rw [fP_low, Hgk.out] at f4
                        rw [Hgk.out, Hck.out] at f3
                        obtain ⟨hn1, hn2⟩ := HN2.out j hjn
                        have HPut := hide (fun W (h : MatR W w1.heap.size gr n gs1 cs1 (fP (eS ws n k) k (k + 1 + r) j)) => (h.put hin hjn (fb .sub .f32 (eS ws n k (k + 1 + r) j) (fb .mul .f32 (fb .quo .f32 (eS ws n k (k + 1 + r) k) (eS ws n k k k)) (eS ws n k k j)))).congr (fun i' j' _ _ => fP_step (show k < k + 1 + r by omega) hkj))
                        rw [HAV.out, HPV.out, HQV.out, Hgi.out] at HPut
                        obtain ⟨OV, hOV⟩ : ∃ OV, eS ws n k (k + 1 + r) j = OV := ⟨_, rfl⟩
                        obtain ⟨UV, hUV⟩ : ∃ UV, eS ws n k k j = UV := ⟨_, rfl⟩
                        rw [hOV] at f1 hn2 HPut
                        rw [hUV] at f4 hn1 hn2 HPut
                        obtain ⟨MV, hMV⟩ : ∃ MV, fb .mul .f32 QV UV = MV := ⟨_, rfl⟩
                        have m1 : ∀ W, flR .mul .f32 QV UV W = MV := fun W => by rw [← hMV]; exact flR_num hn1 W
                        have m1n : flN .mul .f32 QV UV = 0 := flN_num hn1
                        rw [hMV] at hn2 HPut
                        obtain ⟨NV, hNV⟩ : ∃ NV, fb .sub .f32 OV MV = NV := ⟨_, rfl⟩
                        have m2 : ∀ W, flR .sub .f32 OV MV W = NV := fun W => by rw [← hNV]; exact flR_num hn2 W
                        have m2n : flN .sub .f32 OV MV = 0 := flN_num hn2
                        rw [hNV] at HPut
                        have hbg : w1.heap.size ≤ gi := by rw [← Hgi.out]; exact (HM.out.blk _ hin).1
                        clear hn1 hn2 hOV hUV hMV hNV hin
                        go_wp2_with fail
                        go_region
                        have HMn := hide (HPut.out _ (HM.out.drewN 1))
                        have HBn := hide ((below_drewN HB.out 1).setCell (p := ⟨gi, j, none⟩) hbg (.float .f32 NV))
                        clear f1 f2 f3 f4 m1 m1n m2 m2n HPut HM HB hbg
                        go_wp2_with fail
                        go_roundw
                        case rel => exact ⟨t + 1, by have := Hj.out; omega, by rw [← HjI.out]; simp; omega, hide (by rw [show k + 1 + (t + 1) = j + 1 by have := Hj.out; omega]; exact HMn.out), HBn⟩
                        case measure => simp [intOf]; omega
                      · have hjnI : ¬ (j : Int) ≤ (n : Int) := by omega
                        have hje : j = n + 1 := by omega
                        have HMn := hide (show MatR w6 w1.heap.size gr n gs1 cs1 (fP (eS ws n k) k (k + 1 + (r + 1)) (k + 1)) by
                          rw [hje] at HM
                          exact HM.out.congr (fun i' j' _ hj' => fP_row hj'))
                        clear hje HM hin
                        go_wp2_with fail
                        go_roundw
                        case rel => exact ⟨r + 1, by omega, by go_num, HMn, HB⟩
                        case measure => simp [intOf]; omega
                  · obtain rfl : r = L := by omega
                    have HMn := hide (show MatR w5 w1.heap.size gr n gs1 cs1 (el (gau (bM ws n) n (k + 1))) by
                      have hL2 := HL.out
                      have h := HM.out
                      rw [show k + 1 + r = n by omega] at h
                      exact h.congr (fun i' j' hi' hj' => fP_end HW.out hkn hi' hj'))
                    clear HM
                    go_wp2_with fail
                    go_roundw
                    case rel => exact ⟨k + 1, gs1, cs1, by omega, by go_num, HMn, HB⟩
                    case measure => simp [intOf]; omega
          -- CA]
        · obtain rfl : k = n := by omega
          have HMz := hide HM.out
          have HWk := hide (show BkW (el (gau (bM ws k) k k)) (gau (bM ws k) k k) k from by
            obtain ⟨a, b, c⟩ := bal_words HW.out
            exact ⟨n1, n4, fun i j _ _ => rfl, a, b, c⟩)
          have HAL := hide (bal_all HW.out)
          have HLN := hide (bal_len ws k)
          clear HM
          go_wp2_with fail
          refine (i_backwards HMz.out HWk.out).mono ?_
          rintro e w5 ⟨gz, rfl, hgz, hblk, hb5⟩
          have hBl := HB.out.trans (hb5.mono HB.out.size)
          have hlt := hblk.lt
          have hown : w5.ownsRow w1.heap.size 25 1 (.slice (some ⟨gz, 0, none⟩) k k) k (fl .f32 (balL ws k)) := by
            refine ⟨by unfold fl; rw [List.length_map, HLN.out, Nat.mul_one], .inr ⟨gz, k, _, rfl, by have := HB.out.size; omega, hblk, Nat.le_refl _, by unfold maxLen; omega, ?_, ?_⟩⟩
            · unfold fl
              simp only [List.size_toArray, List.length_map]
              have := HLN.out
              unfold balL at this
              rw [this, Nat.mul_one]
            · rw [List.toList_toArray, List.take_of_length_le (by
                unfold fl
                rw [List.length_map, bkO_len]; omega)]
              rfl
          have HOw := hide hown
          have HBl := hide hBl
          clear hgz hblk hb5 hown hBl
          go_wp2_with (go_at_call 51; refine (i_ifAll_yes (Reads.of_own HOw.out) (by unfold maxLen; omega) HAL.out).mono ?_; rintro e w' ⟨rfl, m', rfl⟩)
          go_ret2
          exact ⟨_, rfl, own_up (own_drewN HOw.out _) (by omega), HX.out.trans ((below_drewN HBl.out _).mono (by omega))⟩
end Go.Proofs.YtjmpldcnhjgpkaaGreatDoor
