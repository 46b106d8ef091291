/-
  How long a run is waited for, and how likely it is: the program's walks.
-/
import Derived.Test.YtolbibpmngmpdaaAcc
import Derived.Test.YtolbibpmngmpdaaMark
import Derived.Maps.AppendAt
namespace Go.Proofs.Ytolbibpmngmpdaa
open Go.RowKit Fl Mem
set_option linter.unusedVariables false
set_option maxRecDepth 100000

/-- How many trials a run takes. -/
def wtV (sh : Nat) : Nat → Nat
  | 0 => 0
  | k + 1 => fb .quo .f32 (fb .add .f32 (wtV sh k) 1065353216) sh
theorem wt_step {x s q : Nat} (h : cn .f32 x = q) (w1 w2 : World) : cn .f32 (flR .quo .f32 (flR .add .f32 x 1065353216 w1) s w2) = fb .quo .f32 (fb .add .f32 q 1065353216) s := by
  rw [cn_flR, ← fb_cnl, cn_flR, ← fb_cnl .add, h]
set_option maxHeartbeats 2000000 in
theorem i_WaitForRun {sh n : Nat} {w : World} (hs : shB sh = true) (h0 : (FloatKind.f32.format.order sh 0 == some .eq) = false) (h1 : 1 ≤ n) (h2 : n ≤ 32) (hf : fin .f32 (wtV sh n) = true) :
    Calls Try.prog 13 #[.float .f32 sh, .int .i64 n] w fun e w' => e = .returned (.tuple #[.float .f32 (wtV sh n), .bool true]) ∧ ∃ m, w' = w.drewN m := by
  have Hf := hide hf
  have hi : inB n 1 32 = true := by unfold inB; simp; omega
  clear hf
  go_enter Try.func13, Try.ntmps13
  go_wp2_with (first
    | (go_at_call 55; refine i_isShare.mono ?_; rintro e w' ⟨rfl, rfl⟩; rw [hs])
    | (go_at_call 59; refine (i_within _ _ _ _).mono ?_; rintro e w' ⟨rfl, rfl⟩; rw [hi]))
  go_loopw [6, 20] (fun v6 v20 wr => ∃ k m s : Nat, k ≤ n ∧ v20 = .int .i64 (k : Int) ∧ v6 = .float .f32 s ∧ Hid (cn .f32 s = wtV sh k) ∧ wr = w.drewN m) (fun _ v20 _ => n - (intOf v20).toNat)
  case atStart => exact ⟨0, 0, 0, Nat.zero_le _, rfl, rfl, hide (by rw [wtV]; decide +kernel), rfl⟩
  case round =>
    obtain ⟨k, m, s, hk, rfl, rfl, hs', rfl⟩ := hrel
    by_cases hlt : k < n
    · have kI : (k : Int) < (n : Int) := by omega
      go_wp2
      go_roundw
      case rel => exact ⟨k + 1, _, _, by omega, by go_num, rfl, hide (wt_step hs'.out _ _), rfl⟩
      case measure => simp [intOf]; omega
    · obtain rfl : k = n := by omega
      have kI : ¬ (k : Int) < (k : Int) := by omega
      have hs2 : s = wtV sh k := fin_word hs'.out Hf.out
      have HF : Hid (fin .f32 s = true) := hide (by rw [hs2]; exact Hf.out)
      have HS := hide hs2
      clear hs2
      go_wp2_with (go_at_call 57; refine i_ifFinite.mono ?_; rintro e w' ⟨rfl, m3, rfl⟩; rw [HF.out])
      go_ret2
      exact ⟨by rw [HS.out]; rfl, _, rfl⟩

/-- 'append(out, u)' onto a row of the call's own: which blocks stay as they were. -/
theorem wpList_append1g {P : Program} {w0 w : World} {ops : Array Oper} {rest : List Oper} {o : Oper} {a : Act} {Q : Exit → Act → World → Prop} (hgd : o.guard = none) (s x : Operand) (t : TypeId)
    (ho : o.op = .call { callee := .builtin .append, args := #[s, x], argTypes := #[t, t] })
    (base : Nat) (e : TypeId) (z u : Value) (by_ : Nat) (hI : (P.info? e).map (fun i => (i.zero, i.size, i.bytes)) = some (some z, 1, by_)) (ht : P.underlying t = some (.slice e)) (hz : z.cells.size = 1)
    (hw : w = w0.alloc (.cells #[u] e)) (v : Value) (n : Nat) (xs : List Value) (hs : a.eval s = v) (hown : w0.ownsRow base e 1 v n xs)
    (hx : a.eval x = .slice (some ⟨w0.heap.size, 0, none⟩) 1 1) (hu : u.oneCell' = true)
    (hn : n < 1099511627776) (hby : by_ ≤ 64) (hbase : base ≤ w0.heap.size)
    (h : ∀ v' w', w'.ownsRow base e 1 v' (n + 1) (xs ++ [u]) → (w0.alloc (.cells #[u] e)).grownBy w' v.ownBlock → (∀ g, g < w0.heap.size → v.ownBlock ≠ some g → v'.ownBlock ≠ some g) → wpList P ops Q rest (a.put o.dst v') w') : wpList P ops Q (o :: rest) a w := by
  subst hw
  obtain ⟨i0, hi, hz0, hz1, hz2⟩ := info_parts hI
  refine wpList_append_own_at _ hgd s x t ho base e i0 z 1 by_ ht hi hz0 hz1 hz2 hz (by decide) v n xs hs (hown.alloc _) ⟨w0.heap.size, 0, none⟩ 1 1 [u] hx rfl (cell_one_new _ _ _) (by simpa using hu) (by simp [maxLen]; omega) ?_ (by simp; omega) ?_
  · have : (n + 1) * by_ ≤ 1099511627776 * 64 := Nat.mul_le_mul (by omega) hby
    omega
  · intro v' w' h1 h2 _ h5
    refine h v' w' h1 h2 (fun g hg hne e => ?_)
    rcases h5 with h5 | h5
    · exact hne (h5 ▸ e)
    · rw [h5] at e
      injection e with e
      rw [World.size_alloc] at e
      omega
theorem own_keptB {w w' : World} {base B : Nat} {e : TypeId} {size n : Nat} {v : Value} {xs : List Value} (h : w.ownsRow base e size v n xs) (hb : Below B w w') (hlt : ∀ k, v.ownBlock = some k → k < B) : w'.ownsRow base e size v n xs := by
  refine ⟨h.1, ?_⟩
  rcases h.2 with hn | ⟨g, cap, cur, rfl, hb0, hgg, rest⟩
  · exact .inl hn
  · exact .inr ⟨g, cap, cur, rfl, hb0, (hb.block g (hlt g rfl)).trans hgg, rest⟩
theorem own_litI {w : World} {base : Nat} {e : TypeId} {u : Value} (hb : base ≤ w.heap.size) : (w.alloc (.cells #[u] e)).ownsRow base e 1 (.slice (some ⟨w.heap.size, 0, none⟩) 1 1) 1 [u] :=
  ⟨rfl, .inr ⟨w.heap.size, 1, #[u], rfl, hb, heap_alloc_new w _, by omega, by simp [maxLen], rfl, rfl⟩⟩
theorem own_cellI {w : World} {base : Nat} {e : TypeId} {g n c : Nat} {xs : List Value} (h : w.ownsRow base e 1 (.slice (some ⟨g, 0, none⟩) n c) n xs) {i : Nat} {u : Value} (hu : xs[i]? = some u) : w.cell? ⟨g, i, none⟩ = some u := by
  have := h.cells (g := g) rfl i u hu
  simpa [Addr.add_lit] using this
theorem own_cap {w : World} {base : Nat} {e : TypeId} {size g n c : Nat} {xs : List Value} (h : w.ownsRow base e size (.slice (some ⟨g, 0, none⟩) n c) n xs) : n ≤ c := by
  rcases h.2 with ⟨h1, _⟩ | ⟨g1, c1, cur, h1, _, _, h2, _⟩
  · cases h1
  · injection h1 with _ _ h4; omega
theorem told_fin {zs T : List Nat} (h : zs.map (cn .f32) = T) (hf : T.all (fin .f32) = true) : zs = T := by
  subst h
  have : ∀ z ∈ zs, cn .f32 z = z := fun z hz => (fin_word rfl (List.all_eq_true.1 hf _ (List.mem_map_of_mem hz))).symm
  exact (List.map_congr_left this).symm ▸ (List.map_id' zs).symm
/-- The chances that a run is of some length, and one step of them. -/
def stayV (sh : Nat) (c : List Nat) : Nat := c.foldl (fun s x => fb .add .f32 s (fb .mul .f32 x (fb .sub .f32 1065353216 sh))) 0
theorem stay_snoc (sh : Nat) (c : List Nat) (x : Nat) : stayV sh (c ++ [x]) = fb .add .f32 (stayV sh c) (fb .mul .f32 x (fb .sub .f32 1065353216 sh)) := by unfold stayV; rw [List.foldl_append]; rfl
def rcNext (sh : Nat) (c : List Nat) : List Nat := stayV sh c :: (c.take (c.length - 1)).map (fun x => fb .mul .f32 x sh)
def rcSt (sh long : Nat) : Nat → List Nat × Nat
  | 0 => (1065353216 :: List.replicate (long - 1) 0, 0)
  | i + 1 => (rcNext sh (rcSt sh long i).1, fb .add .f32 (rcSt sh long i).2 (fb .mul .f32 ((rcSt sh long i).1.getD (long - 1) 0) sh))
def runL (sh long i : Nat) : List Nat := (List.range (i + 1)).map fun k => (rcSt sh long k).2
theorem runL_succ (sh long i : Nat) : runL sh long (i + 1) = runL sh long i ++ [(rcSt sh long (i + 1)).2] := by unfold runL; rw [List.range_succ, List.map_append]; rfl
theorem rcSt_len {sh long : Nat} (h : 1 ≤ long) : ∀ i, (rcSt sh long i).1.length = long
  | 0 => by simp [rcSt]; omega
  | i + 1 => by
    have := rcSt_len (sh := sh) h i
    simp only [rcSt, rcNext, List.length_cons, List.length_map, List.length_take, this]; omega
theorem info_f32' : (Try.prog.info? 27).map (fun i => (i.zero, i.size, i.bytes)) = some (some (.float .f32 0), 1, 4) := by kernel_rfl
theorem fl_snoc (zs : List Nat) (z : Nat) : fl .f32 zs ++ [.float .f32 z] = fl .f32 (zs ++ [z]) := by simp [fl]
set_option maxHeartbeats 8000000 in
theorem i_RunChances {sh long n : Nat} {w : World} (hs : shB sh = true) (h1 : 1 ≤ long) (h2 : long ≤ 32) (hn : n ≤ 256) (hf : (runL sh long n).all (fin .f32) = true) :
    Calls Try.prog 14 #[.float .f32 sh, .int .i64 long, .int .i64 n] w fun e w' => ∃ (v : Value) (zs : List Nat), e = .returned (.tuple #[v, .bool true]) ∧ w'.ownsRow w.heap.size 27 1 v (n + 1) (fl .f32 zs) ∧ zs = runL sh long n ∧ Below w.heap.size w w' := by
  have Hf := hide hf
  obtain ⟨L, rfl⟩ : ∃ L, long = L + 1 := ⟨long - 1, by omega⟩
  have hi : inB ((L : Int) + 1) 1 32 = true := by unfold inB; simp; omega
  have hi2 : inB n 0 256 = true := by unfold inB; simp; omega
  have hmk : ∀ W : World, (Instr.makeSlice 36 (.int .i64 ((L : Int) + 1)) (.int .i64 ((L : Int) + 1))).run Try.prog W = .ok (.slice (some ⟨W.heap.size, 0, none⟩) (L + 1) (L + 1)) (W.alloc (.cells (fl .f32 (List.replicate (L + 1) 0)).toArray 27)) := by
    intro W
    have := run_make1 36 27 (.float .f32 0) 4 info_f32 Try.underlying36 rfl (L + 1) (by omega) (by omega) W
    rw [show ((L + 1 : Nat) : Int) = (L : Int) + 1 by omega] at this
    rw [this]; simp
  have c0 : (Array.replicate (L + 1) (Value.float .f32 0))[0]? = some (.float .f32 0) := by
    rw [Array.getElem?_replicate, if_pos (by omega)]
  have hE : (Array.replicate (L + 1) (Value.float .f32 0)).setIfInBounds 0 (.float .f32 1065353216) = (fl .f32 (1065353216 :: List.replicate L 0)).toArray := by
    apply Array.ext'
    simp [fl, List.replicate_succ]
  have l0 : (0 : Int) < (L : Int) + 1 := by omega
  have hB : Blk (w.alloc (.cells ((Array.replicate (L + 1) (Value.float .f32 0)).setIfInBounds 0 (.float .f32 1065353216)) 27)) w.heap.size 27 (fl .f32 (1065353216 :: List.replicate L 0)).toArray := by
    have h := Blk.new w 27 ((Array.replicate (L + 1) (Value.float .f32 0)).setIfInBounds 0 (.float .f32 1065353216))
    unfold Blk at h ⊢
    rw [h, hE]
  have HO0 := hide (World.ownsRow.alloc (own_of_blk (base := w.heap.size) hB (Nat.le_refl _) (n := L + 1) (by simp [fl]) (by simp [maxLen]; omega)) (.cells #[.float .f32 0] 27))
  have HX0 := hide (by
    have h := own_litI (w := w.alloc (.cells ((Array.replicate (L + 1) (Value.float .f32 0)).setIfInBounds 0 (.float .f32 1065353216)) 27)) (base := w.heap.size) (e := 27) (u := .float .f32 0) (by simp)
    rwa [World.size_alloc] at h)
  clear hB
  have bel0 := ((Below.refl w.heap.size w).alloc (Nat.le_refl _) (.cells ((Array.replicate (L + 1) (Value.float .f32 0)).setIfInBounds 0 (.float .f32 1065353216)) 27)).alloc (by simp) (.cells #[.float .f32 0] 27)
  clear hE
  go_enter Try.func14, Try.ntmps14
  go_wp2_with (first
    | (go_at_call 55; refine i_isShare.mono ?_; rintro e w' ⟨rfl, rfl⟩; rw [hs])
    | (go_at_call 59; refine (i_within _ _ _ _).mono ?_; rintro e w' ⟨rfl, rfl⟩; first | rw [hi] | rw [hi2]))
  go_loopw [8, 9, 10, 11, 13, 14, 16, 37, 50, 68] (fun v8 v9 v10 _ _ _ _ v37 _ _ wr => ∃ (i d : Nat) (cs os : List Nat), i ≤ n ∧ v37 = .int .i64 (i : Int) ∧ v9 = .float .f32 d ∧ Hid (cn .f32 d = (rcSt sh (L + 1) i).2) ∧ Hid (cs.map (cn .f32) = (rcSt sh (L + 1) i).1) ∧ Hid (os.map (cn .f32) = runL sh (L + 1) i) ∧
    Hid (wr.ownsRow w.heap.size 27 1 v8 (L + 1) (fl .f32 cs)) ∧ Hid (wr.ownsRow w.heap.size 27 1 v10 (i + 1) (fl .f32 os)) ∧ Hid (∀ g, v8.ownBlock = some g → v10.ownBlock ≠ some g) ∧ Below w.heap.size w wr) (fun _ _ _ _ _ _ _ v37 _ _ _ => n - (intOf v37).toNat)
  case atStart => exact ⟨0, 0, 1065353216 :: List.replicate L 0, [0], Nat.zero_le _, rfl, rfl, hide (by rw [rcSt]; exact cn_zero), hide (by
      rw [rcSt, List.map_cons, List.map_replicate]
      rw [cn_zero, show cn .f32 1065353216 = 1065353216 by decide +kernel]; simp), hide (by
      unfold runL
      rw [show List.range (0 + 1) = [0] by decide]
      simp only [List.map_cons, List.map_nil, cn_zero, rcSt]), HO0, HX0, hide (fun g hg hg2 => by
      simp only [Value.ownBlock, Option.some.injEq] at hg hg2
      omega), bel0⟩
  case round =>
    clear HO0 HX0 bel0 hmk c0
    obtain ⟨i, d, cs, os, hin, rfl, rfl, hd, hcs, hos, hoc, hoo, hap, bel⟩ := hrel
    have hcl := rcSt_len (sh := sh) (long := L + 1) (by omega) i
    obtain ⟨C, hC⟩ : ∃ C, (rcSt sh (L + 1) i).1 = C := ⟨_, rfl⟩
    have HC := hide hC
    rw [hC] at hcs hcl
    have hsl : cs.length = L + 1 := by rw [← hcl, ← hcs.out, List.length_map]
    obtain ⟨gc, cc, rfl⟩ := own_addr hoc.out (by omega)
    have hzr := bel.size
    have hgc := hoc.out.lt gc rfl
    have hcap : (L : Int) ≤ (cc : Int) := by
      have := own_cap hoc.out
      omega
    by_cases hlt : i < n
    · have iI : (i : Int) < (n : Int) := by omega
      obtain ⟨x, hx⟩ : ∃ x, cs[L]? = some x := ⟨_, List.getElem?_eq_getElem (by omega)⟩
      have cx : wr.cell? ⟨gc, L, none⟩ = some (.float .f32 x) := own_cellI hoc.out (by simp [fl, hx])
      have hxC : cn .f32 x = C.getD L 0 := told_at hcs.out hx
      have Hx := hide hxC
      have lL : (L : Int) < (L : Int) + 1 := by omega
      have L0 : (0 : Int) ≤ (L : Int) := by omega
      clear hC hx hxC
      go_wp2
      go_loopw [11, 13, 50] (fun v11 _ v50 wr' => ∃ j m z : Nat, j ≤ L + 1 ∧ v50 = .int .i64 (j : Int) ∧ v11 = .float .f32 z ∧ Hid (cn .f32 z = stayV sh (C.take j)) ∧ wr' = wr.drewN m) (fun _ _ v50 _ => L + 1 - (intOf v50).toNat)
      case atStart => exact ⟨0, _, 0, Nat.zero_le _, rfl, rfl, hide cn_zero, rfl⟩
      case round =>
        obtain ⟨j, m, z, hj, rfl, rfl, hz, rfl⟩ := hrel
        by_cases hjl : j < L + 1
        · have jI : (j : Int) < (L : Int) + 1 := by omega
          obtain ⟨y, hy⟩ : ∃ y, cs[j]? = some y := ⟨_, List.getElem?_eq_getElem (by omega)⟩
          have cy : (wr.drewN m).cell? ⟨gc, j, none⟩ = some (.float .f32 y) := (by exact own_cellI hoc.out (by simp [fl, hy]) : wr.cell? ⟨gc, j, none⟩ = some (.float .f32 y))
          have hyC : cn .f32 y = C.getD j 0 := told_at hcs.out hy
          have hCj : C[j]? = some (C.getD j 0) := by rw [List.getD_eq_getElem?_getD, List.getElem?_eq_getElem (by omega)]; rfl
          have HZ : ∀ w1 w2 w3 : World, Hid (cn .f32 (flR .add .f32 z (flR .mul .f32 y (flR .sub .f32 1065353216 sh w1) w2) w3) = stayV sh (C.take (j + 1))) := fun w1 w2 w3 => hide (by
            rw [take_eq hCj, stay_snoc, am1, hz.out, hyC])
          clear hy hyC hCj hz
          go_wp2
          go_roundw
          case rel => exact ⟨j + 1, _, _, by omega, by go_num, rfl, HZ _ _ _, rfl⟩
          case measure => simp [intOf]; omega
        · obtain rfl : j = L + 1 := by omega
          have jI : ¬ ((L + 1 : Nat) : Int) < (L : Int) + 1 := by omega
          have HZ : Hid (cn .f32 z = stayV sh C) := hide (by rw [hz.out, List.take_of_length_le (by omega)])
          clear hz
          obtain ⟨wB, hwB⟩ : ∃ wB, wr.drewN m = wB := ⟨_, rfl⟩
          have hoc2 := hide (own_drewN hoc.out m)
          have hoo2 := hide (own_drewN hoo.out m)
          have belB := below_drewN bel m
          rw [hwB] at hoc2 hoo2 belB ⊢
          have hzB : wr.heap.size = wB.heap.size := by rw [← hwB]; rfl
          have Hlc := hide (fun g hg => (hoc2.out.lt g hg).2)
          have Hlo := hide (fun g hg => (hoo2.out.lt g hg).2)
          have HNX := hide (own_litI (w := wB) (base := wB.heap.size) (e := 27) (u := .float .f32 z) (Nat.le_refl _))
          have HBL : Below wB.heap.size wB (wB.alloc (.cells #[.float .f32 z] 27)) := (Below.refl _ _).alloc (Nat.le_refl _) _
          clear hoc hoo bel hwB cx
          go_wp2
          go_loopw [14, 16, 68] (fun v14 _ v68 w2 => ∃ (j : Nat) (ns : List Nat), j ≤ L ∧ v68 = .int .i64 (j : Int) ∧ Hid (w2.ownsRow wB.heap.size 27 1 v14 (j + 1) (fl .f32 ns)) ∧ Hid (ns.map (cn .f32) = stayV sh C :: (C.take j).map (fun x => fb .mul .f32 x sh)) ∧ Below wB.heap.size wB w2) (fun _ _ v68 _ => L - (intOf v68).toNat)
          case atStart => exact ⟨0, [z], Nat.zero_le _, rfl, hide HNX.out, hide (by simp [HZ.out]), HBL⟩
          case round =>
            clear HNX HBL
            obtain ⟨j, ns, hj2, rfl, hon, hns, bel2⟩ := hrel
            by_cases hjl2 : j < L
            · have jI2 : (j : Int) < (L : Int) := by omega
              obtain ⟨y, hy⟩ : ∃ y, cs[j]? = some y := ⟨_, List.getElem?_eq_getElem (by omega)⟩
              have cy : wr.cell? ⟨gc, j, none⟩ = some (.float .f32 y) := own_cellI (own_keptB hoc2.out bel2 Hlc.out) (by simp [fl, hy])
              have hyC : cn .f32 y = C.getD j 0 := told_at hcs.out hy
              have hCj : C[j]? = some (C.getD j 0) := by rw [List.getD_eq_getElem?_getD, List.getElem?_eq_getElem (by omega)]; rfl
              have HN : ∀ w1 : World, Hid ((ns ++ [flR .mul .f32 y sh w1]).map (cn .f32) = stayV sh C :: (C.take (j + 1)).map (fun x => fb .mul .f32 x sh)) := fun w1 => hide (by
                rw [List.map_append, hns.out, take_eq hCj, List.map_append, List.map_cons, List.map_nil, List.map_cons, List.map_nil, cn_flR, ← fb_cnl, hyC, List.cons_append])
              have hz2 := bel2.size
              clear hy hyC hCj hns
              go_wp2_with (at_builtin; refine wpList_append1 rfl (.tmp 72) (.tmp 76) 36 rfl wB.heap.size 27 (.float .f32 0) _ 4 info_f32' Try.underlying36 rfl rfl _ _ _ rfl (own_drewN hon.out _) rfl rfl (by omega) (by omega) hz2 ?_)
              intro v9 w9 ho9 hb9
              rw [fl_snoc] at ho9
              have HO9 := hide ho9
              have bel9 := (below_drewN bel2 _).trans hb9
              clear ho9 hb9 hon bel2
              go_wp2
              go_roundw
              case rel => exact ⟨j + 1, _, by omega, by go_num, HO9, HN _, bel9⟩
              case measure => simp [intOf]; omega
            · obtain rfl : j = L := by omega
              have jI2 : ¬ (j : Int) < (j : Int) := by omega
              have hoo3 := hide (own_keptB hoo2.out bel2 Hlo.out)
              have HN : Hid (ns.map (cn .f32) = (rcSt sh (j + 1) (i + 1)).1) := hide (by
                rw [hns.out, rcSt, HC.out, rcNext, hcl]; rfl)
              have bel3 := belB.trans (bel2.mono (by have := belB.size; omega))
              have hz2 := bel3.size
              have hz3 := bel2.size
              have HD : ∀ w1 w2 : World, Hid (cn .f32 (flR .add .f32 d (flR .mul .f32 x sh w1) w2) = (rcSt sh (j + 1) (i + 1)).2) := fun w1 w2 => hide (by
                rw [am2, hd.out, Hx.out, rcSt, HC.out]; rfl)
              have HON := hide (own_up hon.out (show w.heap.size ≤ wB.heap.size by have := belB.size; omega))
              have Hap : Hid (∀ g, Value.ownBlock _ = some g → Value.ownBlock _ ≠ some g) := hide (fun g hg hg2 => by
                have h1 := (hon.out.lt g hg).1
                have h2 := Hlo.out g hg2
                omega)
              have Hlt := hide (fun g hg => (hon.out.lt g hg).2)
              clear hns bel2 hoc2 hoo2 belB hon
              go_wp2_with (at_builtin; refine wpList_append1g rfl (.tmp 80) (.tmp 82) 36 rfl w.heap.size 27 (.float .f32 0) _ 4 info_f32' Try.underlying36 rfl rfl _ _ _ rfl hoo3.out rfl rfl (by omega) (by omega) hz2 ?_)
              intro v9 w9 ho9 hg9 hap9
              rw [fl_snoc] at ho9
              have HO9 := hide ho9
              have HC9 := hide (World.ownsRow.kept (World.ownsRow.alloc HON.out _) hg9 (by
                cases hv : Value.ownBlock _ with
                | none => exact .inl rfl
                | some k => exact .inr (fun e => Hap.out k hv e.symm)))
              have HA9 := hide (fun g hg => hap9 g (Hlt.out g hg) (Hap.out g hg))
              have bel9 := (bel3.alloc hz2 _).grown hg9 (by simp; omega) (fun g hg => (hoo3.out.lt g hg).1)
              have HOS : ∀ w1 w2 : World, Hid ((os ++ [flR .add .f32 d (flR .mul .f32 x sh w1) w2]).map (cn .f32) = runL sh (j + 1) (i + 1)) := fun w1 w2 => hide (by
                rw [List.map_append, hos.out, runL_succ, List.map_cons, List.map_nil, (HD w1 w2).out])
              clear ho9 hg9 hap9 HON bel3 hoo3
              go_wp2
              go_roundw
              case rel => exact ⟨i + 1, _, ns, _, by omega, by go_num, rfl, HD _ _, HN, HOS _ _, HC9, HO9, HA9, bel9⟩
              case measure => simp [intOf]; omega
    · obtain rfl : i = n := by omega
      have iI : ¬ (i : Int) < (i : Int) := by omega
      have heq : os = runL sh (L + 1) i := told_fin hos.out Hf.out
      obtain ⟨go, co, rfl⟩ := own_addr hoo.out (by omega)
      have hR := hide (Reads.of_own hoo.out)
      have hfo : os.all (fin .f32) = true := by rw [heq]; exact Hf.out
      have HE := hide heq
      have HO := hide hoo.out
      clear hoc hap heq hos hcs hd hC HC hcl hsl hoo
      go_wp2_with fail
      refine (i_ifAll_yes hR.out (by simp [maxLen]; omega) hfo).mono ?_
      rintro e w' ⟨rfl, m3, rfl⟩
      go_wp2
      go_ret2
      exact ⟨_, os, rfl, own_drewN HO.out _, HE.out, below_drewN bel _⟩
end Go.Proofs.Ytolbibpmngmpdaa
