/-
  What bytes begin with: the program's walk.
-/
import Derived.Test.YtjfmjeffmnjilaaTkQ
import Derived.Deep.RegionLaw
namespace Go.Proofs.Ytjfmjeffmnjilaa
open Go.RowKit Fl Mem
set_option linter.unusedVariables false
set_option maxRecDepth 100000

theorem results_row_tmpS {P : Program} {fn : Func} {p u : Tmp} {ty : TypeId} (h : fn.results = #[.cell p ty, .tmp u]) (tmps : Array Value) (w : World) (g : Nat) (t : TypeId) (cs : Array Value) (fr : Nat × Nat) (d : TypeDesc)
    (hp : tmps.getD p undef = .pointer (some ⟨g, 0, none⟩)) (hg : w.heap[g]? = some (.cells cs t fr))
    (hu : P.underlying ty = some d) (hd : (match d with | .struct _ | .array _ _ => true | _ => false) = true) (hi : (P.info? ty).map (·.size) = some cs.size) :
    (results fn tmps).run P w = .ok (.tuple #[.agg cs, tmps.getD u undef]) w := by
  rw [results_cell_tmp h, hp]
  simp [asAddr, run_loadVar_row w g t ty cs fr d hg hu hd hi, Result.andThen]
theorem number_step {T off k a : Nat} {s : ByteArray} {l : List UInt8} {sh : Bool} {w : World} (HL : Hid (s.data.toList = l)) (hs : s.size ≤ 1048576) (hT : Blk w T 107 #[.string s, .int .i64 (a : Int), .bool sh]) (S : Hid (St l l.length off a sh)) (hk : k ≤ 4) (hE : sh = false → off + k ≤ dE l) :
    Calls Try.prog 91 #[.pointer (some ⟨T, 0, none⟩), .int .i64 (k : Int)] w fun e w' => ∃ (v a' : Nat) (sh' : Bool), e = .returned (.int .i64 (v : Int)) ∧ Blk w' T 107 #[.string s, .int .i64 (a' : Int), .bool sh'] ∧ w.grownBy w' (some T) ∧ v < 256 ^ k ∧
      Hid (St l l.length (off + k) a' sh') ∧ Hid (sh' = false → sh = false ∧ v = rd l off k) := by
  have hN : s.size = l.length := by rw [← HL.out, Array.length_toList]; rfl
  obtain ⟨h1, h2⟩ := S.out.num HL.out hN (m := k) hE
  exact (number_calls hT (by have := S.out.1; omega) hs hk).mono fun e w' ⟨e1, e2, e3⟩ => ⟨_, _, _, e1, e2, e3, tk_lt s a k, hide h1, hide h2⟩
theorem take_step {T off n m a : Nat} {s : ByteArray} {l : List UInt8} {sh : Bool} {w : World} (HL : Hid (s.data.toList = l)) (hs : s.size ≤ 1048576) (hT : Blk w T 107 #[.string s, .int .i64 (a : Int), .bool sh]) (S : Hid (St l l.length off a sh)) (hn : n ≤ 1048576) (hm : sh = false → n = m) (hE : sh = false → off + m ≤ dE l) :
    Calls Try.prog 90 #[.pointer (some ⟨T, 0, none⟩), .int .i64 (n : Int)] w fun e w' => ∃ (t : ByteArray) (a' : Nat) (sh' : Bool), e = .returned (.string t) ∧ Blk w' T 107 #[.string s, .int .i64 (a' : Int), .bool sh'] ∧ w.grownBy w' (some T) ∧ t.size = n ∧
      Hid (St l l.length (off + m) a' sh') ∧ Hid (sh' = false → sh = false ∧ t.data.toList = (l.drop off).take m) := by
  have hN : s.size = l.length := by rw [← HL.out, Array.length_toList]; rfl
  obtain ⟨h1, h2⟩ := S.out.step HL.out hN (n := n) (m := m) hm hE
  exact (take_calls hT (by have := S.out.1; omega) hs hn).mono fun e w' ⟨e1, e2, e3⟩ => ⟨_, _, _, e1, e2, e3, tkS_size s a n, hide h1, hide h2⟩
theorem own_kept_lt {w w' : World} {base B : Nat} {e : TypeId} {size n : Nat} {v : Value} {xs : List Value} (h : w.ownsRow base e size v n xs) (hb : Below B w w') (hlt : ∀ k, v.ownBlock = some k → k < B) : w'.ownsRow base e size v n xs := by
  refine ⟨h.1, ?_⟩
  rcases h.2 with hn | ⟨g, cap, cur, rfl, hb0, hgg, rest⟩
  · exact .inl hn
  · exact .inr ⟨g, cap, cur, rfl, hb0, (hb.block g (hlt g rfl)).trans hgg, rest⟩
theorem own_il {w : World} {b : Nat} {t : TypeId} {v : Value} {k : Nat} {z : Int} {zs : List Int} (h : w.ownsRow b t 1 v k (il zs ++ [.int .i64 z])) : w.ownsRow b t 1 v k (il (zs ++ [z])) := by
  have e : il (zs ++ [z]) = il zs ++ [.int .i64 z] := by simp [il]
  rw [e]; exact h
theorem own_fl {w : World} {b : Nat} {t : TypeId} {v : Value} {k z : Nat} {zs : List Nat} (h : w.ownsRow b t 1 v k (fl .f32 zs ++ [.float .f32 z])) : w.ownsRow b t 1 v k (fl .f32 (zs ++ [z])) := by
  have e : fl .f32 (zs ++ [z]) = fl .f32 zs ++ [.float .f32 z] := by simp [fl]
  rw [e]; exact h
theorem ss_yes {s : Sv} {B : Nat} {w : World} {M : ByteArray} (h : SvOk w B s) (hB : B ≤ w.heap.size) (hl : SvLe 1048576 s) (hq : svB s = true) (hM : stored s.nm s.parts s.ps s.xs = M) : Calls Try.prog 22 #[svV s] w fun e w' => e = .returned (.tuple #[.string M, .bool true]) ∧ Below w.heap.size w w' :=
  (i_StoreSaved h hB hl).mono fun e w' ⟨a, b⟩ => ⟨by rw [a, hq, if_pos rfl, hM], b⟩
theorem ss_no {s : Sv} {B : Nat} {w : World} (h : SvOk w B s) (hB : B ≤ w.heap.size) (hl : SvLe 1048576 s) (hq : svB s = false) : Calls Try.prog 22 #[svV s] w fun e w' => e = .returned (.tuple #[.string .empty, .bool false]) ∧ Below w.heap.size w w' :=
  (i_StoreSaved h hB hl).mono fun e w' ⟨a, b⟩ => ⟨by rw [a, hq]; rfl, b⟩
theorem wf_small {a : Int} (h0 : 0 ≤ a) (h1 : a < 65536) : (Lit.int .i64 a).wf = true := by
  have e1 : IntKind.i64.min = -9223372036854775808 := rfl
  have e2 : IntKind.i64.max = 9223372036854775807 := rfl
  simp [Lit.wf, e1, e2]
  omega
theorem SvOwn.drew {w : World} {b : Nat} {s : Sv} (h : SvOwn w b s) : SvOwn w.drew b s := ⟨h.paths, h.sig, h.wf, h.wfi, h.wfp⟩
set_option maxHeartbeats 4000000 in
theorem i_taken {s : ByteArray} {w : World} (hs : s.size ≤ 1048576) :
    Calls Try.prog 57 #[.string s] w fun e w' => ∃ (q : Sv) (n : Nat), e = .returned (.tuple #[svV q, .int .i64 (n : Int)]) ∧ Below w.heap.size w w' ∧
      ((begB s.data.toList = false ∧ n = 0 ∧ q = sv0) ∨ (begB s.data.toList = true ∧ n = dE s.data.toList ∧ svT q = dQ s.data.toList ∧ SvOwn w' w.heap.size q ∧ SvLe 1048576 q)) := by
  obtain ⟨l, hl⟩ : ∃ l, s.data.toList = l := ⟨_, rfl⟩
  have hN : s.size = l.length := by rw [← hl, Array.length_toList]; rfl
  have HL := hide hl
  have HN0 := hide hN
  have hE4 : 4 ≤ dE l := by unfold dE dO; omega
  rw [hl]
  clear hl
  have S0 : Hid (St l l.length 0 0 false) := hide ⟨Nat.zero_le _, .inl ⟨rfl, rfl⟩⟩
  have hEb : dE l = 10 + dC l + 2 * dK l + 4 * dM l := by unfold dE dO; omega
  have hdC : dC l < 256 := rd_lt l 4 1
  go_enter Try.func57, Try.ntmps57
  go_wp2_with fail
  refine (take_step (n := 4) (m := 4) (off := 0) (T := w.heap.size + 1) HL hs (blk_new' (w.alloc _) (w.heap.size + 1) _ _ (by simp)) S0 (by omega) (fun _ => rfl) (fun _ => by omega)).mono ?_
  rintro e w1 ⟨S4, a1, sh1, rfl, hT, hG, _, S1, V1⟩
  have HR : Hid (Blk w1 w.heap.size 38 #[.string .empty, .int .i64 0, .slice none 0 0, .slice none 0 0]) := hide (((Blk.new w _ _).alloc _).grown hG (fun e => by injection e with e; omega))
  have bel : Below w.heap.size w w1 := (((Below.refl _ _).alloc (Nat.le_refl _) _).alloc (by simp) _).trans (below_of_grownBy hG (by omega) (by simp; omega))
  have HT := hide hT
  have hz : w.heap.size + 2 ≤ w1.heap.size := by have := hG.size; simpa using this
  clear hT hG S0
  have hlit : (⟨#[76, 73, 86, 49]⟩ : ByteArray).toList = [76, 73, 86, 49] := by rw [Go.Lib.toList_data]
  have hX : (S4 = ⟨#[76, 73, 86, 49]⟩) ∨ S4 ≠ ⟨#[76, 73, 86, 49]⟩ := Classical.em _
  rcases hX with hX | hX
  · have hk1 : (!S4.toList == [76, 73, 86, 49]) = false := by rw [← hlit, strNe, decide_eq_true hX]; rfl
    clear hX hlit
    go_wp2_with fail
    refine (number_step (k := 1) HL hs HT.out S1 (by omega) (fun _ => by omega)).mono ?_
    rintro e w2 ⟨v2, a2, sh2, rfl, hT, hG, hv2, S2, V2⟩
    replace HT := hide hT
    replace HR := hide (HR.out.grown hG (fun e => by injection e with e; omega))
    replace bel := bel.trans (below_of_grownBy hG (by omega) bel.size)
    replace hz := Nat.le_trans hz hG.size
    clear hT hG
    go_wp2_with fail
    refine (take_step (n := v2) (m := dC l) HL hs HT.out S2 (by omega) (fun e => (V2.out e).2) (fun _ => by omega)).mono ?_
    rintro e w3 ⟨nm, a3, sh3, rfl, hT, hG, hnm, S3, V3⟩
    replace HT := hide hT
    replace HR := hide (HR.out.grown hG (fun e => by injection e with e; omega))
    replace bel := bel.trans (below_of_grownBy hG (by omega) bel.size)
    replace hz := Nat.le_trans hz hG.size
    clear hT hG
    have HS := hide (Blk.new w3 38 #[.string nm, .int .i64 0, .slice none 0 0, .slice none 0 0])
    replace HT := hide (HT.out.alloc (.cells #[.string nm, .int .i64 0, .slice none 0 0, .slice none 0 0] 38))
    replace HR := hide (HR.out.alloc (.cells #[.string nm, .int .i64 0, .slice none 0 0, .slice none 0 0] 38))
    replace bel := bel.alloc bel.size (.cells #[.string nm, .int .i64 0, .slice none 0 0, .slice none 0 0] 38)
    have hzS : w3.heap.size < (w3.alloc (.cells #[.string nm, .int .i64 0, .slice none 0 0, .slice none 0 0] 38)).heap.size := by simp
    go_wp2_with fail
    refine (number_step (k := 1) HL hs HT.out S3 (by omega) (fun _ => by omega)).mono ?_
    rintro e w4 ⟨v4, a4, sh4, rfl, hT, hG, hv4, S4', V4⟩
    replace HT := hide hT
    replace HR := hide (HR.out.grown hG (fun e => by injection e with e; omega))
    replace HS := hide (HS.out.grown hG (fun e => by injection e with e; omega))
    replace bel := bel.trans (below_of_grownBy hG (by omega) bel.size)
    have hzX : w3.heap.size + 1 ≤ w4.heap.size := by have := hG.size; simp at this; omega
    clear hT hG
    have x1 : w4.cell? ⟨w3.heap.size, 1, none⟩ = some (.int .i64 0) := HS.out.cell 1
    have xf1 : w4.frozen? ⟨w3.heap.size, 1, none⟩ = false := HS.out.frozen 1
    replace HS := hide (HS.out.set_ 1 (.int .i64 (v4 : Int)))
    replace HT := hide (HT.out.far (p := ⟨w3.heap.size, 1, none⟩) (by show w.heap.size + 1 ≠ w3.heap.size; omega) (.int .i64 (v4 : Int)))
    replace HR := hide (HR.out.far (p := ⟨w3.heap.size, 1, none⟩) (by show w.heap.size ≠ w3.heap.size; omega) (.int .i64 (v4 : Int)))
    replace bel := bel.setCell (p := ⟨w3.heap.size, 1, none⟩) (by show w.heap.size ≤ w3.heap.size; omega) (.int .i64 (v4 : Int))
    have hsz5 : (w4.setCell ⟨w3.heap.size, 1, none⟩ (.int .i64 (v4 : Int))).heap.size = w4.heap.size := by simp [World.setCell]
    go_wp2_with fail
    refine (number_step (k := 1) HL hs HT.out S4' (by omega) (fun _ => by omega)).mono ?_
    rintro e w5 ⟨v5, a5, sh5, rfl, hT, hG, hv5, S5, V5⟩
    replace HT := hide hT
    replace HR := hide (HR.out.grown hG (fun e => by injection e with e; omega))
    replace HS := hide (HS.out.grown hG (fun e => by injection e with e; omega))
    replace bel := bel.trans (below_of_grownBy hG (by omega) bel.size)
    have hzX : w3.heap.size + 1 ≤ w5.heap.size := by have := hG.size; simp [World.setCell] at this; omega
    clear hT hG
    clear x1 xf1 hsz5
    go_wp2
    go_loopw [28] (fun i wr => ∃ (k a : Nat) (sh : Bool) (PA : Option Addr) (pc : Nat) (ps : List Int), k ≤ v5 ∧ i = .int .i64 k ∧ Hid (Blk wr (w.heap.size + 1) 107 #[.string s, .int .i64 (a : Int), .bool sh]) ∧ Hid (Blk wr w.heap.size 38 #[.string .empty, .int .i64 0, .slice none 0 0, .slice none 0 0]) ∧ Hid (Blk wr w3.heap.size 38 #[.string nm, .int .i64 (v4 : Int), .slice PA k pc, .slice none 0 0]) ∧ Hid (wr.ownsRow (w3.heap.size + 1) 2 1 (.slice PA k pc) k (il ps)) ∧ Hid (St l l.length (7 + dC l + 2 * k) a sh) ∧ Hid (sh = false → sh5 = false ∧ ps = dPs l k) ∧ Hid (∀ p ∈ ps, 0 ≤ p ∧ p < 65536) ∧ Below w.heap.size w wr ∧ w3.heap.size + 1 ≤ wr.heap.size) (fun i _ => v5 - (intOf i).toNat)
    case atStart => exact ⟨0, a5, sh5, none, 0, [], Nat.zero_le _, rfl, HT, HR, HS, hide ⟨rfl, .inl ⟨rfl, rfl⟩⟩, hide (by have := S5.out; rwa [show 0 + 4 + 1 + dC l + 1 + 1 = 7 + dC l + 2 * 0 by omega] at this), hide (fun e => ⟨e, rfl⟩), hide (fun p hp => by cases hp), bel, by assumption⟩
    case round =>
      clear HT HR HS bel
      obtain ⟨k, a, sh, PA, pc, ps, hk, rfl, HT, HR, HS, HO, SS, HP, HB, bel, hzr⟩ := hrel
      by_cases hlt : k < v5
      · have kI : (k : Int) < (v5 : Int) := by omega
        have e2 : wr.cell? ⟨w3.heap.size, 2, none⟩ = some (.slice PA k pc) := HS.out.cell 2
        have f2 : wr.frozen? ⟨w3.heap.size, 2, none⟩ = false := HS.out.frozen 2
        have HTd : Blk wr.drew (w.heap.size + 1) 107 #[.string s, .int .i64 (a : Int), .bool sh] := HT.out
        have hbd : sh = false → 7 + dC l + 2 * k + 2 ≤ dE l := fun e => by
          have h1 := (HP.out e).1
          have h2 := (V5.out h1).2
          have h3 : v5 = dK l := by rw [h2]; unfold dK; congr 1; omega
          omega
        have hneT : w.heap.size + 1 < w3.heap.size + 1 := by omega
        have hXT : w3.heap.size ≠ w.heap.size + 1 := by omega
        have nc : Calls Try.prog 91 #[.pointer (some ⟨w.heap.size + 1, 0, none⟩), .int .i64 2] wr.drew fun e w7 => ∃ (v7 a7 : Nat) (sh7 : Bool), e = .returned (.int .i64 (v7 : Int)) ∧ Blk w7 (w.heap.size + 1) 107 #[.string s, .int .i64 (a7 : Int), .bool sh7] ∧ v7 < 65536 ∧ Hid (St l l.length (7 + dC l + 2 * k + 2) a7 sh7) ∧ Hid (sh7 = false → sh = false ∧ v7 = rd l (7 + dC l + 2 * k) 2) ∧ Blk w7 w.heap.size 38 #[.string .empty, .int .i64 0, .slice none 0 0, .slice none 0 0] ∧ w7.ownsRow (w3.heap.size + 1) 2 1 (.slice PA k pc) k (il ps) ∧ Blk w7 w3.heap.size 38 #[.string nm, .int .i64 (v4 : Int), .slice PA k pc, .slice none 0 0] ∧ w3.heap.size + 1 ≤ w7.heap.size ∧ Below w.heap.size w w7 := by
          refine (number_step (k := 2) HL hs HTd SS (by omega) hbd).mono ?_
          rintro e w7 ⟨v7, a7, sh7, rfl, hT7, hG7, hv7, S7, V7⟩
          exact ⟨v7, a7, sh7, rfl, hT7, by simpa using hv7, S7, V7, Blk.grown (w := wr.drew) HR.out hG7 (fun e => by injection e with e; omega), own_kept_T (w := wr.drew) HO.out hG7 hneT, Blk.grown (w := wr.drew) HS.out hG7 (fun e => by injection e with e; omega), Nat.le_trans hzr hG7.size, bel.drew.trans (below_of_grownBy (w := wr.drew) hG7 (by omega) bel.size)⟩
        go_wp2
        go_region_law (first
          | (refine step_append1c rfl (.tmp 32) (.tmp 35) 28 rfl (w3.heap.size + 1) 2 (.int .i64 0) _ 8 info_i64 Try.underlying28 rfl rfl (.slice PA k pc) k (il ps) (by simp [Act.eval]; done) HO7 (by simp [Act.eval]; done) rfl (by omega) (by omega) hz7 ?_; intro v8 w8 hown8 hb8; obtain ⟨PA8, pc8, rfl⟩ := own_shape hown8; have s2 : w8.cell? ⟨w3.heap.size, 2, none⟩ = some (.slice PA k pc) := (hb8.cell (by show w3.heap.size < _; omega)).trans e27; have sf2 : w8.frozen? ⟨w3.heap.size, 2, none⟩ = false := (hb8.frozen (by show w3.heap.size < _; omega)).trans f27)
          | (go_simp; go_at_call 91; refine nc.mono ?_; rintro e w7 ⟨v7, a7, sh7, rfl, hT7, hv7, S7, V7, hR7, HO7, hS7, hz7, bel7⟩; have e27 : w7.cell? ⟨w3.heap.size, 2, none⟩ = some (.slice PA k pc) := hS7.cell 2; have f27 : w7.frozen? ⟨w3.heap.size, 2, none⟩ = false := hS7.frozen 2; have e28 : (w7.alloc (.cells #[.int .i64 (v7 : Int)] 2)).cell? ⟨w3.heap.size, 2, none⟩ = some (.slice PA k pc) := (hS7.alloc _).cell 2))
        all_goals clear nc hbd e2 f2 e27 f27 e28 s2 sf2
        all_goals have HT8 := hide ((Blk.below hT7 hb8 (by omega)).far (p := ⟨w3.heap.size, 2, none⟩) (by show w.heap.size + 1 ≠ w3.heap.size; omega) (.slice PA8 (k + 1) pc8))
        all_goals have HR8 := hide ((Blk.below hR7 hb8 (by omega)).far (p := ⟨w3.heap.size, 2, none⟩) (by show w.heap.size ≠ w3.heap.size; omega) (.slice PA8 (k + 1) pc8))
        all_goals have HS8 := hide ((Blk.below hS7 hb8 (by omega)).set_ 2 (.slice PA8 (k + 1) pc8))
        all_goals have HO8 := hide (own_put (own_il hown8) (p := ⟨w3.heap.size, 2, none⟩) (by show w3.heap.size < w3.heap.size + 1; omega) (.slice PA8 (k + 1) pc8))
        all_goals have bel8 := (bel7.trans (hb8.mono (by omega))).setCell (p := ⟨w3.heap.size, 2, none⟩) (by show w.heap.size ≤ w3.heap.size; omega) (.slice PA8 (k + 1) pc8)
        all_goals have hz8 : w3.heap.size + 1 ≤ (w8.setCell ⟨w3.heap.size, 2, none⟩ (.slice PA8 (k + 1) pc8)).heap.size := by have := hb8.size; simp [World.setCell]; omega
        all_goals have HS8' : Hid (St l l.length (7 + dC l + 2 * (k + 1)) a7 sh7) := hide (by rw [show 7 + dC l + 2 * (k + 1) = 7 + dC l + 2 * k + 2 by omega]; exact S7.out)
        all_goals have HP8 : Hid (sh7 = false → sh5 = false ∧ ps ++ [(v7 : Int)] = dPs l (k + 1)) := hide (fun e => by
          obtain ⟨h1, h2⟩ := V7.out e
          obtain ⟨h3, h4⟩ := HP.out h1
          exact ⟨h3, by rw [dPs_succ, h4, h2]⟩)
        all_goals have HB8 : Hid (∀ p ∈ ps ++ [(v7 : Int)], 0 ≤ p ∧ p < 65536) := hide (fun p hp => by
          rcases List.mem_append.1 hp with h | h
          · exact HB.out p h
          · rw [List.mem_singleton] at h; subst h; omega)
        all_goals clear hT7 hR7 hS7 HO7 hown8 hb8 hz7 bel7 S7 V7 HTd HT HR HS HO SS HP HB bel hzr
        all_goals go_wp2
        all_goals go_roundw
        case rel => exact ⟨k + 1, a7, sh7, PA8, pc8, ps ++ [(v7 : Int)], by omega, by go_num, HT8, HR8, HS8, HO8, HS8', HP8, HB8, bel8, hz8⟩
        case measure => (simp [intOf]; try omega)
        case rel => exact ⟨k + 1, a7, sh7, PA8, pc8, ps ++ [(v7 : Int)], by omega, by go_num, HT8, HR8, HS8, HO8, HS8', HP8, HB8, bel8, hz8⟩
        case measure => (simp [intOf]; try omega)
        case rel => exact ⟨k + 1, a7, sh7, PA8, pc8, ps ++ [(v7 : Int)], by omega, by go_num, HT8, HR8, HS8, HO8, HS8', HP8, HB8, bel8, hz8⟩
        case measure => (simp [intOf]; try omega)
      · obtain rfl : k = v5 := by omega
        have kI : ¬ (k : Int) < (k : Int) := by omega
        have hkK : sh5 = false → k = dK l := fun e => by rw [(V5.out e).2]; unfold dK; congr 1; omega
        go_wp2_with fail
        refine (number_step (k := 1) HL hs HT.out SS (by omega) (fun e => by have := hkK (HP.out e).1; omega)).mono ?_
        rintro e w6 ⟨v6, a6, sh6, rfl, hT, hG, hv6, S6, V6⟩
        have hsM : sh6 = false → sh5 = false ∧ ps = dPs l k ∧ v6 = dM l ∧ k = dK l := fun e => by
          obtain ⟨h1, h2⟩ := V6.out e
          obtain ⟨h3, h4⟩ := HP.out h1
          have h5 := hkK h3
          exact ⟨h3, h4, by rw [h2]; unfold dM dO; rw [h5], h5⟩
        have HO6 := hide (own_kept_T HO.out hG (by omega))
        have HS6 := hide (HS.out.grown hG (fun e => by injection e with e; omega))
        replace HT := hide hT
        replace HR := hide (HR.out.grown hG (fun e => by injection e with e; omega))
        replace bel := bel.trans (below_of_grownBy hG (by omega) bel.size)
        have hz6 : w3.heap.size + 1 ≤ w6.heap.size := Nat.le_trans hzr hG.size
        have Hlt6 : Hid (∀ g, (Value.slice PA k pc).ownBlock = some g → g < w6.heap.size) := hide (fun g hg => (HO6.out.lt g hg).2)
        have S6' : Hid (St l l.length (8 + dC l + 2 * k + 4 * 0) a6 sh6) := hide (by rw [show 8 + dC l + 2 * k + 4 * 0 = 7 + dC l + 2 * k + 1 by omega]; exact S6.out)
        clear hT hG HO HS SS S6 V6 hkK hzr
        go_wp2
        go_loopw [6, 7, 42] (fun _ _ i wr => ∃ (m a : Nat) (shr : Bool) (SA : Option Addr) (sc : Nat) (zs : List Nat), m ≤ v6 ∧ i = .int .i64 m ∧ Hid (Blk wr (w.heap.size + 1) 107 #[.string s, .int .i64 (a : Int), .bool shr]) ∧ Hid (Blk wr w.heap.size 38 #[.string .empty, .int .i64 0, .slice none 0 0, .slice none 0 0]) ∧ Hid (Blk wr w3.heap.size 38 #[.string nm, .int .i64 (v4 : Int), .slice PA k pc, .slice SA m sc]) ∧ Hid (wr.ownsRow (w3.heap.size + 1) 2 1 (.slice PA k pc) k (il ps)) ∧ Hid (wr.ownsRow w6.heap.size 63 1 (.slice SA m sc) m (fl .f32 zs)) ∧ Hid (St l l.length (8 + dC l + 2 * k + 4 * m) a shr) ∧ Hid (shr = false → sh6 = false ∧ zs = dXs l m) ∧ Hid (∀ z ∈ zs, z < 4294967296) ∧ Below w.heap.size w wr ∧ w6.heap.size ≤ wr.heap.size) (fun _ _ i _ => v6 - (intOf i).toNat)
        case atStart => exact ⟨0, a6, sh6, none, 0, [], Nat.zero_le _, rfl, HT, HR, HS6, HO6, hide (own_nil _ _ _ _), S6', hide (fun e => ⟨e, rfl⟩), hide (fun p hp => by cases hp), bel, Nat.le_refl _⟩
        case round =>
          clear HT HR HS6 HO6 bel S6'
          obtain ⟨m, a, shr, SA, sc, zs, hm, rfl, HT, HR, HS, HO, HX, SS, HZ, HY, bel, hzr⟩ := hrel
          by_cases hlt : m < v6
          · have mI : (m : Int) < (v6 : Int) := by omega
            have hbd : shr = false → 8 + dC l + 2 * k + 4 * m + 4 ≤ dE l := fun e => by
              obtain ⟨_, _, h3, h4⟩ := hsM (HZ.out e).1
              omega
            go_wp2_with fail
            refine (number_step (k := 4) HL hs HT.out SS (by omega) hbd).mono ?_
            rintro e w7 ⟨v7, a7, sh7, rfl, hT7, hG7, hv7', S7, V7⟩
            have hv7 : v7 < 4294967296 := by simpa using hv7'
            have HT7 := hide hT7
            have HR7 := hide (Blk.grown HR.out hG7 (fun e => by injection e with e; omega))
            have HS7 := hide (Blk.grown HS.out hG7 (fun e => by injection e with e; omega))
            have HO7 := hide (own_kept_T HO.out hG7 (by omega))
            have HX7 := hide (own_kept_T HX.out hG7 (by omega))
            have bel7 := bel.trans (below_of_grownBy hG7 (by omega) bel.size)
            have hz7 : w6.heap.size ≤ w7.heap.size := Nat.le_trans hzr hG7.size
            clear hT7 hG7 hv7' hbd HT HR HS HO HX SS bel hzr
            go_wp2_with fail
            refine (i_FromBits (m := v7) hv7).mono ?_
            rintro e w8 ⟨rfl, rfl⟩
            have e3 : w7.cell? ⟨w3.heap.size, 3, none⟩ = some (.slice SA m sc) := HS7.out.cell 3
            have f3 : w7.frozen? ⟨w3.heap.size, 3, none⟩ = false := HS7.out.frozen 3
            have e3' : (w7.alloc (.cells #[.float .f32 v7] 63)).cell? ⟨w3.heap.size, 3, none⟩ = some (.slice SA m sc) := (HS7.out.alloc _).cell 3
            go_wp2_with (at_builtin; refine wpList_append1 rfl (.tmp 51) (.tmp 53) 31 rfl w6.heap.size 63 (.float .f32 0) _ 4 info_f32 Try.underlying31 rfl rfl _ _ _ rfl HX7.out rfl rfl (by omega) (by omega) hz7 ?_)
            intro v9 w9 ho9 hb9
            obtain ⟨SA9, sc9, rfl⟩ := own_shape ho9
            have s3 : w9.cell? ⟨w3.heap.size, 3, none⟩ = some (.slice SA m sc) := (hb9.cell (by show w3.heap.size < _; omega)).trans e3
            have sf3 : w9.frozen? ⟨w3.heap.size, 3, none⟩ = false := (hb9.frozen (by show w3.heap.size < _; omega)).trans f3
            have HT9 := hide ((Blk.below HT7.out hb9 (by omega)).far (p := ⟨w3.heap.size, 3, none⟩) (by show w.heap.size + 1 ≠ w3.heap.size; omega) (.slice SA9 (m + 1) sc9))
            have HR9 := hide ((Blk.below HR7.out hb9 (by omega)).far (p := ⟨w3.heap.size, 3, none⟩) (by show w.heap.size ≠ w3.heap.size; omega) (.slice SA9 (m + 1) sc9))
            have HS9 := hide ((Blk.below HS7.out hb9 (by omega)).set_ 3 (.slice SA9 (m + 1) sc9))
            have HO9 := hide (own_put (own_kept_lt HO7.out hb9 Hlt6.out) (p := ⟨w3.heap.size, 3, none⟩) (by show w3.heap.size < w3.heap.size + 1; omega) (.slice SA9 (m + 1) sc9))
            have HX9 := hide (own_put (own_fl ho9) (p := ⟨w3.heap.size, 3, none⟩) (by show w3.heap.size < w6.heap.size; omega) (.slice SA9 (m + 1) sc9))
            have bel9 := (bel7.trans (hb9.mono (by omega))).setCell (p := ⟨w3.heap.size, 3, none⟩) (by show w.heap.size ≤ w3.heap.size; omega) (.slice SA9 (m + 1) sc9)
            have hz9 : w6.heap.size ≤ (w9.setCell ⟨w3.heap.size, 3, none⟩ (.slice SA9 (m + 1) sc9)).heap.size := by have := hb9.size; simp [World.setCell]; omega
            have S9 : Hid (St l l.length (8 + dC l + 2 * k + 4 * (m + 1)) a7 sh7) := hide (by rw [show 8 + dC l + 2 * k + 4 * (m + 1) = 8 + dC l + 2 * k + 4 * m + 4 by omega]; exact S7.out)
            have HZ9 : Hid (sh7 = false → sh6 = false ∧ zs ++ [v7] = dXs l (m + 1)) := hide (fun e => by
              obtain ⟨h1, h2⟩ := V7.out e
              obtain ⟨h3, h4⟩ := HZ.out h1
              have h5 := (hsM h3).2.2.2
              exact ⟨h3, by rw [dXs_succ, h4, h2]; unfold dO; rw [h5, show 8 + dC l + 2 * dK l + 4 * m = 7 + dC l + 2 * dK l + 1 + 4 * m by omega]⟩)
            have HY9 : Hid (∀ z ∈ zs ++ [v7], z < 4294967296) := hide (fun z hz => by
              rcases List.mem_append.1 hz with h | h
              · exact HY.out z h
              · rw [List.mem_singleton] at h; subst h; exact hv7)
            clear e3 f3 e3' ho9 hb9 HT7 HR7 HS7 HO7 HX7 bel7 hz7 S7 V7 HZ HY
            go_wp2
            go_roundw
            case rel => exact ⟨m + 1, a7, sh7, SA9, sc9, zs ++ [v7], by omega, by go_num, HT9, HR9, HS9, HO9, HX9, S9, HZ9, HY9, bel9, hz9⟩
            case measure => (simp [intOf]; try omega)
          · obtain rfl : m = v6 := by omega
            have mI : ¬ (m : Int) < (m : Int) := by omega
            have hbd : shr = false → 8 + dC l + 2 * k + 4 * m + 2 ≤ dE l := fun e => by
              obtain ⟨_, _, h3, h4⟩ := hsM (HZ.out e).1
              omega
            go_wp2_with fail
            refine (take_step (n := 2) (m := 2) HL hs HT.out SS (by omega) (fun _ => rfl) hbd).mono ?_
            rintro e w8 ⟨S2', a8, sh8, rfl, hT8, hG8, _, S8, V8⟩
            have hnmS : nm.size ≤ 1048576 := by rw [hnm]; omega
            have HFin : Hid (sh8 = false → dE l ≤ l.length ∧ a8 = dE l ∧ (nm, (v4 : Int), ps, zs) = dQ l) := hide (fun e => by
              obtain ⟨h1, h2⟩ := S8.out
              have hs7 := (V8.out e).1
              obtain ⟨h3, h4⟩ := HZ.out hs7
              obtain ⟨h5, h6, h7, h8⟩ := hsM h3
              obtain ⟨h9, _⟩ := V5.out h5
              obtain ⟨h10, h11⟩ := V4.out h9
              obtain ⟨_, h12⟩ := V3.out h10
              have h13 : a8 = 8 + dC l + 2 * k + 4 * m + 2 := by
                rcases h2 with ⟨_, h⟩ | ⟨h, _⟩
                · exact h
                · rw [e] at h; cases h
              refine ⟨by omega, by omega, ?_⟩
              have h14 : nm = dN l := ba_ext' (by rw [h12]; rfl)
              have h15 : v4 = dP l := by rw [h11]; unfold dP; congr 1
              rw [h14, h15, h6, h4, h7, h8]; rfl)
            have HShort : Hid (sh8 = true → begB l = false) := hide (fun e => by
              rcases S8.out.2 with ⟨h, _⟩ | ⟨_, h⟩
              · rw [e] at h; cases h
              · exact begB_short h)
            have HOwn : Hid (SvOwn w8 (w3.heap.size + 1) ⟨nm, (v4 : Int), PA, k, pc, ps, SA, m, sc, zs⟩) := hide ⟨own_kept_T HO.out hG8 (by omega), own_up (own_kept_T HX.out hG8 (by omega)) (by omega), fun a ha => HY.out a ha, fun a ha => wf_small (HB.out a ha).1 (HB.out a ha).2, wf_small (a := (v4 : Int)) (by omega) (by omega)⟩
            have HLe : Hid (SvLe 1048576 ⟨nm, (v4 : Int), PA, k, pc, ps, SA, m, sc, zs⟩) := hide ⟨hnmS, by show k ≤ 1048576; omega, by show m ≤ 1048576; omega⟩
            have HT8 := hide hT8
            have HR8 := hide (Blk.grown HR.out hG8 (fun e => by injection e with e; omega))
            have HS8 := hide (Blk.grown HS.out hG8 (fun e => by injection e with e; omega))
            have bel8 := bel.trans (below_of_grownBy hG8 (by omega) bel.size)
            have hz8 : w3.heap.size + 1 ≤ w8.heap.size := Nat.le_trans hz6 (Nat.le_trans hzr hG8.size)
            have ha8 : a8 ≤ s.size := by have := S8.out.1; omega
            clear hT8 hG8 hbd HT HR HS HO HX SS bel hzr HZ HY HB S8 V8 V5 V4 V3 V2 V1 S1 S2 S3 S4' S5 HP hsM Hlt6
            have t2 : w8.cell? ⟨w.heap.size + 1, 2, none⟩ = some (.bool sh8) := HT8.out.cell 2
            cases hsh : sh8 with
            | true =>
              subst hsh
              have HN := hide (HShort.out rfl)
              have HR := HR8
              have bel := bel8
              have r0 : w8.cell? ⟨w.heap.size, 0, none⟩ = some (.string .empty) := HR.out.cell 0
              have r1 : w8.cell? ⟨w.heap.size, 1, none⟩ = some (.int .i64 0) := HR.out.cell 1
              have r2 : w8.cell? ⟨w.heap.size, 2, none⟩ = some (.slice none 0 0) := HR.out.cell 2
              have r3 : w8.cell? ⟨w.heap.size, 3, none⟩ = some (.slice none 0 0) := HR.out.cell 3
              have t0 : w8.frozen? ⟨w.heap.size, 0, none⟩ = false := HR.out.frozen 0
              have t1 : w8.frozen? ⟨w.heap.size, 1, none⟩ = false := HR.out.frozen 1
              have t2 : w8.frozen? ⟨w.heap.size, 2, none⟩ = false := HR.out.frozen 2
              have t3 : w8.frozen? ⟨w.heap.size, 3, none⟩ = false := HR.out.frozen 3
              go_wp2
              refine bodyPost_ret (results_row_tmpS (P := Try.prog) rfl _ _ w.heap.size 38 #[.string .empty, .int .i64 0, .slice none 0 0, .slice none 0 0] (0, 0) _ rfl ((((HR.out.set_ 0 _).set_ 1 _).set_ 2 _).set_ 3 _) Try.underlying38 rfl (by kernel_rfl)) rfl ?_
              exact ⟨sv0, 0, rfl, (((bel.setCell (Nat.le_refl _) _).setCell (Nat.le_refl _) _).setCell (Nat.le_refl _) _).setCell (Nat.le_refl _) _, .inl ⟨HN.out, rfl, rfl⟩⟩
            | false =>
              subst hsh
              obtain ⟨hd1, hd2, hd3⟩ := HFin.out rfl
              have Hd1 := hide hd1
              have Hd2 := hide hd2
              have Hd3 := hide hd3
              clear hd1 hd2 hd3 HFin HShort
              have x0 : w8.cell? ⟨w3.heap.size, 0, none⟩ = some (.string nm) := HS8.out.cell 0
              have x1 : w8.cell? ⟨w3.heap.size, 1, none⟩ = some (.int .i64 (v4 : Int)) := HS8.out.cell 1
              have x2 : w8.cell? ⟨w3.heap.size, 2, none⟩ = some (.slice PA k pc) := HS8.out.cell 2
              have x3 : w8.cell? ⟨w3.heap.size, 3, none⟩ = some (.slice SA m sc) := HS8.out.cell 3
              have Hb : Hid (begB l = (svB ⟨nm, (v4 : Int), PA, k, pc, ps, SA, m, sc, zs⟩ && decide (stored nm (v4 : Int) ps zs = s.extract 0 a8))) := hide (by
                rw [begB_end Hd1.out, ← Hd3.out]
                have h1 : (⟨(l.take (dE l)).toArray⟩ : ByteArray) = s.extract 0 a8 := ba_ext' (by
                  have h := extract_list s 0 a8
                  rw [Nat.zero_add] at h
                  rw [h, HL.out, List.drop_zero, Hd2.out])
                rw [h1]; rfl)
              go_wp2_with fail
              cases hq : svB ⟨nm, (v4 : Int), PA, k, pc, ps, SA, m, sc, zs⟩ with
              | false =>
                refine (ss_no HOwn.out.ok (Nat.le_refl _) HLe.out hq).mono ?_
                rintro e w9 ⟨rfl, hb9⟩
                have HN : Hid (begB l = false) := hide (by rw [Hb.out, hq]; rfl)
                have HR := hide (HR8.out.below hb9 (by omega))
                have bel := bel8.trans (hb9.mono (by omega))
                clear hb9 HR8 bel8 HT8 HS8 x0 x1 x2 x3 t2 hq Hb HOwn HLe
                have r0 : w9.cell? ⟨w.heap.size, 0, none⟩ = some (.string .empty) := HR.out.cell 0
                have r1 : w9.cell? ⟨w.heap.size, 1, none⟩ = some (.int .i64 0) := HR.out.cell 1
                have r2 : w9.cell? ⟨w.heap.size, 2, none⟩ = some (.slice none 0 0) := HR.out.cell 2
                have r3 : w9.cell? ⟨w.heap.size, 3, none⟩ = some (.slice none 0 0) := HR.out.cell 3
                have t0 : w9.frozen? ⟨w.heap.size, 0, none⟩ = false := HR.out.frozen 0
                have t1 : w9.frozen? ⟨w.heap.size, 1, none⟩ = false := HR.out.frozen 1
                have t2 : w9.frozen? ⟨w.heap.size, 2, none⟩ = false := HR.out.frozen 2
                have t3 : w9.frozen? ⟨w.heap.size, 3, none⟩ = false := HR.out.frozen 3
                go_wp2
                refine bodyPost_ret (results_row_tmpS (P := Try.prog) rfl _ _ w.heap.size 38 #[.string .empty, .int .i64 0, .slice none 0 0, .slice none 0 0] (0, 0) _ rfl ((((HR.out.set_ 0 _).set_ 1 _).set_ 2 _).set_ 3 _) Try.underlying38 rfl (by kernel_rfl)) rfl ?_
                exact ⟨sv0, 0, rfl, (((bel.setCell (Nat.le_refl _) _).setCell (Nat.le_refl _) _).setCell (Nat.le_refl _) _).setCell (Nat.le_refl _) _, .inl ⟨HN.out, rfl, rfl⟩⟩
              | true =>
                obtain ⟨M, hM⟩ : ∃ M, stored nm (v4 : Int) ps zs = M := ⟨_, rfl⟩
                refine (ss_yes (M := M) HOwn.out.ok (Nat.le_refl _) HLe.out hq hM).mono ?_
                rintro e w9 ⟨rfl, hb9⟩
                have T9 := hide (HT8.out.below hb9 (by omega))
                have R9 := hide (HR8.out.below hb9 (by omega))
                have S9 := hide (HS8.out.below hb9 (by omega))
                have O9 := hide (HOwn.out.below hb9)
                have bel9 := bel8.trans (hb9.mono (by omega))
                have Hb9 : Hid (begB l = decide (M = s.extract 0 a8)) := hide (by rw [Hb.out, hq, hM, Bool.true_and])
                clear hb9 HR8 bel8 HT8 HS8 x0 x1 x2 x3 t2 hq Hb HOwn hM
                have t1 : w9.cell? ⟨w.heap.size + 1, 1, none⟩ = some (.int .i64 (a8 : Int)) := T9.out.cell 1
                have g1 : (0 : Int) ≤ (a8 : Int) := by omega
                have g3 : (a8 : Int) ≤ (s.size : Int) := by omega
                rcases Classical.em (M = s.extract 0 a8) with hX | hX
                · have hk1 : (!M.toList == (s.extract 0 a8).toList) = false := by rw [strNe, decide_eq_true hX]; rfl
                  have HY : Hid (begB l = true) := hide (by rw [Hb9.out, decide_eq_true hX])
                  clear hX Hb9
                  have x0 : w9.cell? ⟨w3.heap.size, 0, none⟩ = some (.string nm) := S9.out.cell 0
                  have x1 : w9.cell? ⟨w3.heap.size, 1, none⟩ = some (.int .i64 (v4 : Int)) := S9.out.cell 1
                  have x2 : w9.cell? ⟨w3.heap.size, 2, none⟩ = some (.slice PA k pc) := S9.out.cell 2
                  have x3 : w9.cell? ⟨w3.heap.size, 3, none⟩ = some (.slice SA m sc) := S9.out.cell 3
                  have HR := R9
                  have r0 : w9.cell? ⟨w.heap.size, 0, none⟩ = some (.string .empty) := HR.out.cell 0
                  have r1 : w9.cell? ⟨w.heap.size, 1, none⟩ = some (.int .i64 0) := HR.out.cell 1
                  have r2 : w9.cell? ⟨w.heap.size, 2, none⟩ = some (.slice none 0 0) := HR.out.cell 2
                  have r3 : w9.cell? ⟨w.heap.size, 3, none⟩ = some (.slice none 0 0) := HR.out.cell 3
                  have t0 : w9.frozen? ⟨w.heap.size, 0, none⟩ = false := HR.out.frozen 0
                  have t1 : w9.frozen? ⟨w.heap.size, 1, none⟩ = false := HR.out.frozen 1
                  have t2 : w9.frozen? ⟨w.heap.size, 2, none⟩ = false := HR.out.frozen 2
                  have t3 : w9.frozen? ⟨w.heap.size, 3, none⟩ = false := HR.out.frozen 3
                  clear HR
                  go_wp2
                  have HB9 := hide ((((bel9.setCell (p := ⟨w.heap.size, 0, none⟩) (Nat.le_refl _) (.string nm)).setCell (p := ⟨w.heap.size, 1, none⟩) (Nat.le_refl _) (.int .i64 (v4 : Int))).setCell (p := ⟨w.heap.size, 2, none⟩) (Nat.le_refl _) (.slice PA k pc)).setCell (p := ⟨w.heap.size, 3, none⟩) (Nat.le_refl _) (.slice SA m sc))
                  have hw3 : w.heap.size < w3.heap.size + 1 := by omega
                  have HP9 := hide (((((O9.out.put (p := ⟨w.heap.size, 0, none⟩) hw3 (.string nm)).put (p := ⟨w.heap.size, 1, none⟩) hw3 (.int .i64 (v4 : Int))).put (p := ⟨w.heap.size, 2, none⟩) hw3 (.slice PA k pc)).put (p := ⟨w.heap.size, 3, none⟩) hw3 (.slice SA m sc)).up (b' := w.heap.size) (by omega))
                  go_region
                  all_goals go_wp2
                  all_goals refine bodyPost_ret (results_row_tmpS (P := Try.prog) rfl _ _ w.heap.size 38 #[.string nm, .int .i64 (v4 : Int), .slice PA k pc, .slice SA m sc] (0, 0) _ rfl ((((R9.out.set_ 0 _).set_ 1 _).set_ 2 _).set_ 3 _) Try.underlying38 rfl (by kernel_rfl)) rfl ?_
                  all_goals exact ⟨⟨nm, (v4 : Int), PA, k, pc, ps, SA, m, sc, zs⟩, a8, rfl, by first | exact HB9.out | exact HB9.out.drew, .inr ⟨HY.out, Hd2.out, Hd3.out, by first | exact HP9.out | exact HP9.out.drew, HLe.out⟩⟩
                · have hk1 : (!M.toList == (s.extract 0 a8).toList) = true := by rw [strNe, decide_eq_false hX]; rfl
                  have HN : Hid (begB l = false) := hide (by rw [Hb9.out, decide_eq_false hX])
                  clear hX Hb9
                  have HR := R9
                  have bel := bel9
                  clear R9 bel9
                  have r0 : w9.cell? ⟨w.heap.size, 0, none⟩ = some (.string .empty) := HR.out.cell 0
                  have r1 : w9.cell? ⟨w.heap.size, 1, none⟩ = some (.int .i64 0) := HR.out.cell 1
                  have r2 : w9.cell? ⟨w.heap.size, 2, none⟩ = some (.slice none 0 0) := HR.out.cell 2
                  have r3 : w9.cell? ⟨w.heap.size, 3, none⟩ = some (.slice none 0 0) := HR.out.cell 3
                  have t0 : w9.frozen? ⟨w.heap.size, 0, none⟩ = false := HR.out.frozen 0
                  have t1 : w9.frozen? ⟨w.heap.size, 1, none⟩ = false := HR.out.frozen 1
                  have t2 : w9.frozen? ⟨w.heap.size, 2, none⟩ = false := HR.out.frozen 2
                  have t3 : w9.frozen? ⟨w.heap.size, 3, none⟩ = false := HR.out.frozen 3
                  go_wp2
                  refine bodyPost_ret (results_row_tmpS (P := Try.prog) rfl _ _ w.heap.size 38 #[.string .empty, .int .i64 0, .slice none 0 0, .slice none 0 0] (0, 0) _ rfl ((((HR.out.set_ 0 _).set_ 1 _).set_ 2 _).set_ 3 _) Try.underlying38 rfl (by kernel_rfl)) rfl ?_
                  exact ⟨sv0, 0, rfl, (((bel.setCell (Nat.le_refl _) _).setCell (Nat.le_refl _) _).setCell (Nat.le_refl _) _).setCell (Nat.le_refl _) _, .inl ⟨HN.out, rfl, rfl⟩⟩
  · have HN : Hid (begB l = false) := hide (by
      cases hh : sh1 with
      | true =>
        rcases S1.out.2 with ⟨e, _⟩ | ⟨_, e⟩
        · rw [hh] at e; cases e
        · exact begB_short e
      | false =>
        have h2 := (V1.out hh).2
        rw [List.drop_zero] at h2
        exact begB_mark (fun e => hX (ba_ext' (by rw [h2, e]))))
    have hk1 : (!S4.toList == [76, 73, 86, 49]) = true := by rw [← hlit, strNe, decide_eq_false hX]; rfl
    clear hX hlit
    have r0 : w1.cell? ⟨w.heap.size, 0, none⟩ = some (.string .empty) := HR.out.cell 0
    have r1 : w1.cell? ⟨w.heap.size, 1, none⟩ = some (.int .i64 0) := HR.out.cell 1
    have r2 : w1.cell? ⟨w.heap.size, 2, none⟩ = some (.slice none 0 0) := HR.out.cell 2
    have r3 : w1.cell? ⟨w.heap.size, 3, none⟩ = some (.slice none 0 0) := HR.out.cell 3
    have t0 : w1.frozen? ⟨w.heap.size, 0, none⟩ = false := HR.out.frozen 0
    have t1 : w1.frozen? ⟨w.heap.size, 1, none⟩ = false := HR.out.frozen 1
    have t2 : w1.frozen? ⟨w.heap.size, 2, none⟩ = false := HR.out.frozen 2
    have t3 : w1.frozen? ⟨w.heap.size, 3, none⟩ = false := HR.out.frozen 3
    go_wp2
    refine bodyPost_ret (results_row_tmpS (P := Try.prog) rfl _ _ w.heap.size 38 #[.string .empty, .int .i64 0, .slice none 0 0, .slice none 0 0] (0, 0) _ rfl ((((HR.out.set_ 0 _).set_ 1 _).set_ 2 _).set_ 3 _) Try.underlying38 rfl (by kernel_rfl)) rfl ?_
    exact ⟨sv0, 0, rfl, (((bel.setCell (Nat.le_refl _) _).setCell (Nat.le_refl _) _).setCell (Nat.le_refl _) _).setCell (Nat.le_refl _) _, .inl ⟨HN.out, rfl, rfl⟩⟩
end Go.Proofs.Ytjfmjeffmnjilaa
