/-
  The law FnStoredOfAll returns true for all arguments, and writes nothing that was there.
-/
import Derived.Test.YtjfmjeffmnjilaaStoP
namespace Go.Proofs.Ytjfmjeffmnjilaa
open Go.RowKit Fl Mem
set_option linter.unusedVariables false
set_option maxRecDepth 100000

theorem row_size (s : ByteArray) (cap j : Nat) (hj : j < s.size) : (bytesRow s cap)[j]? = some (.int .u8 ((s[j]'hj).toNat : Int)) := by
  unfold bytesRow
  rw [Array.getElem?_append_left (by rw [Array.size_map]; exact hj), Array.getElem?_map]
  have : s.data[j]? = some (s[j]'hj) := Array.getElem?_eq_getElem hj
  rw [this]; rfl
theorem bytes_laid (w : World) (s : ByteArray) : ∃ (cap : Nat) (w' : World), (convert 9 51 (.string s)).run Try.prog w = .ok (.slice (some ⟨w.heap.size, 0, none⟩) s.size cap) w' ∧ Below w.heap.size w w' ∧ w'.heap.size = w.heap.size + 1 ∧ s.size ≤ cap ∧
    (∀ j (hj : j < s.size), w'.cell? ⟨w.heap.size, j, none⟩ = some (.int .u8 ((s[j]'hj).toNat : Int))) ∧ ∀ j, j < s.size → w'.frozen? ⟨w.heap.size, j, none⟩ = false := by
  refine ⟨_, _, run_bytes_of_string w 9 51 5 s Try.underlying9 Try.underlying51 Try.underlying5, (Below.refl _ _).drew.alloc (Nat.le_refl _) _, by simp [World.alloc], ?_, fun j hj => ?_, fun j hj => ?_⟩
  · exact grownCap_ge w s.size 0 _
  · exact (World.cell?_alloc_mark w.drew _ _ _ j).trans (row_size s _ j hj)
  · have hb : (w.drew.alloc (.cells (bytesRow s (grownCap w s.size 0 5)) 5 ((bytesRow s (grownCap w s.size 0 5)).size, (bytesRow s (grownCap w s.size 0 5)).size + 1))).heap[w.heap.size]? = some (.cells (bytesRow s (grownCap w s.size 0 5)) 5 ((bytesRow s (grownCap w s.size 0 5)).size, (bytesRow s (grownCap w s.size 0 5)).size + 1)) := heap_alloc_new w.drew _
    have hs : s.size ≤ (bytesRow s (grownCap w s.size 0 5)).size := by
      unfold bytesRow
      rw [Array.size_append, Array.size_map]
      exact Nat.le_add_right _ _
    unfold World.frozen?
    simp only [hb]
    rw [decide_eq_false (show ¬ (bytesRow s (grownCap w s.size 0 5)).size ≤ j by omega)]
    rfl
theorem wrapU8 (n : Nat) (h : n < 256) : IntKind.u8.wrap (n : Int) = (n : Int) := by
  have : IntKind.u8.wrap (n : Int) = (n : Int) % 256 := by
    unfold IntKind.wrap
    first | rfl | (simp [IntKind.bits, IntKind.signed]; done) | skip
  omega
theorem bits_u8 (x y : Int) : ∃ nb : UInt8, bits .xor .u8 x y = (nb.toNat : Int) := by
  unfold bits
  dsimp only
  generalize hv : (BitVec.ofInt IntKind.u8.bits x ^^^ BitVec.ofInt IntKind.u8.bits y) = v
  have h := v.isLt
  have h8 : 2 ^ IntKind.u8.bits = 256 := by decide
  rw [h8] at h
  refine ⟨UInt8.ofNat v.toNat, ?_⟩
  have e : (UInt8.ofNat v.toNat).toNat = v.toNat := by simp [UInt8.toNat_ofNat']; omega
  rw [e]
  exact wrapU8 _ h
theorem bent_conv {w : World} {g cap cn o : Nat} {T : ByteArray} {nb : UInt8} (ho : o ≤ T.size) (hc : ∀ j (hj : j < T.size), j ≠ cn → w.cell? ⟨g, j, none⟩ = some (.int .u8 ((T[j]'hj).toNat : Int))) (hn : cn < T.size → w.cell? ⟨g, cn, none⟩ = some (.int .u8 (nb.toNat : Int))) :
    (convert 51 9 (.slice (some ⟨g, 0, none⟩) o cap)).run Try.prog w = .ok (.string ⟨((T.data.toList.set cn nb).take o).toArray⟩) w := by
  have hl : ((T.data.toList.set cn nb).take o).length = o := by
    rw [List.length_take, List.length_set, Array.length_toList]
    exact Nat.min_eq_left ho
  have h := run_convert_bytes_back (P := Try.prog) w 51 9 5 ⟨g, 0, none⟩ cap ((T.data.toList.set cn nb).take o) Try.underlying51 Try.underlying5 Try.underlying9 (fun j hj => by
    have hjo : j < o := by rw [hl] at hj; exact hj
    have hjT : j < T.size := by omega
    rw [Addr.add_lit, Nat.zero_add, List.getElem_take, List.getElem_set]
    by_cases hjc : cn = j
    · subst hjc
      rw [if_pos rfl]; exact hn hjT
    · rw [if_neg hjc]
      exact hc j hjT (fun e => hjc e.symm))
  rwa [hl] at h
theorem svR_own {w : World} {b base n : Nat} {A : Option Addr} {c : Nat} {ss : List Sv} (ho : w.ownsRow b 38 4 (.slice A n c) n (svC ss)) (hs : SvsOwn w base ss) : SvR w w.heap.size A n ss := ⟨Reads.of_own ho, fun s h => (hs.each s h).ok⟩
theorem info_int : (Try.prog.info? 3).map (fun i => (i.zero, i.size, i.bytes)) = some (some (.int .i64 0), 1, 8) := by kernel_rfl
theorem own_litI {w : World} {base : Nat} {e : TypeId} {u : Value} (hb : base ≤ w.heap.size) : (w.alloc (.cells #[u] e)).ownsRow base e 1 (.slice (some ⟨w.heap.size, 0, none⟩) 1 1) 1 [u] :=
  ⟨rfl, .inr ⟨w.heap.size, 1, #[u], rfl, hb, heap_alloc_new w _, by omega, by simp [maxLen], rfl, rfl⟩⟩
theorem own_cellI {w : World} {base : Nat} {e : TypeId} {g n c : Nat} {xs : List Value} (h : w.ownsRow base e 1 (.slice (some ⟨g, 0, none⟩) n c) n xs) {i : Nat} {u : Value} (hu : xs[i]? = some u) : w.cell? ⟨g, i, none⟩ = some u := by
  have := h.cells (g := g) rfl i u hu
  simpa [Addr.add_lit] using this
theorem il_ends {ss : List Sv} {k i : Nat} (h : i ≤ k) : (il (endsL ss k))[i]? = some (.int .i64 ((endN ss i : Nat) : Int)) := by
  unfold il
  rw [List.getElem?_map, endsL_at ss h]; rfl
set_option maxHeartbeats 8000000 in
theorem law_StoredOfAll (A : Option Addr) (n c : Nat) (ss : List Sv) (cut bit : Int) (w : World) (h : SvR w w.heap.size A n ss) (hn : n ≤ 9223372036854775807) (hl : ∀ s ∈ ss, SvBig s) (hcw : (Lit.int .i64 cut).wf = true) (hbw : (Lit.int .u8 bit).wf = true) :
    Calls Try.prog 7 #[.slice A n c, .int .i64 cut, .int .u8 bit] w fun e w' => e = .returned (.bool true) ∧ Below w.heap.size w w' := by
  by_cases hx : 1000 < n
  · have hy : 1000 < (n : Int) := by omega
    go_enter Try.func7, Try.ntmps7
    go_wp2
    go_ret
    exact ⟨rfl, Below.refl _ _⟩
  have hy : ¬ 1000 < (n : Int) := by omega
  have hn1 : n ≤ 1000 := by omega
  have H := hide h
  have HL := hide hl
  have Hn := hide h.len
  have HW : Hid (WfA ss) := hide (fun s hs => (h.each s hs).wf)
  have HO0 := hide (own_litI (w := w) (base := w.heap.size) (e := 3) (u := .int .i64 0) (Nat.le_refl _))
  have bel0 : Below w.heap.size w (w.alloc (.cells #[.int .i64 0] 3)) := (Below.refl _ _).alloc (Nat.le_refl _) _
  clear h hl hx hn
  go_enter Try.func7, Try.ntmps7
  go_wp2
  go_loopw [7, 8, 9, 10, 11, 12, 13, 14, 15, 16] (fun v7 v8 _ _ _ _ _ _ _ _ wr => ∃ k : Nat, k ≤ n ∧ v8 = .int .i64 (k : Int) ∧ Hid (wr.ownsRow w.heap.size 3 1 v7 (k + 1) (il (endsL ss k))) ∧ Hid ((ss.take k).all svB = true) ∧ Below w.heap.size w wr) (fun _ v8 _ _ _ _ _ _ _ _ _ => n - (intOf v8).toNat)
  case atStart => exact ⟨0, Nat.zero_le _, rfl, HO0, hide rfl, bel0⟩
  case round =>
    clear HO0 bel0
    obtain ⟨k, hk, rfl, HO, HV, bel⟩ := hrel
    have hzr : w.heap.size ≤ wr.heap.size := bel.size
    by_cases hlt : k < n
    · -- [L1
      obtain ⟨ad, s, rfl, hab, hx, o1, c0, c1, c2, c3⟩ := (H.out.below bel).at hlt
      have Hx := hide hx
      have hbig := HL.out s (List.mem_of_getElem? hx)
      have hS : SvLe 9223372036854775807 s := ⟨hbig.1, hbig.2.1, hbig.2.2⟩
      have hW1 := HW.out s (List.mem_of_getElem? hx)
      have kI0 : (0 : Int) ≤ k := by omega
      have kI : (k : Int) < n := by omega
      have hbl : (ad.add (k * 4)).block < wr.heap.size := by rw [block_of_add]; omega
      have O1 := hide o1
      have W1 := hide hW1
      have S1 := hide hS
      clear hx hbig hS o1 hW1
      cases hv : svB s with
      | false =>
        go_wp2_with fail
        refine (i_StoreSavedG (B := w.heap.size) (s := s) O1.out hzr S1.out).mono ?_
        rintro e w1 ⟨rfl, hb1⟩
        rw [hv]
        have d0 : w1.cell? (ad.add (k * 4)) = some (.string s.nm) := (hb1.cell hbl).trans c0
        have d1 : w1.cell? ⟨(ad.add (k * 4)).block, (ad.add (k * 4)).off + 1, none⟩ = some (.int .i64 s.parts) := (hb1.cell (by exact hbl)).trans c1
        have d2 : w1.cell? ⟨(ad.add (k * 4)).block, (ad.add (k * 4)).off + 2, none⟩ = some (.slice s.PA s.pn s.pc) := (hb1.cell (by exact hbl)).trans c2
        have d3 : w1.cell? ⟨(ad.add (k * 4)).block, (ad.add (k * 4)).off + 3, none⟩ = some (.slice s.SA s.sn s.sc) := (hb1.cell (by exact hbl)).trans c3
        have O2 := hide (O1.out.below (hb1.mono hzr))
        have bel1 := bel.trans (hb1.mono hzr)
        clear hb1 c0 c1 c2 c3 bel
        go_wp2_with fail
        refine (s_StoreSavedG (B := w.heap.size) (s := s) O2.out bel1.size S1.out).mono ?_
        rintro e w2 ⟨rfl, hb2⟩
        rw [hv]
        have bel2 := bel1.trans (hb2.mono bel1.size)
        clear hb2 bel1 d0 d1 d2 d3
        go_wp2
        go_ret
        exact ⟨rfl, bel2⟩
      | true =>
        have hsz := stB_size hv
        obtain ⟨T, hT⟩ : ∃ T, stored s.nm s.parts s.ps s.xs = T := ⟨_, rfl⟩
        have HT : Hid (stB s = T) := hide hT
        have hsz1 : T.size ≤ 530 := by rw [← hT]; exact hsz
        have hld := ld_one hv W1.out
        rw [HT.out] at hld
        have HLd := hide hld
        have HE : Hid (endN ss (k + 1) = endN ss k + T.size) := hide (by rw [endN_succ Hx.out, HT.out])
        have Hle : Hid (endN ss k ≤ 530 * k) := hide (by have := endN_le HV.out k; unfold endN at this ⊢; rwa [List.take_take, Nat.min_self] at this)
        have HVn : Hid ((ss.take (k + 1)).all svB = true) := hide (by rw [take_eq Hx.out, List.all_append, HV.out]; simp [hv])
        clear hsz hld
        go_wp2_with fail
        refine (i_StoreSavedG (B := w.heap.size) (s := s) O1.out hzr S1.out).mono ?_
        rintro e w1 ⟨rfl, hb1⟩
        rw [hv, if_pos rfl, hT]
        have d0 : w1.cell? (ad.add (k * 4)) = some (.string s.nm) := (hb1.cell hbl).trans c0
        have d1 : w1.cell? ⟨(ad.add (k * 4)).block, (ad.add (k * 4)).off + 1, none⟩ = some (.int .i64 s.parts) := (hb1.cell (by exact hbl)).trans c1
        have d2 : w1.cell? ⟨(ad.add (k * 4)).block, (ad.add (k * 4)).off + 2, none⟩ = some (.slice s.PA s.pn s.pc) := (hb1.cell (by exact hbl)).trans c2
        have d3 : w1.cell? ⟨(ad.add (k * 4)).block, (ad.add (k * 4)).off + 3, none⟩ = some (.slice s.SA s.sn s.sc) := (hb1.cell (by exact hbl)).trans c3
        have O2 := hide (O1.out.below (hb1.mono hzr))
        have R1 := hide (own_below HO.out hb1)
        have bel1 := bel.trans (hb1.mono hzr)
        clear hb1 c0 c1 c2 c3 bel HO
        go_wp2_with fail
        refine (s_StoreSavedG (B := w.heap.size) (s := s) O2.out bel1.size S1.out).mono ?_
        rintro e w2 ⟨rfl, hb2⟩
        rw [hv, if_pos rfl, hT]
        have R2 := hide (own_below R1.out hb2)
        have bel2 := bel1.trans (hb2.mono bel1.size)
        have hne : (!T.toList == T.toList) = false := by simp
        clear hb2 bel1 d0 d1 d2 d3 R1 hT
        go_wp2_with fail
        refine (i_LoadSaved_told (s := T) (by omega)).mono ?_
        rintro e w3 ⟨q, rfl, hb3, ht3, ho3, hl3⟩
        rw [HLd.out.1]
        rw [HLd.out.2] at ht3
        obtain ⟨t1, t2⟩ := told_one ht3
        rw [hv] at t1
        rw [HT.out] at t2
        have R3 := hide (World.ownsRow.alloc (own_below R2.out hb3) (.cells #[.string q.nm, .int .i64 q.parts, .slice q.PA q.pn q.pc, .slice q.SA q.sn q.sc] 38))
        have bel3 := (bel2.trans (hb3.mono bel2.size)).alloc (by have := bel2.size; have := hb3.size; omega) (.cells #[.string q.nm, .int .i64 q.parts, .slice q.PA q.pn q.pc, .slice q.SA q.sn q.sc] 38)
        have Q3 := hide (ho3.alloc (.cells #[.string q.nm, .int .i64 q.parts, .slice q.PA q.pn q.pc, .slice q.SA q.sn q.sc] 38)).ok
        have L3 := hide hl3
        have X3 := Blk.new w3 38 #[.string q.nm, .int .i64 q.parts, .slice q.PA q.pn q.pc, .slice q.SA q.sn q.sc]
        have x0 : (w3.alloc (.cells #[.string q.nm, .int .i64 q.parts, .slice q.PA q.pn q.pc, .slice q.SA q.sn q.sc] 38)).cell? ⟨w3.heap.size, 0, none⟩ = some (.string q.nm) := X3.cell 0
        have x1 : (w3.alloc (.cells #[.string q.nm, .int .i64 q.parts, .slice q.PA q.pn q.pc, .slice q.SA q.sn q.sc] 38)).cell? ⟨w3.heap.size, 1, none⟩ = some (.int .i64 q.parts) := X3.cell 1
        have x2 : (w3.alloc (.cells #[.string q.nm, .int .i64 q.parts, .slice q.PA q.pn q.pc, .slice q.SA q.sn q.sc] 38)).cell? ⟨w3.heap.size, 2, none⟩ = some (.slice q.PA q.pn q.pc) := X3.cell 2
        have x3 : (w3.alloc (.cells #[.string q.nm, .int .i64 q.parts, .slice q.PA q.pn q.pc, .slice q.SA q.sn q.sc] 38)).cell? ⟨w3.heap.size, 3, none⟩ = some (.slice q.SA q.sn q.sc) := X3.cell 3
        have T1 := hide t1
        have T2 := hide t2
        clear hb3 ht3 ho3 hl3 bel2 R2 X3 t1 t2
        go_wp2_with fail
        refine (i_StoreSaved (s := q) Q3.out (Nat.le_refl _) L3.out).mono ?_
        rintro e w4 ⟨rfl, hb4⟩
        rw [T1.out, if_pos rfl, T2.out]
        have R4 := hide (own_below R3.out hb4)
        have bel4 := bel3.trans (hb4.mono bel3.size)
        clear hb4 bel3 R3 x0 x1 x2 x3 Q3
        obtain ⟨g7, c7, rfl⟩ := own_addr R4.out (by omega)
        have e7 : w4.cell? ⟨g7, k, none⟩ = some (.int .i64 ((endN ss k : Nat) : Int)) := own_cellI R4.out (il_ends (Nat.le_refl _))
        obtain ⟨E, hE⟩ : ∃ E, endN ss k = E := ⟨_, rfl⟩
        rw [hE] at e7
        have hE2 : Hid (((endN ss (k + 1) : Nat) : Int) = (E : Int) + (T.size : Int)) := hide (by rw [HE.out, hE]; push_cast; rfl)
        have hEb : E ≤ 530 * 1000 := by have := Hle.out; omega
        have hzb : w.heap.size ≤ w4.heap.size := bel4.size
        clear hE
        go_wp2_with (at_builtin; refine wpList_append1 rfl (.tmp 95) (.tmp 105) 46 rfl w.heap.size 3 (.int .i64 0) _ 8 info_int Try.underlying46 rfl rfl _ _ _ rfl R4.out rfl rfl (by omega) (by omega) hzb ?_)
        intro v9 w9 ho9 hb9
        have HO9 : Hid (w9.ownsRow w.heap.size 3 1 v9 (k + 1 + 1) (il (endsL ss (k + 1)))) := hide (by
          rw [endsL_succ, hE2.out, show il (endsL ss k ++ [(E : Int) + (T.size : Int)]) = il (endsL ss k) ++ [.int .i64 ((E : Int) + (T.size : Int))] by simp [il]]
          exact ho9)
        have bel9 := bel4.trans (hb9.mono (Nat.le_refl _))
        clear ho9 hb9 R4 bel4 e7 hzb
        go_wp2
        go_roundw
        case rel => exact ⟨k + 1, by omega, by go_num, HO9, HVn, bel9⟩
        case measure => (simp [intOf]; omega)
      -- L1]
    · obtain rfl : k = n := by omega
      have kI : ¬ (k : Int) < (k : Int) := by omega
      -- [REST
      have hv : ss.all svB = true := by have := HV.out; rwa [List.take_of_length_le (by rw [Hn.out]; exact Nat.le_refl _)] at this
      have HVa := hide hv
      have HLs : Hid (∀ s ∈ ss, SvLe 1048576 s) := hide (fun s hs => svLe_of (H.out.each s hs) (List.all_eq_true.1 hv s hs))
      have hok : allOk ss k = decide (k ≤ 8) := by unfold allOk; rw [hv, Bool.and_true]
      obtain ⟨T, hT⟩ : ∃ T, allT ss k = T := ⟨_, rfl⟩
      have hne : (!T.toList == T.toList) = false := by simp
      clear hv HV
      go_wp2_with fail
      refine (i_StoreAll (H.out.below bel) hzr (by omega) HLs.out).mono ?_
      rintro e w1 ⟨rfl, hb1⟩
      rw [hok, hT]
      have R1 := hide (own_below HO.out hb1)
      have bel1 := bel.trans (hb1.mono hzr)
      clear hb1 bel HO
      go_wp2_with fail
      refine (s_StoreAll (H.out.below bel1) bel1.size (by omega) HLs.out).mono ?_
      rintro e w2 ⟨rfl, hb2⟩
      rw [hok, hT]
      have R2 := hide (own_below R1.out hb2)
      have bel2 := bel1.trans (hb2.mono bel1.size)
      clear hb2 bel1 R1
      by_cases h8 : k ≤ 8
      · rw [decide_eq_true h8] at hok ⊢
        have hTc : T = catS ss := by rw [← hT]; unfold allT; rw [if_pos hok]
        have HTc := hide hTc
        have hTs : T.size ≤ 530 * 8 := by rw [hTc]; have := catS_size HVa.out; rw [Hn.out] at this; omega
        have hra := rec_all HVa.out HW.out (by rw [Hn.out]; exact h8)
        rw [← hTc] at hra
        have HRa := hide hra
        obtain ⟨M, hM⟩ : ∃ M, T.size = M := ⟨_, rfl⟩
        have hMI : (T.size : Int) = (M : Int) := by rw [hM]
        have HM := hide hM
        have HEk : Hid (endN ss k = M) := hide (by rw [← Hn.out, endN_all, ← hTc, hM])
        have hM8 : M ≤ 530 * 8 := by omega
        have HOk := hide hok
        have HTt := hide hT
        clear hTc hra hok hT hM
        go_wp2_with fail
        refine (i_RecoverAll (s := T) (by omega)).mono ?_
        rintro e w3 ⟨v3, r3, rfl, hb3, ht3, ho3, hs3, hl3⟩
        rw [HRa.out] at ht3 ⊢
        dsimp only at ht3 ⊢
        rw [HM.out]
        have n3 : r3.length = k := by have := congrArg List.length ht3; simpa [Hn.out] using this
        rw [n3] at ho3
        obtain ⟨A3, c3, rfl⟩ := own_shape ho3
        have V3 := hide (svR_own ho3 hs3)
        have L3 := hide hl3
        have T3 := hide ht3
        have R3 := hide (own_below R2.out hb3)
        have bel3 := bel2.trans (hb3.mono bel2.size)
        clear hb3 ho3 hs3 hl3 ht3 n3 bel2 R2
        go_wp2_with fail
        refine (i_StoreAll V3.out (Nat.le_refl _) (by omega) L3.out).mono ?_
        rintro e w4 ⟨rfl, hb4⟩
        rw [allOk_told T3.out, allT_told T3.out, HOk.out, HTt.out]
        have R4 := hide (own_below R3.out hb4)
        have bel4 := bel3.trans (hb4.mono bel3.size)
        clear hb4 R3 bel3 V3 L3 T3
        obtain ⟨g7, c7, rfl⟩ := own_addr R4.out (by omega)
        have e7 : w4.cell? ⟨g7, k, none⟩ = some (.int .i64 (M : Int)) := by
          have := own_cellI R4.out (il_ends (ss := ss) (Nat.le_refl k))
          rwa [HEk.out] at this
        have hne2 : ((M : Int) != (M : Int)) = false := by simp
        have hne3 : ((k : Int) != (k : Int)) = false := by simp
        by_cases hc0 : cut < 0
        · clear HLs HVa HW HL
          go_wp2
          go_ret
          exact ⟨rfl, bel4⟩
        by_cases hcM : (M : Int) ≤ cut
        · clear HLs HVa HW HL
          go_wp2
          go_ret
          exact ⟨rfl, bel4⟩
        obtain ⟨cn, rfl⟩ := Int.eq_ofNat_of_zero_le (show 0 ≤ cut by omega)
        have hcn : cn < M := by omega
        have H0k : Hid (0 < k) := hide (by
          rcases Nat.eq_zero_or_pos k with h0 | h0
          · exfalso; have := HEk.out; rw [h0, endN_zero] at this; omega
          · exact h0)
        clear hc0
        go_wp2
        go_loopw [26] (fun v26 wr => ∃ j : Nat, v26 = .int .i64 (j : Int) ∧ j < k ∧ Hid (endN ss j ≤ cn) ∧ wr = w4) (fun v26 _ => k - (intOf v26).toNat)
        case atStart => exact ⟨0, rfl, H0k.out, hide (Nat.zero_le _), rfl⟩
        case round =>
          obtain ⟨j, rfl, hjk, hj, rfl⟩ := hrel
          obtain ⟨E1, hE1⟩ : ∃ E1, endN ss (j + 1) = E1 := ⟨_, rfl⟩
          have e8 : wr.cell? ⟨g7, j + 1, none⟩ = some (.int .i64 (E1 : Int)) := by
            have := own_cellI R4.out (il_ends (ss := ss) (show j + 1 ≤ k by omega))
            rwa [hE1] at this
          have HE1 := hide hE1
          have jk : (j : Int) < (k : Int) := by omega
          have jk1 : (j : Int) + 1 < (k : Int) + 1 := by omega
          clear hE1
          by_cases hle : E1 ≤ cn
          · have hleI : (E1 : Int) ≤ (cn : Int) := by omega
            have hj1 : j + 1 < k := by
              rcases Nat.lt_or_ge (j + 1) k with h | h
              · exact h
              · exfalso
                have : j + 1 = k := by omega
                have h1 := HE1.out
                rw [this, HEk.out] at h1
                omega
            have HJ : Hid (endN ss (j + 1) ≤ cn) := hide (by rw [HE1.out]; exact hle)
            go_wp2
            go_roundw
            case rel => exact ⟨j + 1, by go_num, hj1, HJ, by first | rfl | trivial⟩
            case measure => (simp [intOf]; omega)
          · have hleI : ¬ (E1 : Int) ≤ (cn : Int) := by omega
            -- [CUT
            have hE1c : cn < E1 := by omega
            have hrc := rec_cut HVa.out HW.out (by rw [Hn.out]; exact h8) (k := j) (c := cn) (by rw [Hn.out]; exact hjk) hj.out (by rw [HE1.out]; exact hE1c)
            rw [← HTc.out, ← take_list] at hrc
            obtain ⟨E0, hE0⟩ : ∃ E0, endN ss j = E0 := ⟨_, rfl⟩
            rw [hE0] at hrc
            have e9 : wr.cell? ⟨g7, j, none⟩ = some (.int .i64 (E0 : Int)) := by
              have := own_cellI R4.out (il_ends (ss := ss) (show j ≤ k by omega))
              rwa [hE0] at this
            have hEc : E0 ≤ cn := by rw [← hE0]; exact hj.out
            have HRc := hide hrc
            have HE0 := hide hE0
            have hUs : (T.extract 0 cn).size ≤ 1048576 := by rw [ByteArray.size_extract]; omega
            have hBg : (T.extract 0 cn).extract 0 E0 = T.extract 0 E0 := ba_ext' (by rw [take_list, take_list, take_list, List.take_take, Nat.min_eq_left hEc])
            obtain ⟨Bg, hB⟩ : ∃ Bg, T.extract 0 E0 = Bg := ⟨_, rfl⟩
            have HBg := hide (hBg.trans hB)
            have c0 : (0 : Int) ≤ (cn : Int) := by omega
            have c1 : (cn : Int) ≤ (M : Int) := by omega
            have g7lt : g7 < wr.heap.size := (R4.out.lt g7 rfl).2
            clear hrc hE0 hBg hle HE1 e7
            go_wp2_with fail
            refine (i_RecoverAll (s := T.extract 0 cn) hUs).mono ?_
            rintro e w5 ⟨v5, r5, rfl, hb5, ht5, ho5, hs5, hl5⟩
            obtain ⟨st1, st2, st3, st4⟩ := rec_store ht5
            rw [HRc.out] at ht5 st2 ⊢
            dsimp only at ht5 st2 ⊢
            have n5 : r5.length = j := by have := congrArg List.length ht5; rw [List.length_map, List.length_map, List.length_take, Hn.out] at this; omega
            rw [n5] at ho5 st1 st2
            rw [HBg.out] at st2
            obtain ⟨A5, c5, rfl⟩ := own_shape ho5
            have V5 := hide (svR_own ho5 hs5)
            have L5 := hide hl5
            have S1 := hide st1
            have S2 := hide st2
            have bel5 := bel4.trans (hb5.mono bel4.size)
            have e10 : w5.cell? ⟨g7, j, none⟩ = some (.int .i64 (E0 : Int)) := (hb5.cell (by exact g7lt)).trans e9
            have z5 : wr.heap.size ≤ w5.heap.size := hb5.size
            clear hb5 ho5 hs5 hl5 ht5 n5 st1 st2 st3 st4 e9 e8 hleI
            go_wp2_with fail
            refine (i_StoreAll V5.out (Nat.le_refl _) (by omega) L5.out).mono ?_
            rintro e w6 ⟨rfl, hb6⟩
            rw [S1.out, S2.out]
            have bel6 := bel5.trans (hb6.mono bel5.size)
            have e11 : w6.cell? ⟨g7, j, none⟩ = some (.int .i64 (E0 : Int)) := (hb6.cell (by show g7 < _; omega)).trans e10
            have hne4 : ((E0 : Int) != (E0 : Int)) = false := by simp
            have hne5 : ((j : Int) != (j : Int)) = false := by simp
            have hne6 : (!Bg.toList == Bg.toList) = false := by simp
            have k0 : (0 : Int) ≤ (E0 : Int) := by omega
            have k1 : (E0 : Int) ≤ (M : Int) := by omega
            have z6 : w5.heap.size ≤ w6.heap.size := hb6.size
            obtain ⟨cap, w7, hcv, hb7, hz7, hcap, hcl, hfr⟩ := bytes_laid w6 T
            have hTM : T.size = M := HM.out
            have HCl := hide hcl
            have HFr := hide hfr
            have bel7 := bel6.trans (hb7.mono bel6.size)
            obtain ⟨cb, hcb⟩ : ∃ cb, T[cn]'(by omega) = cb := ⟨_, rfl⟩
            have f7 : w7.cell? ⟨w6.heap.size, cn, none⟩ = some (.int .u8 (cb.toNat : Int)) := by rw [← hcb]; exact hcl cn (by omega)
            have f8 : w7.frozen? ⟨w6.heap.size, cn, none⟩ = false := hfr cn (by omega)
            have c2 : (cn : Int) < (M : Int) := by omega
            rw [hTM] at hcap
            obtain ⟨nb, hnb⟩ := bits_u8 (cb.toNat : Int) bit
            have hz67 : w6.heap.size < w7.heap.size := by omega
            have C8 : Hid (∀ i (hi : i < T.size), i ≠ cn → (w7.setCell ⟨w6.heap.size, cn, none⟩ (.int .u8 (nb.toNat : Int))).cell? ⟨w6.heap.size, i, none⟩ = some (.int .u8 ((T[i]'hi).toNat : Int))) := hide (fun i hi hne => by
              rw [World.cell?_setCell_other _ _ _ _ (by intro e; injection e; omega)]
              exact hcl i hi)
            have N8 : (w7.setCell ⟨w6.heap.size, cn, none⟩ (.int .u8 (nb.toNat : Int))).cell? ⟨w6.heap.size, cn, none⟩ = some (.int .u8 (nb.toNat : Int)) := World.cell?_setCell_same _ _ _ f7
            have hcv2 := bent_conv (cap := cap) (Nat.le_refl T.size) C8.out (fun _ => N8)
            have N8' := hide N8
            rw [List.take_of_length_le (by rw [List.length_set, Array.length_toList]; exact Nat.le_refl _)] at hcv2
            obtain ⟨Bl, hBl⟩ : ∃ Bl : ByteArray, (⟨(T.data.toList.set cn nb).toArray⟩ : ByteArray) = Bl := ⟨_, rfl⟩
            have HBl : Hid (Bl.data.toList = T.data.toList.set cn nb) := hide (by rw [← hBl])
            rw [hBl] at hcv2
            have hBs : Bl.size = M := by
              have : Bl.data.toList.length = T.data.toList.length := by rw [HBl.out, List.length_set]
              rw [Array.length_toList, Array.length_toList] at this
              exact this.trans hTM
            have HBs := hide hBs
            have hBs2 : Bl.size ≤ 1048576 := by omega
            have hbent : j ≤ (recN 8 Bl.data.toList).1.length := rec_bent HVa.out HW.out (by rw [Hn.out]; exact h8) (k := j) (c := cn) (by rw [Hn.out]; exact hjk) (by rw [HE0.out]; exact hEc) (by
              rw [HBl.out, ← HTc.out, List.take_set_of_le (Nat.le_refl _)])
            have Hbent := hide hbent
            have bel8 := bel7.setCell (p := ⟨w6.heap.size, cn, none⟩) (by have := bel6.size; exact this) (.int .u8 (nb.toNat : Int))
            have hz8 : w6.heap.size < (w7.setCell ⟨w6.heap.size, cn, none⟩ (.int .u8 (nb.toNat : Int))).heap.size := by simpa [World.setCell] using hz67
            clear hb6 e10 bel5 V5 L5 S1 S2 hcl hfr hTM hb7 bel6 bel7 hcb hBl N8 hbent hBs
            go_wp2_with fail
            refine (i_RecoverAll (s := Bl) hBs2).mono ?_
            rintro e w9 ⟨v9, r9, rfl, hb9, ht9, ho9, hs9, hl9⟩
            obtain ⟨st1, st2, st3, st4⟩ := rec_store ht9
            obtain ⟨n9, hn9⟩ : ∃ n9, r9.length = n9 := ⟨_, rfl⟩
            have hjn : j ≤ n9 := by have := Hbent.out; rw [← ht9, List.length_map, hn9] at this; exact this
            obtain ⟨o, ho⟩ : ∃ o, (recN 8 Bl.data.toList).2 = o := ⟨_, rfl⟩
            rw [ho] at st2 st3 ⊢
            rw [hn9] at ho9 st1 st2 st4
            rw [HBs.out] at st3
            obtain ⟨A9, c9, rfl⟩ := own_shape ho9
            have V9 := hide (svR_own ho9 hs9)
            have L9 := hide hl9
            have S1 := hide st1
            have S2 := hide st2
            have bel9 := bel8.trans (hb9.mono bel8.size)
            have C9 : Hid (∀ i (hi : i < T.size), i ≠ cn → w9.cell? ⟨w6.heap.size, i, none⟩ = some (.int .u8 ((T[i]'hi).toNat : Int))) := hide (fun i hi hne => (hb9.cell (by exact hz8)).trans (C8.out i hi hne))
            have N9 := hide ((hb9.cell (by exact hz8)).trans N8'.out)
            have z9 : (w7.setCell ⟨w6.heap.size, cn, none⟩ (.int .u8 (nb.toNat : Int))).heap.size ≤ w9.heap.size := hb9.size
            have hz9 : w6.heap.size < w9.heap.size := by omega
            clear hb9 ho9 hs9 hl9 ht9 hn9 ho st1 st2 C8 N8' bel8 hcv hcv2
            go_wp2_with fail
            refine (i_StoreAll V9.out (Nat.le_refl _) (by omega) L9.out).mono ?_
            rintro e w10 ⟨rfl, hb10⟩
            rw [S1.out, S2.out]
            have bel10 := bel9.trans (hb10.mono bel9.size)
            have hcv3 := bent_conv (w := w10) (g := w6.heap.size) (cap := cap) (cn := cn) (o := o) (T := T) (nb := nb) (by rw [HM.out]; exact st3) (fun i hi hne => (hb10.cell (by exact hz9)).trans (C9.out i hi hne)) (fun _ => (hb10.cell (by exact hz9)).trans N9.out)
            obtain ⟨Fo, hFo⟩ : ∃ Fo, Bl.extract 0 o = Fo := ⟨_, rfl⟩
            rw [show (⟨((T.data.toList.set cn nb).take o).toArray⟩ : ByteArray) = Bl.extract 0 o from ba_ext' (by rw [take_list, HBl.out]), hFo] at hcv3
            rw [hFo]
            have heq : (Fo.toList == Fo.toList) = true := by simp
            have q0 : (0 : Int) ≤ (o : Int) := by omega
            have q1 : (o : Int) ≤ (M : Int) := by omega
            have q2 : (j : Int) ≤ (n9 : Int) := by omega
            have q3 : (o : Int) ≤ (cap : Int) := by omega
            clear hb10 bel9 C9 N9 V9 L9 S1 S2 hFo
            go_wp2
            go_ret
            exact ⟨rfl, bel10⟩
            -- CUT]
      · rw [decide_eq_false h8]
        clear R2 HLs HVa
        go_wp2
        go_ret
        exact ⟨rfl, bel2⟩
      -- REST]
end Go.Proofs.Ytjfmjeffmnjilaa
