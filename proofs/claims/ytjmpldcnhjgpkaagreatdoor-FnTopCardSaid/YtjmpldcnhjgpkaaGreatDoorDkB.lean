/-
  Lives: 'failures', walked.
-/
import Derived.Test.YtjmpldcnhjgpkaaGreatDoorLfE
import Derived.Test.YtjmpldcnhjgpkaaGreatDoorBaO
import Derived.Test.YtjmpldcnhjgpkaaGreatDoorBelW
import Derived.Test.YtjmpldcnhjgpkaaGreatDoorDkA
import Derived.Test.YtjmpldcnhjgpkaaGreatDoorLtT
namespace Go.Proofs.YtjmpldcnhjgpkaaGreatDoor
open Go.RowKit Mem Fl
set_option linter.unusedVariables false
set_option maxRecDepth 100000

theorem ty_neL : 25 ≠ 69 := by decide
theorem own_neL {w : World} {B g m n : Nat} {v : Value} {acc : List Nat} {r : List (Nat × Bool)} (h : w.ownsRow B 25 1 v m (fl .f32 acc)) (hR : RowL w g n r) : v.ownBlock ≠ some g := by
  obtain ⟨cur, hb, _⟩ := hR
  intro hv
  rcases h with ⟨_, ⟨rfl, _⟩ | ⟨g', cap, cur', rfl, _, hh, _⟩⟩
  · simp [Value.ownBlock] at hv
  · simp [Value.ownBlock] at hv
    subst hv
    exact (Blk.ne_ (w := w) hh hb ty_neL) rfl
theorem RowL.kept {w w' : World} {g n : Nat} {r : List (Nat × Bool)} (h : RowL w g n r) (e : w'.heap[g]? = w.heap[g]?) : RowL w' g n r := by
  obtain ⟨cur, hb, x⟩ := h
  exact ⟨cur, e.trans hb, x⟩
set_option maxHeartbeats 8000000 in
theorem i_failures {A : Option Addr} {n c B : Nat} {l : List (Nat × Bool)} {w : World} (h : Reads w B 2 A n (ll l)) (hB : B ≤ w.heap.size) (hn1 : 1 ≤ n) (hn : n ≤ 19) (hf : ∀ x ∈ l, fin .f32 x.1 = true) :
    Calls Tryz.prog 84 #[.slice A n c] w fun e w' => ∃ v, e = .returned v ∧ w'.ownsRow w.heap.size 25 1 v (fails (srt l (n - 1))).length (fl .f32 (fails (srt l (n - 1)))) ∧ Below w.heap.size w w' := by
  have HO := hide (fun (W : World) (hb : Below w.heap.size w W) => i_ordered (c := c) (h.below (hb.mono hB)) hn1 hn hf)
  have hlr : (srt l (n - 1)).length = n := by rw [srt_len]; have := h.1; rw [ll_len] at this; omega
  obtain ⟨r, hr⟩ : ∃ r, srt l (n - 1) = r := ⟨_, rfl⟩
  rw [hr] at HO hlr ⊢
  have Hlr := hide hlr
  clear h hf hr hlr
  go_enter Tryz.func84, Tryz.ntmps84
  go_wp2_with (go_at_call 60; refine (HO.out _ ((Below.refl _ _).alloc (Nat.le_refl _) _)).mono ?_; rintro e w1 ⟨g, cp, rfl, hg, hR, hb⟩)
  have hsz1 : w.heap.size + 1 ≤ w1.heap.size := by have := hb.size; simpa using this
  have HR := hide hR
  have HB1 := hide (show Below w.heap.size w w1 from ((Below.refl w.heap.size w).alloc (Nat.le_refl _) _).trans (hb.mono (by simp)))
  have HW := hide (show w1.ownsRow w.heap.size 25 1 (.slice (some ⟨w.heap.size, 0, none⟩) 0 0) 0 (fl .f32 []) from own_below (World.ownsRow_made w #[] 0 (Nat.le_refl _) (Nat.zero_le _) (by simp)) hb)
  clear hR hb HO
  go_wp2
  go_loopw [3, 10] (fun v i wr => ∃ (k m : Nat), k ≤ n ∧ i = .int .i64 (k : Int) ∧ m ≤ k ∧ Hid ((fails (r.take k)).length = m) ∧ Hid (wr.ownsRow w.heap.size 25 1 v m (fl .f32 (fails (r.take k)))) ∧ Hid (RowL wr g n r) ∧ Hid (Below w.heap.size w wr)) (fun _ i _ => n - (intOf i).toNat)
  case atStart => exact ⟨0, 0, Nat.zero_le _, rfl, Nat.le_refl _, hide rfl, HW, HR, HB1⟩
  case round =>
    clear HR HB1 HW
    obtain ⟨k, m, hk, rfl, hmk, HM, HW, HR, HBl⟩ := hrel
    rename World => wr
    rename Value => v0
    by_cases hlt : k < n
    · obtain ⟨d1, d2⟩ := HR.out.cells hlt
      have hx : r[k]? = some (r.getD k d0) := by rw [List.getD_eq_getElem?_getD, List.getElem?_eq_getElem (by rw [Hlr.out]; omega)]; rfl
      have HS := hide (fails_succ hx)
      obtain ⟨p, hp⟩ : ∃ p, r.getD k d0 = p := ⟨_, rfl⟩
      rw [hp] at d1 d2 HS
      obtain ⟨acc, hacc⟩ : ∃ acc, fails (r.take k) = acc := ⟨_, rfl⟩
      rw [hacc] at HM HW HS
      obtain ⟨x, b⟩ := p
      clear hx hp hacc
      have hkI : (k : Int) < (n : Int) := by omega
      have hgl := HR.out.lt
      have hbn := HBl.out.alloc HBl.out.size (.cells #[.float .f32 x, .bool b] 69)
      have HBn := hide hbn
      have HWn := hide (HW.out.alloc (.cells #[.float .f32 x, .bool b] 69))
      have HRn : Hid (RowL (wr.alloc (.cells #[.float .f32 x, .bool b] 69)) g n r) := hide (HR.out.below ((Below.refl _ _).alloc (Nat.le_refl _) _))
      clear hbn HBl
      cases b with
      | false =>
        have HS2 : Hid (fails (r.take (k + 1)) = acc) := hide (by rw [HS.out]; rfl)
        obtain ⟨OA, oc, rfl⟩ := own_shape HW.out
        clear HS HW HR
        go_wp2
        go_region
        go_wp2
        go_roundw
        case rel => exact ⟨k + 1, m, by omega, by go_num, by omega, hide (by rw [HS2.out]; exact HM.out), hide (by rw [HS2.out]; exact own_drewN HWn.out 1), hide HRn.out, hide (below_drewN HBn.out 1)⟩
        case measure => simp [intOf]; omega
      | true =>
        have hzz : w.heap.size ≤ ((wr.alloc (.cells #[.float .f32 x, .bool true] 69)).drewN 1).heap.size := HBn.out.size
        cases m with
        | zero =>
          have ha0 : acc = [] := List.length_eq_zero_iff.1 HM.out
          subst ha0
          have HS2 : Hid (fails (r.take (k + 1)) = [] ++ [x]) := hide (by rw [HS.out]; rfl)
          have HNe := hide (own_neL HWn.out HRn.out)
          obtain ⟨OA, oc, rfl⟩ := own_shape HW.out
          clear HS HW HR
          go_wp2
          go_region
          generalize hV : Value.slice OA 0 oc = V at HWn HNe ⊢
          clear hV
          go_wp2_with (at_builtin; refine wpList_append1c rfl (.tmp 32) (.tmp 35) 28 rfl w.heap.size 25 (.float .f32 0) _ 4 info_f32 Tryz.underlying28 rfl rfl _ _ _ rfl (own_drewN HWn.out 1) (by show Value.slice (some ⟨wr.heap.size + 1, 0, none⟩) 1 1 = _; simp) rfl (by omega) (by omega) hzz ?_)
          intro v' w' hown' hb' hk'
          have HRq := hide (RowL.kept HRn.out (hk' g (by first | exact HRn.out.lt | (have := HRn.out.lt; simpa using this) | omega) HNe.out))
          have HBq := hide ((below_drewN HBn.out 1).trans hb')
          have HWq : Hid (w'.ownsRow w.heap.size 25 1 v' (0 + 1) (fl .f32 (fails (r.take (k + 1))))) := hide (by rw [HS2.out]; exact hown')
          clear hown' hb' hk' HBn HWn HRn HNe hzz
          go_wp2
          go_roundw
          case rel => exact ⟨k + 1, 0 + 1, by omega, by go_num, by omega, hide (by rw [HS2.out]; rfl), HWq, HRq, HBq⟩
          case measure => simp [intOf]; omega
        | succ m =>
          have hlast : acc.getD (acc.length - 1) 0 = acc.getD m 0 := by rw [HM.out]; rfl
          have hne : acc.isEmpty = false := by
            have := HM.out
            cases acc with
            | nil => simp at this
            | cons _ _ => rfl
          obtain ⟨z, hz⟩ : ∃ z, acc.getD m 0 = z := ⟨_, rfl⟩
          have HNe := hide (own_neL HWn.out HRn.out)
          obtain ⟨g2, c2, cur, rfl, hg2, hc2, hB2, hat⟩ := row_of HW.out (by omega)
          have hB3 := hB2.alloc (.cells #[.float .f32 x, .bool true] 69)
          have dz : (wr.alloc (.cells #[.float .f32 x, .bool true] 69)).cell? ⟨g2, m, none⟩ = some (.float .f32 z) := by rw [hB3.cell, hat m (by omega), hz]
          clear hB3 hB2 hat
          have hm0 : ¬ ((m : Int) + 1 = 0) := by omega
          have hm1 : (((m : Int) + 1) == 0) = false := by rw [beq_eq_false_iff_ne]; omega
          have hm2 : decide ((m : Int) + 1 = 0) = false := decide_eq_false hm0
          cases hq : (FloatKind.f32.format.order z x != some .eq) with
          | false =>
            have HS2 : Hid (fails (r.take (k + 1)) = acc) := hide (by rw [HS.out]; unfold fStep; rw [hne, hlast, hz, hq]; rfl)
            clear HS HW HR hlast hne hz
            go_wp2
            go_region
            go_wp2
            go_roundw
            case rel => exact ⟨k + 1, m + 1, by omega, by go_num, by omega, hide (by rw [HS2.out]; exact HM.out), hide (by rw [HS2.out]; exact own_drewN HWn.out 1), hide HRn.out, hide (below_drewN HBn.out 1)⟩
            case measure => simp [intOf]; omega
          | true =>
            have HS2 : Hid (fails (r.take (k + 1)) = acc ++ [x]) := hide (by rw [HS.out]; unfold fStep; rw [hne, hlast, hz, hq]; rfl)
            clear HS HW HR hlast hne hz
            go_wp2
            go_region
            generalize hV : Value.slice (some ⟨g2, 0, none⟩) (m + 1) c2 = V at HWn HNe ⊢
            clear hV
            go_wp2_with (at_builtin; refine wpList_append1c rfl (.tmp 32) (.tmp 35) 28 rfl w.heap.size 25 (.float .f32 0) _ 4 info_f32 Tryz.underlying28 rfl rfl _ _ _ rfl (own_drewN HWn.out 1) (by show Value.slice (some ⟨wr.heap.size + 1, 0, none⟩) 1 1 = _; simp) rfl (by omega) (by omega) hzz ?_)
            intro v' w' hown' hb' hk'
            have HRq := hide (RowL.kept HRn.out (hk' g (by first | exact HRn.out.lt | (have := HRn.out.lt; simpa using this) | omega) HNe.out))
            have HBq := hide ((below_drewN HBn.out 1).trans hb')
            have HWq : Hid (w'.ownsRow w.heap.size 25 1 v' (m + 1 + 1) (fl .f32 (fails (r.take (k + 1))))) := hide (by rw [HS2.out]; have := hown'; rwa [show fl .f32 acc ++ [Value.float .f32 x] = fl .f32 (acc ++ [x]) by simp [fl]] at this)
            clear hown' hb' hk' HBn HWn HRn HNe hzz
            go_wp2
            go_roundw
            case rel => exact ⟨k + 1, m + 1 + 1, by omega, by go_num, by omega, hide (by rw [HS2.out, List.length_append, HM.out]; rfl), HWq, HRq, HBq⟩
            case measure => simp [intOf]; omega
    · have hkn : k = n := by omega
      have e1 : r.take k = r := List.take_of_length_le (by rw [Hlr.out]; omega)
      rw [e1] at HM HW
      clear hk hlt
      go_wp2
      go_ret
      exact ⟨_, rfl, by rw [HM.out]; exact HW.out, HBl.out⟩
end Go.Proofs.YtjmpldcnhjgpkaaGreatDoor

/-
  Lives: 'survivors', walked: the shares that outlive each time at which something failed.
-/
namespace Go.Proofs.YtjmpldcnhjgpkaaGreatDoor
open Go.RowKit Mem Fl
set_option linter.unusedVariables false
set_option maxRecDepth 100000

/-- The share after k times. -/
def svZ (l : List (Nat × Bool)) (ts : List Nat) : Nat → Nat
  | 0 => cn .f32 1065353216
  | k + 1 => fb .mul .f32 (svZ l ts k) (fb .sub .f32 1065353216 (fb .quo .f32 (floatOfInt .f32 (atD l (ts.getD k 0) : Int)) (floatOfInt .f32 (atR l (ts.getD k 0) : Int))))
def svL (l : List (Nat × Bool)) (ts : List Nat) (k : Nat) : List Nat := (List.range k).map fun i => svZ l ts (i + 1)
theorem svL_succ (l : List (Nat × Bool)) (ts : List Nat) (k : Nat) : svL l ts (k + 1) = svL l ts k ++ [svZ l ts (k + 1)] := by
  unfold svL; rw [List.range_succ, List.map_append]; rfl
/-- A row that is owned from a base on, or an empty one that has no room. -/
def OwnE (w : World) (base : Nat) (v : Value) (n : Nat) (xs : List Nat) : Prop := w.ownsRow base 25 1 v n (fl .f32 xs) ∨ (∃ b, v = .slice (some b) 0 0 ∧ n = 0 ∧ xs = [])
theorem OwnE.belowE {w w' : World} {base n : Nat} {v : Value} {xs : List Nat} (h : OwnE w base v n xs) (hb : Below w.heap.size w w') (_ : base ≤ w.heap.size) : OwnE w' base v n xs := by
  rcases h with h | h
  · exact .inl (own_below h hb)
  · exact .inr h
theorem fb_in (op op2 : BinOp) (k : FloatKind) (z x a : Nat) (W : World) : fb op k z (flR op2 k x a W) = fb op k z (fb op2 k x a) := by rw [← fb_cnr op k z (flR op2 k x a W), cn_flR]
theorem wpList_append_oe {w0 w : World} {ops : Array Oper} {rest : List Oper} {o : Oper} {a : Act} {Q : Exit → Act → World → Prop} (hgd : o.guard = none) (s x : Operand)
    (ho : o.op = .call { callee := .builtin .append, args := #[s, x], argTypes := #[28, 28] })
    (base u : Nat) (hw : w = w0.alloc (.cells #[.float .f32 u] 25)) (v : Value) (n : Nat) (xs : List Nat) (hs : a.eval s = v) (hown : OwnE w0 base v n xs)
    (hx : a.eval x = .slice (some ⟨w0.heap.size, 0, none⟩) 1 1) (hn : n < 1099511627776) (hbase : base ≤ w0.heap.size)
    (h : ∀ v' w', OwnE w' base v' (n + 1) (xs ++ [u]) → Below base w0 w' → wpList Tryz.prog ops Q rest (a.put o.dst v') w') : wpList Tryz.prog ops Q (o :: rest) a w := by
  have efl : fl .f32 xs ++ [Value.float .f32 u] = fl .f32 (xs ++ [u]) := by simp [fl]
  rcases hown with hown | ⟨b, rfl, rfl, rfl⟩
  · refine wpList_append1c hgd s x _ ho base 25 (.float .f32 0) (.float .f32 u) 4 info_f32 Tryz.underlying28 rfl hw v n (fl .f32 xs) hs hown hx rfl hn (by omega) hbase ?_
    intro v' w' h1 h2 _
    rw [efl] at h1
    exact h v' w' (.inl h1) h2
  · subst hw
    obtain ⟨i0, hi, hz0, hz1, hz2⟩ := info_parts info_f32
    refine wpList_append_grows _ hgd s x _ ho 25 i0 (.float .f32 0) 1 4 Tryz.underlying28 hi hz0 hz1 hz2 rfl (by decide) (some b) 0 0 [] hs (fun e => by cases e) rfl (fun _ _ j u hj => by simp at hj) ⟨w0.heap.size, 0, none⟩ 1 1 [.float .f32 u] hx rfl (cell_one_new _ _ _) (by intro y hy; simp at hy; subst hy; rfl) (by decide) (by decide) (by decide) ?_
    intro v' w' h1 h2
    refine h v' w' (.inl (own_up h1 (by rw [World.size_alloc]; omega))) (((Below.refl _ _).alloc hbase _).grown h2 (by rw [World.size_alloc]; omega) (by intro k hk; cases hk))
set_option maxHeartbeats 8000000 in
theorem i_survivors {A : Option Addr} {n c B : Nat} {l : List (Nat × Bool)} {w : World} (h : Reads w B 2 A n (ll l)) (hB : B ≤ w.heap.size) (hn1 : 1 ≤ n) (hn : n ≤ 19) (hf : ∀ x ∈ l, fin .f32 x.1 = true) :
    Calls Tryz.prog 44 #[.slice A n c] w fun e w' => ∃ v ys, e = .returned v ∧ OwnE w' w.heap.size v (fails (srt l (n - 1))).length ys ∧ ys.map (cn .f32) = svL l (fails (srt l (n - 1))) (fails (srt l (n - 1))).length ∧ (∀ y ∈ ys, Wf .f32 y) ∧ Below w.heap.size w w' := by
  have HO := hide (fun (W : World) (hb : Below w.heap.size w W) => i_failures (c := c) (h.below (hb.mono hB)) (Nat.le_trans hB hb.size) hn1 hn hf)
  have HAt := hide (fun (W : World) (t : Nat) (hb : Below w.heap.size w W) => i_at (c := c) (t := t) (h.below (hb.mono hB)) (Nat.le_trans hB hb.size) (by omega))
  have hlm : (fails (srt l (n - 1))).length ≤ 19 := by
    have h1 := fails_len (srt l (n - 1)) []
    have h2 : l.length = n := by have := h.1; rw [ll_len] at this; omega
    rw [srt_len] at h1
    unfold fails
    simp only [List.length_nil] at h1
    omega
  obtain ⟨ts, hts⟩ : ∃ ts, fails (srt l (n - 1)) = ts := ⟨_, rfl⟩
  rw [hts] at HO hlm ⊢
  obtain ⟨m, hm⟩ : ∃ m, ts.length = m := ⟨_, rfl⟩
  have Hm := hide hm
  rw [hm] at HO hlm ⊢
  clear h hf hts hm
  go_enter Tryz.func44, Tryz.ntmps44
  go_wp2_with (go_at_call 84; refine (HO.out _ ((Below.refl _ _).alloc (Nat.le_refl _) _)).mono ?_; rintro e w1 ⟨v1, rfl, hown1, hb⟩)
  obtain ⟨TA, tc, rfl⟩ := own_shape hown1
  have hsz1 : w.heap.size + 1 ≤ w1.heap.size := by have := hb.size; simpa using this
  have HB1 := hide (show Below w.heap.size w w1 from ((Below.refl w.heap.size w).alloc (Nat.le_refl _) _).trans (hb.mono (by simp)))
  have HT := hide (Reads.of_own hown1)
  have HE := hide (show OwnE w1 w1.heap.size (.slice (some ⟨w.heap.size, 0, none⟩) 0 0) 0 [] from .inr ⟨_, rfl, rfl, rfl⟩)
  clear hown1 hb HO
  have hl28 := run_len_slice (P := Tryz.prog) (w := w1) 28 3 TA m tc (by rfl)
  rw [hl28]
  go_wp2
  go_loopw [3, 4, 13] (fun v zv i wr => ∃ (k z : Nat) (ys : List Nat), k ≤ m ∧ i = .int .i64 (k : Int) ∧ zv = .float .f32 z ∧ Hid (cn .f32 z = svZ l ts k) ∧ Hid (ys.map (cn .f32) = svL l ts k) ∧ Hid (∀ y ∈ ys, Wf .f32 y) ∧ Hid (OwnE wr w1.heap.size v k ys) ∧ Hid (Below w1.heap.size w1 wr)) (fun _ _ i _ => m - (intOf i).toNat)
  case atStart => exact ⟨0, _, [], Nat.zero_le _, rfl, rfl, hide rfl, hide rfl, hide (fun y hy => by cases hy), HE, hide (Below.refl _ _)⟩
  case round =>
    clear HE
    obtain ⟨k, z, ys, hk, rfl, rfl, HZ, HY, HW, HE, HBl⟩ := hrel
    rename World => wr
    by_cases hlt : k < m
    · obtain ⟨ad, t, rfl, _, ht, hc⟩ := (HT.out.below HBl.out).map_at hlt
      have htd : ts.getD k 0 = t := by rw [List.getD_eq_getElem?_getD, ht]; rfl
      have HZ1 : Hid (svZ l ts (k + 1) = fb .mul .f32 (svZ l ts k) (fb .sub .f32 1065353216 (fb .quo .f32 (floatOfInt .f32 (atD l t : Int)) (floatOfInt .f32 (atR l t : Int))))) := hide (by rw [← htd]; rfl)
      have hbw : Below w.heap.size w wr := HB1.out.trans (HBl.out.mono (by omega))
      have HA1 := hide (HAt.out wr t hbw)
      have hkI : (k : Int) < (m : Int) := by omega
      clear ht htd hbw
      have hsz2 := HBl.out.size
      go_wp2_with (first | (go_at_call 85; refine HA1.out.mono ?_; rintro e w2 ⟨rfl, hb2⟩; have HE2 := hide (HE.out.belowE hb2 hsz2); have HB2 := hide (HBl.out.trans (hb2.mono (Nat.le_trans (by omega) hsz2)))) | (at_builtin; refine wpList_append_oe rfl (.tmp 29) (.tmp 31) rfl w1.heap.size _ rfl _ k ys rfl HE2.out rfl (by omega) HB2.out.size ?_; intro v' w' hE3 hb3))
      have HE3 := hide hE3
      have HB3 := hide ((below_drewN HB2.out _).trans hb3)
      clear hE3 hb3
      go_roundw
      case rel => exact ⟨k + 1, _, ys ++ [_], by omega, by go_num, rfl, hide (by rw [HZ1.out, ← HZ.out, fb_cnl, cn_flR, fb_in, fb_in]), hide (by rw [svL_succ, List.map_append, HY.out, List.map_singleton, HZ1.out, ← HZ.out, fb_cnl, cn_flR, fb_in, fb_in]), hide (fun y hy => by rcases List.mem_append.1 hy with h | h; exact HW.out y h; rw [List.mem_singleton] at h; subst h; exact wf_flR _ _ _ _ _), HE3, HB3⟩
      case measure => simp [intOf]; omega
    · have hkm : k = m := by omega
      subst hkm
      clear hk hlt
      go_wp2
      go_ret
      refine ⟨_, ys, rfl, ?_, HY.out, HW.out, HB1.out.trans (HBl.out.mono (by omega))⟩
      rcases HE.out with h1 | ⟨b, rfl, rfl, rfl⟩
      · exact .inl (own_up h1 (by omega))
      · exact .inr ⟨_, rfl, rfl, rfl⟩
end Go.Proofs.YtjmpldcnhjgpkaaGreatDoor

/-
  Lives: SurvivorTable of lives that are valid.
-/
namespace Go.Proofs.YtjmpldcnhjgpkaaGreatDoor
open Go.RowKit Mem Fl
set_option linter.unusedVariables false
set_option maxRecDepth 100000

theorem OwnE.up {w : World} {base base' n : Nat} {v : Value} {xs : List Nat} (h : OwnE w base v n xs) (hb : base' ≤ base) : OwnE w base' v n xs := by
  rcases h with h | h
  · exact .inl (own_up h hb)
  · exact .inr h
theorem i_SurvivorTable {A : Option Addr} {n c B : Nat} {l : List (Nat × Bool)} {w : World} (h : Reads w B 2 A n (ll l)) (hB : B ≤ w.heap.size) (hn1 : 1 ≤ n) (hn : n ≤ 19) (hok : livesOk l = true) :
    Calls Tryz.prog 18 #[.slice A n c] w fun e w' => ∃ v ys, e = .returned (.tuple #[v, .bool true]) ∧ OwnE w' w.heap.size v (fails (srt l (n - 1))).length ys ∧ ys.map (cn .f32) = svL l (fails (srt l (n - 1))) (fails (srt l (n - 1))).length ∧ (∀ y ∈ ys, Wf .f32 y) ∧ Below w.heap.size w w' := by
  have HA := hide (i_AreLives (c := c) h hB (by omega))
  rw [hok] at HA
  have HR := hide h
  have Hf := hide (livesOk_fin hok)
  clear h
  go_enter Tryz.func18, Tryz.ntmps18
  go_wp2_with (go_at_call 29; refine HA.out.mono ?_; rintro e w1 ⟨rfl, hb⟩)
  have HB := hide hb
  have HO := hide (i_survivors (c := c) (HR.out.below (hb.mono hB)) (Nat.le_trans hB hb.size) hn1 hn Hf.out)
  clear hb HA HR
  go_wp2_with (go_at_call 44; refine HO.out.mono ?_; rintro e w2 ⟨v, ys, rfl, h1, h2, h3, hb2⟩)
  go_ret2
  exact ⟨v, ys, rfl, h1.up HB.out.size, h2, h3, HB.out.trans (hb2.mono HB.out.size)⟩
/-- The sum of the first times. -/
def lfSum (l : List (Nat × Bool)) : Nat → Nat
  | 0 => 0
  | k + 1 => fb .add .f32 (lfSum l k) (l.getD k (0, false)).1
set_option maxHeartbeats 4000000 in
theorem i_TimeOfTest {A : Option Addr} {n c B : Nat} {l : List (Nat × Bool)} {w : World} (h : Reads w B 2 A n (ll l)) (hB : B ≤ w.heap.size) (hn : n ≤ 1000) (hok : livesOk l = true) (hf : ∀ k, k ≤ n → fin .f32 (lfSum l k) = true) :
    Calls Tryz.prog 17 #[.slice A n c] w fun e w' => e = .returned (.tuple #[.float .f32 (lfSum l n), .bool true]) ∧ Below w.heap.size w w' := by
  have HA := hide (i_AreLives (c := c) h hB (by omega))
  rw [hok] at HA
  have HF := hide (fun W => i_ifFinite (x := lfSum l n) (w := W))
  rw [hf n (Nat.le_refl _), if_pos rfl] at HF
  have HR := hide h
  have HFn := hide hf
  clear h hf
  go_enter Tryz.func17, Tryz.ntmps17
  go_wp2_with (go_at_call 29; refine HA.out.mono ?_; rintro e w1 ⟨rfl, hb⟩)
  have HB := hide hb
  have HR1 := hide ((HR.out.below (hb.mono hB)).more (Nat.le_trans hB hb.size))
  clear hb HA HR
  go_loopw [4, 12] (fun a i wr => ∃ k : Nat, k ≤ n ∧ i = .int .i64 (k : Int) ∧ a = .float .f32 (lfSum l k) ∧ Hid (Below w1.heap.size w1 wr)) (fun _ i _ => n - (intOf i).toNat)
  case atStart => exact ⟨0, Nat.zero_le _, rfl, rfl, hide (Below.refl _ _)⟩
  case round =>
    obtain ⟨k, hk, rfl, rfl, HBl⟩ := hrel
    rename World => wr
    by_cases hlt : k < n
    · obtain ⟨ad, p, rfl, hab, hx, hc, hc2⟩ := reads_ll (HR1.out.below HBl.out) hlt
      have hc2b : wr.cell? ⟨(ad.add (k * 2)).block, (ad.add (k * 2)).off + 1, none⟩ = some (.bool p.2) := hc2
      have HS : Hid (∀ W, flR .add .f32 (lfSum l k) p.1 W = lfSum l (k + 1)) := hide (by
        have e : fb .add .f32 (lfSum l k) p.1 = lfSum l (k + 1) := by
          have : l.getD k (0, false) = p := by rw [List.getD_eq_getElem?_getD, hx]; rfl
          simp only [lfSum, this]
        exact fun W => flR_bd e (fin_n32 (HFn.out (k + 1) (by omega))) W)
      obtain ⟨x, b⟩ := p
      obtain ⟨D, hD⟩ : ∃ D, lfSum l k = D := ⟨_, rfl⟩
      rw [hD] at HS ⊢
      clear hx hD hc2
      have hbn : Below w1.heap.size w1 (wr.alloc (.cells #[.float .f32 x, .bool b] 69)) := HBl.out.alloc HBl.out.size _
      have HBn := hide hbn
      clear hbn
      go_wp2
      go_roundw
      case rel => exact ⟨k + 1, by omega, by go_num, by rw [HS.out], hide (below_drewN HBn.out _)⟩
      case measure => simp [intOf]; omega
    · have hkn : k = n := by omega
      subst hkn
      clear hk hlt
      obtain ⟨D, hD⟩ : ∃ D, lfSum l k = D := ⟨_, rfl⟩
      have HD := hide hD
      rw [hD] at HF ⊢
      clear hD
      go_wp2_with (go_at_call 43; refine (HF.out _).mono ?_; rintro e w2 ⟨rfl, m, rfl⟩)
      go_ret2
      exact ⟨by rw [HD.out]; rfl, below_drewN (HB.out.trans (HBl.out.mono HB.out.size)) _⟩
end Go.Proofs.YtjmpldcnhjgpkaaGreatDoor

/-
  Desks: what a line of one word does.
-/
namespace Go.Proofs.YtjmpldcnhjgpkaaGreatDoor
open Go.RowKit Mem Fl Go.Shelf
set_option linter.unusedVariables false
set_option maxRecDepth 100000

/-- The variables that the walks read. -/
structure Gl (w : World) : Prop where
  m1 : ∃ b, w.cell? ⟨renCutF.g 1, 0, none⟩ = some (.int .i64 b)
  m2 : ∃ b, w.cell? ⟨renSplit.g 1, 0, none⟩ = some (.int .i64 b)
  er : Errs w
  pw : Lib.TabIs Tryz.prog w "internal/strconv.uint64pow10" .u64 Lib.pow10Tab
  db : w.cell? ⟨4, 15, none⟩ = some (.int .u8 4)
theorem Gl.below {w w' : World} (h : Gl w) (hb : Below w.heap.size w w') : Gl w' := by
  obtain ⟨⟨b1, h1⟩, ⟨b2, h2⟩, h3, h4, h5⟩ := h
  exact ⟨⟨b1, (hb.cell (p := ⟨renCutF.g 1, 0, none⟩) (Go.Clock.block_lt h1)).trans h1⟩, ⟨b2, (hb.cell (p := ⟨renSplit.g 1, 0, none⟩) (Go.Clock.block_lt h2)).trans h2⟩, h3.below hb, pow_kept h4 hb, (hb.cell (p := ⟨4, 15, none⟩) (Go.Clock.block_lt h5)).trans h5⟩
/-- Block g is a desk, whose rows lie below it. -/
def DkAt (w : World) (lo g : Nat) (D : Dk) : Prop := ∃ LA ln lc RA rn rc, Blk w g 34 (dkC LA ln lc RA rn rc D) ∧ DkR w lo g LA ln RA rn rc D
/-- Block g is a desk, wherever its rows lie. -/
def DkTo (w : World) (lo g : Nat) (D : Dk) : Prop := ∃ LA ln lc RA rn rc, Blk w g 34 (dkC LA ln lc RA rn rc D) ∧ DkR w lo w.heap.size LA ln RA rn rc D
theorem DkTo.drewN {w : World} {lo g : Nat} {D : Dk} (h : DkTo w lo g D) (k : Nat) : DkTo (w.drewN k) lo g D := by
  obtain ⟨LA, ln, lc, RA, rn, rc, h1, h2⟩ := h
  exact ⟨LA, ln, lc, RA, rn, rc, h1.drewN k, h2.drewN k⟩
theorem DkAt.to {w w' : World} {lo g : Nat} {D : Dk} (h : DkAt w lo g D) (hb : Below w.heap.size w w') : DkTo w' lo g D := by
  obtain ⟨LA, ln, lc, RA, rn, rc, h1, h2⟩ := h
  have hl := h1.lt
  have hz := hb.size
  exact ⟨LA, ln, lc, RA, rn, rc, h1.below hb hl, (h2.below hb (Nat.le_of_lt hl)).more (by omega)⟩
/-- How a line ends. -/
def Did (lo g : Nat) (D' : Dk) (t : ByteArray) (ok has : Bool) (w : World) (e : Ending) (w' : World) : Prop := e = .returned (.tuple #[.string t, .bool ok, .bool has]) ∧ DkTo w' lo g D' ∧ w.grownBy w' (some g)
/-- All that the law's desks are. -/
structure Good (D : Dk) : Prop where
  lv : livesOk D.lv = true
  l8 : D.lv.length ≤ 8
  lw : ∀ p ∈ D.lv, Wf .f32 p.1
  kw : lawOk D.kd D.sh D.sc = true
  sw : Wf .f32 D.sh
  cw : Wf .f32 D.sc
  ch : chainOk D.st D.rs = true
  rw : ∀ x ∈ D.rs, Wf .f32 x
  pl : planOkT D.sz D.ac = true
/-- The text of numbers. -/
def numT (xs : List Nat) : ByteArray := joinedB (tx xs)
theorem i_manyText {A : Option Addr} {n c : Nat} {xs : List Nat} {w : World} (h : Reads w w.heap.size 1 A n (fl .f32 xs)) (wx : ∀ x ∈ xs, Wf .f32 x) (hn : n ≤ 256) (ht : w.cell? ⟨4, 15, none⟩ = some (.int .u8 4)) :
    Calls Tryz.prog 143 #[.slice A n c, .bool true] w fun e w' => e = .returned (.tuple #[.string (numT xs), .bool true]) ∧ Below w.heap.size w w' := by
  have HC := hide (i_NumbersText (c := c) h wx hn ht)
  clear h ht wx
  go_enter Tryz.func143, Tryz.ntmps143
  go_wp2_with (go_at_call 11; refine HC.out.mono ?_; rintro e w1 ⟨rfl, hb⟩)
  go_ret2
  exact ⟨rfl, hb⟩
theorem i_oneText {x : Nat} {w : World} (wx : Wf .f32 x) (ht : w.cell? ⟨4, 15, none⟩ = some (.int .u8 4)) :
    Calls Tryz.prog 140 #[.float .f32 x, .bool true] w fun e w' => e = .returned (.tuple #[.string (numT [x]), .bool true]) ∧ Below w.heap.size w w' := by
  have hlt := Go.Clock.block_lt ht
  have HC := hide (fun o => i_manyText (c := 1) (xs := [x]) (w := w.alloc (.cells #[.float .f32 x] o)) (reads_new (Value.float .f32) w o [x]) (by intro y hy; rw [List.mem_singleton] at hy; subst hy; exact wx) (by simp) ((World.cell?_alloc_lt w _ ⟨4, 15, none⟩ hlt).trans ht))
  clear ht wx hlt
  go_enter Tryz.func140, Tryz.ntmps140
  go_wp2_with (go_at_call 143; refine (HC.out _).mono ?_; rintro e w1 ⟨rfl, hb⟩)
  go_ret2
  exact ⟨rfl, ((Below.refl w.heap.size w).alloc (Nat.le_refl _) _).trans (hb.mono (by simp))⟩
theorem lfSum_wf (l : List (Nat × Bool)) (k : Nat) : Wf .f32 (lfSum l k) := by
  cases k with
  | zero => show (0 : Nat) < _; decide
  | succ k => exact wf_fb _ _ _ _
/-- The text of the table of survivors. -/
def tabT (l : List (Nat × Bool)) : ByteArray := joinedB ((svL l (fails (srt l (l.length - 1))) (fails (srt l (l.length - 1))).length).map hexB)
theorem svZ_cn (l : List (Nat × Bool)) (ts : List Nat) (k : Nat) : cn .f32 (svZ l ts k) = svZ l ts k := by
  cases k with
  | zero => exact cn_cn _ _
  | succ k => simp only [svZ]; unfold fb; exact cn_cn _ _
theorem tabT_of {l : List (Nat × Bool)} {ys : List Nat} (h : ys.map (cn .f32) = svL l (fails (srt l (l.length - 1))) (fails (srt l (l.length - 1))).length) : numT ys = tabT l := by
  unfold numT tabT tx
  rw [← h, List.map_map]; rfl
theorem al_lives {lo g : Nat} {D : Dk} {w : World} (h : DkAt w lo g D) (G : Gl w) (hG : Good D) :
    Calls Tryz.prog 117 #[.pointer (some ⟨g, 0, none⟩), .string ⟨#[108, 105, 118, 101, 115]⟩] w (Did lo g D (livesB D.lv) true true w) := by
  have HE : Hid (∀ w', Below w.heap.size w w' → DkTo w' lo g D) := hide (fun w' hb => h.to hb)
  obtain ⟨LA, ln, lc, RA, rn, rc, h1, h2⟩ := h
  have hl := h1.lt
  have c0 : w.cell? ⟨g, 0, none⟩ = some (.slice LA ln lc) := h1.cell 0
  have HC := hide (i_LivesText (c := lc) hG.lv (h2.l.more (Nat.le_of_lt hl)) hG.lw G.db)
  clear h1 h2 G hG
  go_enter Tryz.func117, Tryz.ntmps117
  go_wp2_with (go_at_call 7; refine HC.out.mono ?_; rintro e w1 ⟨rfl, hb⟩)
  go_ret3
  exact ⟨rfl, HE.out _ hb, only_of_below hb _⟩
theorem al_law {lo g : Nat} {D : Dk} {w : World} (h : DkAt w lo g D) (G : Gl w) (hG : Good D) :
    Calls Tryz.prog 117 #[.pointer (some ⟨g, 0, none⟩), .string ⟨#[108, 97, 119]⟩] w (Did lo g D (headB D.kd (joinedB (tx [D.sh, D.sc]))) true true w) := by
  have HE : Hid (∀ w', Below w.heap.size w w' → DkTo w' lo g D) := hide (fun w' hb => h.to hb)
  obtain ⟨LA, ln, lc, RA, rn, rc, h1, h2⟩ := h
  have hl := h1.lt
  have c1 : w.cell? ⟨g, 1, none⟩ = some (.int .i64 D.kd) := h1.cell 1
  have c2 : w.cell? ⟨g, 2, none⟩ = some (.float .f32 D.sh) := h1.cell 2
  have c3 : w.cell? ⟨g, 3, none⟩ = some (.float .f32 D.sc) := h1.cell 3
  have HC := hide (i_LawText hG.kw hG.sw hG.cw G.db)
  clear h1 h2 G hG
  go_enter Tryz.func117, Tryz.ntmps117
  go_wp2_with (go_at_call 8; refine HC.out.mono ?_; rintro e w1 ⟨rfl, hb⟩)
  go_ret3
  exact ⟨rfl, HE.out _ hb, only_of_below hb _⟩
theorem al_chain {lo g : Nat} {D : Dk} {w : World} (h : DkAt w lo g D) (G : Gl w) (hG : Good D) :
    Calls Tryz.prog 117 #[.pointer (some ⟨g, 0, none⟩), .string ⟨#[99, 104, 97, 105, 110]⟩] w (Did lo g D (headB D.st (joinedB (tx D.rs))) true true w) := by
  have HE : Hid (∀ w', Below w.heap.size w w' → DkTo w' lo g D) := hide (fun w' hb => h.to hb)
  obtain ⟨LA, ln, lc, RA, rn, rc, h1, h2⟩ := h
  have hl := h1.lt
  have c4 : w.cell? ⟨g, 4, none⟩ = some (.int .i64 D.st) := h1.cell 4
  have c5 : w.cell? ⟨g, 5, none⟩ = some (.slice RA rn rc) := h1.cell 5
  have HC := hide (i_ChainText (c := rc) hG.ch (h2.r.more (Nat.le_of_lt hl)) (by have := h2.r2; omega) hG.rw G.db)
  clear h1 h2 G hG
  go_enter Tryz.func117, Tryz.ntmps117
  go_wp2_with (go_at_call 9; refine HC.out.mono ?_; rintro e w1 ⟨rfl, hb⟩)
  go_ret3
  exact ⟨rfl, HE.out _ hb, only_of_below hb _⟩
theorem al_plan {lo g : Nat} {D : Dk} {w : World} (h : DkAt w lo g D) (G : Gl w) (hG : Good D) :
    Calls Tryz.prog 117 #[.pointer (some ⟨g, 0, none⟩), .string ⟨#[112, 108, 97, 110]⟩] w (Did lo g D (planS D.sz D.ac) true true w) := by
  have HE : Hid (∀ w', Below w.heap.size w w' → DkTo w' lo g D) := hide (fun w' hb => h.to hb)
  obtain ⟨LA, ln, lc, RA, rn, rc, h1, h2⟩ := h
  have hl := h1.lt
  have c6 : w.cell? ⟨g, 6, none⟩ = some (.int .i64 D.sz) := h1.cell 6
  have c7 : w.cell? ⟨g, 7, none⟩ = some (.int .i64 D.ac) := h1.cell 7
  have HC := hide (fun W => i_PlanText (w := W) hG.pl)
  clear h1 h2 G hG
  go_enter Tryz.func117, Tryz.ntmps117
  go_wp2_with (go_at_call 10; refine (HC.out _).mono ?_; rintro e w1 ⟨rfl, hb⟩)
  go_ret3
  exact ⟨rfl, HE.out _ hb, only_of_below hb _⟩
theorem al_failed {lo g : Nat} {D : Dk} {w : World} (h : DkAt w lo g D) (G : Gl w) (hG : Good D) :
    Calls Tryz.prog 117 #[.pointer (some ⟨g, 0, none⟩), .string ⟨#[102, 97, 105, 108, 101, 100]⟩] w (Did lo g D (numS (cntF D.lv : Int)) true true w) := by
  have HE : Hid (∀ w', Below w.heap.size w w' → DkTo w' lo g D) := hide (fun w' hb => h.to hb)
  obtain ⟨LA, ln, lc, RA, rn, rc, h1, h2⟩ := h
  have hl := h1.lt
  have c0 : w.cell? ⟨g, 0, none⟩ = some (.slice LA ln lc) := h1.cell 0
  have HC := hide (i_CountFailed (c := lc) (h2.l.more (Nat.le_of_lt hl)) (Nat.le_refl _) (by have := h2.l2; omega) hG.lv)
  have hc8 : cntF D.lv ≤ 8 := Nat.le_trans List.countP_le_length hG.l8
  have HD := hide (fun W => i_DecimalS (cntF D.lv : Int) (by omega) (by omega) W)
  clear h1 h2 G hG hc8
  go_enter Tryz.func117, Tryz.ntmps117
  go_wp2_with (first | (go_at_call 16; refine HC.out.mono ?_; rintro e w1 ⟨rfl, hb⟩) | (go_at_call 12; refine (HD.out _).mono ?_; rintro e w2 ⟨rfl, rfl⟩))
  go_ret3
  exact ⟨rfl, HE.out _ hb, only_of_below hb _⟩
theorem al_total {lo g : Nat} {D : Dk} {w : World} (h : DkAt w lo g D) (G : Gl w) (hG : Good D) (hf : ∀ k, k ≤ D.lv.length → fin .f32 (lfSum D.lv k) = true) :
    Calls Tryz.prog 117 #[.pointer (some ⟨g, 0, none⟩), .string ⟨#[116, 111, 116, 97, 108]⟩] w (Did lo g D (numT [lfSum D.lv D.lv.length]) true true w) := by
  have HE : Hid (∀ w', Below w.heap.size w w' → DkTo w' lo g D) := hide (fun w' hb => h.to hb)
  obtain ⟨LA, ln, lc, RA, rn, rc, h1, h2⟩ := h
  have hl := h1.lt
  have c0 : w.cell? ⟨g, 0, none⟩ = some (.slice LA ln lc) := h1.cell 0
  have hln : D.lv.length = ln := lives_len h2.l
  rw [hln] at hf ⊢
  have HC := hide (i_TimeOfTest (c := lc) (h2.l.more (Nat.le_of_lt hl)) (Nat.le_refl _) (by have := h2.l2; omega) hG.lv hf)
  have HW : Hid (Wf .f32 (lfSum D.lv ln)) := hide (lfSum_wf _ _)
  have HO := hide (fun W (hb : Below w.heap.size w W) => i_oneText (w := W) HW.out (G.below hb).db)
  clear h1 h2 G hG hf hln
  go_enter Tryz.func117, Tryz.ntmps117
  go_wp2_with (first | (go_at_call 17; refine HC.out.mono ?_; rintro e w1 ⟨rfl, hb⟩) | (go_at_call 140; refine (HO.out _ hb).mono ?_; rintro e w2 ⟨rfl, hb2⟩))
  go_ret3
  have hb3 := hb.trans (hb2.mono hb.size)
  exact ⟨rfl, HE.out _ hb3, only_of_below hb3 _⟩
theorem al_table {lo g : Nat} {D : Dk} {w : World} (h : DkAt w lo g D) (G : Gl w) (hG : Good D) :
    Calls Tryz.prog 117 #[.pointer (some ⟨g, 0, none⟩), .string ⟨#[116, 97, 98, 108, 101]⟩] w (Did lo g D (tabT D.lv) true true w) := by
  have HE : Hid (∀ w', Below w.heap.size w w' → DkTo w' lo g D) := hide (fun w' hb => h.to hb)
  obtain ⟨LA, ln, lc, RA, rn, rc, h1, h2⟩ := h
  have hl := h1.lt
  have c0 : w.cell? ⟨g, 0, none⟩ = some (.slice LA ln lc) := h1.cell 0
  have hln : D.lv.length = ln := lives_len h2.l
  have l8 := hG.l8
  have HC := hide (i_SurvivorTable (c := lc) (h2.l.more (Nat.le_of_lt hl)) (Nat.le_refl _) h2.l1 (by omega) hG.lv)
  have HT : Hid (∀ ys : List Nat, ys.map (cn .f32) = svL D.lv (fails (srt D.lv (ln - 1))) (fails (srt D.lv (ln - 1))).length → numT ys = tabT D.lv) := hide (fun ys hy => by rw [← hln] at hy; exact tabT_of hy)
  have hm : (fails (srt D.lv (ln - 1))).length ≤ 8 := by
    have h3 := fails_len (srt D.lv (ln - 1)) []
    rw [srt_len] at h3
    unfold fails
    simp only [List.length_nil] at h3
    omega
  have Hm := hide hm
  have HG := hide G
  clear h1 h2 G hG hln hm
  go_enter Tryz.func117, Tryz.ntmps117
  go_wp2_with (go_at_call 18; refine HC.out.mono ?_; rintro e w1 ⟨v, ys, rfl, hO, hy, hw, hb⟩)
  have HT2 := hide (HT.out ys hy)
  have HO : Hid (∃ A c, v = .slice A (fails (srt D.lv (ln - 1))).length c ∧ Reads w1 w1.heap.size 1 A (fails (srt D.lv (ln - 1))).length (fl .f32 ys)) := hide (by
    rcases hO with ho | ⟨b, rfl, h0, rfl⟩
    · obtain ⟨A, c, rfl⟩ := own_shape ho
      exact ⟨A, c, rfl, Reads.of_own ho⟩
    · rw [h0]; exact ⟨_, _, rfl, by simp [fl], fun h => absurd h (by omega)⟩)
  obtain ⟨A, c, rfl, hR⟩ := HO.out
  have HM := hide (i_manyText (c := c) hR hw (by have := Hm.out; omega) (HG.out.below hb).db)
  have HB := hide hb
  clear hO hy hw hR HO HT hb
  go_wp2_with (go_at_call 143; refine HM.out.mono ?_; rintro e w2 ⟨rfl, hb2⟩)
  go_ret3
  have hb3 := HB.out.trans (hb2.mono HB.out.size)
  exact ⟨by rw [← HT2.out]; rfl, HE.out _ hb3, only_of_below hb3 _⟩
theorem al_balance {lo g : Nat} {D : Dk} {w : World} (h : DkAt w lo g D) (G : Gl w) (hG : Good D) {n : Nat} (hst : D.st = (n : Int)) (hn : n * n = D.rs.length) (hw : Cw n D.rs) (wb : ∀ x ∈ balL D.rs n, Wf .f32 x) :
    Calls Tryz.prog 117 #[.pointer (some ⟨g, 0, none⟩), .string ⟨#[98, 97, 108, 97, 110, 99, 101]⟩] w (Did lo g D (numT (balL D.rs n)) true true w) := by
  have HE : Hid (∀ w', Below w.heap.size w w' → DkTo w' lo g D) := hide (fun w' hb => h.to hb)
  obtain ⟨LA, ln, lc, RA, rn, rc, h1, h2⟩ := h
  have hl := h1.lt
  have c4 : w.cell? ⟨g, 4, none⟩ = some (.int .i64 (n : Int)) := by have := h1.cell 4; rw [← hst]; exact this
  have c5 : w.cell? ⟨g, 5, none⟩ = some (.slice RA rn rc) := h1.cell 5
  have hrn : D.rs.length = rn := h2.r.map_len
  have HC := hide (i_BalanceOf (c := rc) (h2.r.more (Nat.le_of_lt hl)) (by omega) h2.rc hw)
  have n4 := hw.n4
  have Hwb := hide wb
  have HG := hide G
  clear h1 h2 G hG hrn hw wb hn
  go_enter Tryz.func117, Tryz.ntmps117
  go_wp2_with (go_at_call 20; refine HC.out.mono ?_; rintro e w1 ⟨v, rfl, hO, hb⟩)
  obtain ⟨A, c, rfl⟩ := own_shape hO
  have HM := hide (i_manyText (c := c) (Reads.of_own hO) Hwb.out (by omega) (HG.out.below hb).db)
  have HB := hide hb
  clear hO hb
  go_wp2_with (go_at_call 143; refine HM.out.mono ?_; rintro e w2 ⟨rfl, hb2⟩)
  go_ret3
  have hb3 := HB.out.trans (hb2.mono HB.out.size)
  exact ⟨rfl, HE.out _ hb3, only_of_below hb3 _⟩
theorem al_totals {lo g : Nat} {D : Dk} {w : World} (h : DkAt w lo g D) (G : Gl w) (hG : Good D) :
    Calls Tryz.prog 117 #[.pointer (some ⟨g, 0, none⟩), .string ⟨#[116, 111, 116, 97, 108, 115]⟩] w (Did lo g D (⟨#[]⟩) false false w) := by
  have HE : Hid (∀ w', Below w.heap.size w w' → DkTo w' lo g D) := hide (fun w' hb => h.to hb)
  obtain ⟨LA, ln, lc, RA, rn, rc, h1, h2⟩ := h
  have hl := h1.lt
  clear h1 h2 G hG
  go_enter Tryz.func117, Tryz.ntmps117
  go_wp2
  go_ret3
  exact ⟨rfl, HE.out _ (Below.refl _ _), only_of_below (Below.refl _ _) _⟩
theorem al_order {lo g : Nat} {D : Dk} {w : World} (h : DkAt w lo g D) (G : Gl w) (hG : Good D) :
    Calls Tryz.prog 117 #[.pointer (some ⟨g, 0, none⟩), .string ⟨#[111, 114, 100, 101, 114]⟩] w (Did lo g { D with lv := srt D.lv (D.lv.length - 1) } ⟨#[111, 107]⟩ true true w) := by
  obtain ⟨LA, ln, lc, RA, rn, rc, h1, h2⟩ := h
  have hl := h1.lt
  have c0 : w.cell? ⟨g, 0, none⟩ = some (.slice LA ln lc) := h1.cell 0
  have hln : D.lv.length = ln := lives_len h2.l
  have l8 := hG.l8
  have HC := hide (i_OrderLives (c := lc) (h2.l.more (Nat.le_of_lt hl)) (Nat.le_refl _) h2.l1 (by omega) hG.lv)
  rw [hln]
  have H1 := hide h1
  have H2 := hide h2
  clear h1 h2 G hG hln
  go_enter Tryz.func117, Tryz.ntmps117
  go_wp2_with (go_at_call 24; refine HC.out.mono ?_; rintro e w1 ⟨g2, cap, rfl, hg2, hR, hb⟩; have HB1 := hide (H1.out.below hb hl); have c0' : w1.cell? ⟨g, 0, none⟩ = some (.slice LA ln lc) := HB1.out.cell 0; have f0 : w1.frozen? ⟨g, 0, none⟩ = false := HB1.out.frozen 0)
  go_ret3
  have hz := hb.size
  refine ⟨rfl, ⟨some ⟨g2, 0, none⟩, ln, cap, RA, rn, rc, HB1.out.set_ 0 _, ⟨?_, ?_, H2.out.l1, H2.out.l2, H2.out.r1, H2.out.r2, H2.out.rc, fun ad e => by (injection e with e; subst e; have := H2.out.lo_le; exact ⟨show lo ≤ g2 by omega, (BT.row hR).setCell _ _⟩), fun ad e => ⟨(H2.out.ra ad e).1, ((H2.out.ra ad e).2.kept (hb.block ad.block (by have := (H2.out.ra ad e).2.lt; omega))).setCell _ _⟩⟩⟩, only_setCell (only_of_below hb (some g)) (.inl rfl) _⟩
  · have := rowL_reads (hR.farg (p := ⟨g, 0, none⟩) (by simp; omega) (.slice (some ⟨g2, 0, none⟩) ln cap))
    exact this
  · have := ((H2.out.r.below (hb.mono (by omega))).setCell (p := ⟨g, 0, none⟩) (Nat.le_refl _) (.slice (some ⟨g2, 0, none⟩) ln cap)).more (B' := (w1.setCell ⟨g, 0, none⟩ (.slice (some ⟨g2, 0, none⟩) ln cap)).heap.size) (by rw [World.size_setCell]; omega)
    exact this
end Go.Proofs.YtjmpldcnhjgpkaaGreatDoor
