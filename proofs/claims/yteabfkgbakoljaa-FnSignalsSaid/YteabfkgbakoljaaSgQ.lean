/-
  Cepstra of signals that the laws draw, both sides, and lists that are compared with themselves.
-/
import Derived.Test.YteabfkgbakoljaaSgS
import Derived.Test.YteabfkgbakoljaaPhZ
import Derived.Test.YteabfkgbakoljaaGaB
import Derived.Test.YteabfkgbakoljaaSlT
import Derived.BigQuiet
import Derived.Deep.QuietTactic
namespace Go.Proofs.Yteabfkgbakoljaa
open Go.RowKit Mem Fl
set_option linter.unusedVariables false
set_option maxRecDepth 100000

def ceL (L : List (Nat × Nat)) : List (Nat × Nat) := L.map fun q => (lgW q, 0)
def ceT (L : List (Nat × Nat)) (m : Nat) : List (Nat × Nat) := (ceL L).take m
theorem ceL_len (L : List (Nat × Nat)) : (ceL L).length = L.length := by simp [ceL]
theorem ceL_sl {n : Nat} {L : List (Nat × Nat)} (hn : n < 21) (h : BnL n L) : SlL (ceL L) := by
  intro q hq
  obtain ⟨p, hp, rfl⟩ := List.mem_map.1 hq
  obtain ⟨_, _, _, hs⟩ := lg_told (q := p) (bn_pm hn (h p hp).1) (bn_pm hn (h p hp).2)
  exact ⟨hs, bn_sl hn (bn_zero n)⟩
theorem ceL_at {L : List (Nat × Nat)} {k : Nat} {q : Nat × Nat} (h : L[k]? = some q) : (ceL L)[k]? = some (lgW q, 0) := by
  unfold ceL; rw [List.getElem?_map, h]; rfl
/-- The lines while they are written over. -/
def mixL (L : List (Nat × Nat)) (k : Nat) : List (Nat × Nat) := (ceL L).take k ++ L.drop k
theorem mixL_0 (L : List (Nat × Nat)) : mixL L 0 = L := by simp [mixL]
theorem mixL_end (L : List (Nat × Nat)) : mixL L L.length = ceL L := by
  unfold mixL
  rw [List.take_of_length_le (by rw [ceL_len]; exact Nat.le_refl _), List.drop_length, List.append_nil]
theorem mixL_at {L : List (Nat × Nat)} {k : Nat} {q : Nat × Nat} (h : L[k]? = some q) : (mixL L k).getD k (0, 0) = q := by
  have hk := (List.getElem?_eq_some_iff.1 h).1
  unfold mixL
  rw [List.getD_eq_getElem?_getD, List.getElem?_append_right (by rw [List.length_take, ceL_len]; omega), List.length_take, ceL_len, Nat.min_eq_left (by omega), Nat.sub_self, List.getElem?_drop, Nat.add_zero, h]
  rfl
theorem mixL_set {L : List (Nat × Nat)} {k : Nat} {q : Nat × Nat} (h : L[k]? = some q) : (mixL L k).set k (lgW q, 0) = mixL L (k + 1) := by
  have hk := (List.getElem?_eq_some_iff.1 h).1
  have ht : ((ceL L).take k).length = k := by rw [List.length_take, ceL_len]; omega
  unfold mixL
  rw [List.set_append_right _ _ (by omega), ht, Nat.sub_self, take_eq (ceL_at h), List.append_assoc]
  congr 1
  have hd : L.drop k = q :: L.drop (k + 1) := by
    rw [List.drop_eq_getElem_cons hk]
    congr 1
    exact (List.getElem?_eq_some_iff.1 h).2
  rw [hd]; rfl
theorem half_pos : pos 1056964608 = true := by decide +kernel
/-- What a round takes of a line. -/
theorem lg_words {n : Nat} {L : List (Nat × Nat)} (hn : n < 21) (h : BnL n L) {q : Nat × Nat} (hq : q ∈ L) : (Sm q.1 ∧ Sm q.2) ∧ ((∀ W, flR .add .f32 (pwV q.1 q.2) 1056964608 W = lgX q) ∧ flN .add .f32 (pwV q.1 q.2) 1056964608 = 0) ∧ lgX q ≤ 2139095040 ∧ lgX q ≠ 0 ∧ fin .f32 (lgW q) = true := by
  have h1 := bn_pm hn (h q hq).1
  have h2 := bn_pm hn (h q hq).2
  obtain ⟨a, b, c, d⟩ := lg_told (q := q) h1 h2
  exact ⟨⟨pm_sm (by grind) h1, pm_sm (by grind) h2⟩, ⟨fun W => flR_num (fin_n32 a) W, flN_num (fin_n32 a)⟩, b, c, d.1⟩
set_option maxHeartbeats 4000000 in
theorem s_CepstrumOf {A : Option Addr} {n c : Nat} {xs : List Nat} {w : World} (h : Reads w w.heap.size 1 A n (fl .f32 xs)) (hs : Sg xs) (hn : n < 21) :
    Calls Try.prog 52 #[.slice A n c, .float .f32 1056964608] w fun e w' => ∃ v, e = .returned (.tuple #[v, .bool true]) ∧ w'.ownsRow w.heap.size 27 1 v n (fl .f32 (bkL n (ceL (slL xs (n / 2 + 1))) n)) ∧ Below w.heap.size w w' := by
  have hl := h.map_len
  have l1 := hs.l1
  rw [hl] at l1
  obtain ⟨hsm, hok⟩ := lines_sm hs
  have hbn := lines_bn hs (by rw [hl]; exact hn)
  rw [hl] at hsm hbn
  have hLl := slL_len xs (n / 2 + 1)
  have hV : slV xs = slL xs (n / 2 + 1) := by unfold slV; rw [if_pos hok, hl]
  obtain ⟨L, hL⟩ : ∃ L, slL xs (n / 2 + 1) = L := ⟨_, rfl⟩
  rw [hL] at hsm hV hLl hbn ⊢
  obtain ⟨m, hm⟩ : ∃ m, n / 2 = m := ⟨_, rfl⟩
  have hm2 : m ≤ 10 := by omega
  have HCS := hide (ceL_sl hn hbn)
  have HLW : Hid (∀ q, q ∈ L → _) := hide (fun q hq => lg_words (n := n) (L := L) hn hbn hq)
  have hall : (ceT L (m + 1)).all cfp = true := by
    unfold ceT
    rw [List.take_of_length_le (by rw [ceL_len]; omega)]
    exact sl_all (ceL_sl hn hbn)
  have HF := hide hall
  have Hm := hide hm
  have HLl := hide hLl
  clear hL hl hbn hall
  go_enter Try.func52, Try.ntmps52
  go_wp2_with fail
  refine (s_SignalLines h (by unfold maxLen; omega)).mono ?_
  rintro e w1 ⟨v, zs, rfl, ho, hzs, hb1⟩
  rw [hok]
  have hz : zs = L := told_lines (by rw [hzs.out, hV]) hsm
  rw [hz, hLl, hm] at ho
  obtain ⟨g, cp, rfl⟩ := own_addr ho (by omega)
  have hRD := Reads.of_own ho
  have hsz1 := hb1.size
  clear hzs hz hV hok hs ho h hsm hLl hm
  go_wp2_with fail
  refine (s_l02Above _ _).mono ?_
  rintro e w' ⟨rfl, q0, rfl⟩
  rw [half_pos]
  obtain ⟨w2, hw2⟩ : ∃ w2, w1.drewN q0 = w2 := ⟨_, rfl⟩
  have hb2 : Below w.heap.size w w2 := by rw [← hw2]; exact below_drewN hb1 q0
  have hRD2 : Reads w2 w2.heap.size 1 (some ⟨g, 0, none⟩) (m + 1) (cl L) := by rw [← hw2]; exact hRD.drewN q0
  rw [hw2]
  have hsz2 := hb2.size
  clear hw2 hRD hb1 hsz1
  have bel0 : Below w.heap.size w (w2.alloc (.cells #[] 68)) := hb2.alloc hsz2 _
  go_wp2_with fail
  go_loopw [8, 25] (fun v i wr => ∃ k : Nat, k ≤ m + 1 ∧ i = .int .i64 (k : Int) ∧ Hid (wr.ownsRow w2.heap.size 68 1 v k (cl (ceT L k))) ∧ Below w2.heap.size w2 wr ∧ Below w.heap.size w wr) (fun _ i _ => m + 1 - (intOf i).toNat)
  case atStart => exact ⟨0, Nat.zero_le _, rfl, hide (own_emp rfl (Nat.le_refl _)), (Below.refl _ _).alloc (Nat.le_refl _) _, bel0⟩
  case round =>
    clear bel0
    obtain ⟨k, hk, rfl, Hown, hbel, hbw⟩ := hrel
    rename World => wo
    have hsz := hbel.size
    by_cases hlt : k < m + 1
    · have hlt' : (k : Int) < (m : Int) + 1 := by omega
      obtain ⟨ad, x, hA, _, hx, hc⟩ := (hRD2.below hbel).map_at hlt
      injection hA with hA
      subst hA
      rw [Addr.add_lit, Nat.zero_add] at hc
      obtain ⟨s1, ⟨s2, s2n⟩, s3, s4, s5⟩ := HLW.out x (List.mem_of_getElem? hx)
      have HP := hide (And.intro s1 (And.intro s3 (And.intro s4 s5)))
      have HE : Hid (ceT L (k + 1) = ceT L k ++ [(lgW x, 0)]) := hide (take_eq (ceL_at hx))
      clear s1 s3 s4 s5 hx
      go_wp2_with (first
        | (go_at_call 91; refine (s_l01Power HP.out.1.1 HP.out.1.2).mono ?_; rintro e w' ⟨rfl, m1, rfl⟩)
        | (go_at_call 104; refine (s_l01Log HP.out.2.1 HP.out.2.2.1).mono ?_; rintro e w' ⟨z, rfl, hz, m2, rfl⟩; rw [word_told hz.out HP.out.2.2.2])
        | (at_builtin; refine wpList_append1 rfl (.tmp 28) (.tmp 38) 60 rfl w2.heap.size 68 (.complex .f32 0 0) _ 8 info_c64 Try.underlying60 rfl rfl _ _ _ rfl (own_drewN Hown.out _) rfl rfl (by omega) (by omega) (by simp; omega) ?_))
      intro v' w' hown' hb'
      have hbel' := (below_drewN hbel _).trans hb'
      have hbw' := (below_drewN hbw _).trans (hb'.mono hsz2)
      have HO := hide (own_snocC hown')
      clear hown' hb'
      go_wp2
      go_roundw
      case rel => exact ⟨k + 1, by omega, by go_num, hide (by rw [HE.out]; exact HO.out), hbel', hbw'⟩
      case measure => simp [intOf]; omega
    · obtain rfl : k = m + 1 := by omega
      obtain ⟨OA, oc, hov⟩ := own_shape Hown.out
      subst hov
      have hR2 := Reads.of_own Hown.out
      have hE : ceT L (m + 1) = ceL L := List.take_of_length_le (by rw [ceL_len, HLl.out, Hm.out]; omega)
      have HC : Hid (∀ q : Nat, Calls Try.prog 106 #[.slice OA (m + 1) oc, .int .i64 (n : Int)] (wo.drewN q) fun e w' => ∃ v, e = .returned (.tuple #[v, .bool true]) ∧ w'.ownsRow wo.heap.size 27 1 v n (fl .f32 (bkL n (ceL L) n)) ∧ Below wo.heap.size (wo.drewN q) w') := hide (fun q => by
        have := s_SignalOfLines (n := n) (L := ceL L) (c := oc) (A := OA) (w := wo.drewN q) (by rw [Hm.out, ← hE]; exact hR2.drewN q) HCS.out (by omega) hn
        rwa [Hm.out] at this)
      clear hE
      go_wp2_with (first
        | (go_at_call 105; refine (s_l02CFinite hR2 (by unfold maxLen; omega)).mono ?_; rintro e w' ⟨rfl, m', rfl⟩; rw [HF.out])
        | (go_at_call 106; refine (HC.out _).mono ?_; rintro e w4 ⟨v4, rfl, ho4, hb4⟩))
      go_ret2
      exact ⟨_, rfl, own_up ho4 hbw.size, (below_drewN hbw _).trans (hb4.mono hbw.size)⟩
set_option maxHeartbeats 4000000 in
theorem i_CepstrumOf {A : Option Addr} {n c : Nat} {xs : List Nat} {w : World} (h : Reads w w.heap.size 1 A n (fl .f32 xs)) (hs : Sg xs) (hn : n < 21) :
    Calls Try.prog 50 #[.slice A n c, .float .f32 1056964608] w fun e w' => ∃ v, e = .returned (.tuple #[v, .bool true]) ∧ w'.ownsRow w.heap.size 27 1 v n (fl .f32 (bkL n (ceL (slL xs (n / 2 + 1))) n)) ∧ Below w.heap.size w w' := by
  have hl := h.map_len
  have l1 := hs.l1
  rw [hl] at l1
  obtain ⟨hsm, hok⟩ := lines_sm hs
  have hbn := lines_bn hs (by rw [hl]; exact hn)
  rw [hl] at hsm hbn
  have hLl := slL_len xs (n / 2 + 1)
  have hV : slV xs = slL xs (n / 2 + 1) := by unfold slV; rw [if_pos hok, hl]
  obtain ⟨L, hL⟩ : ∃ L, slL xs (n / 2 + 1) = L := ⟨_, rfl⟩
  rw [hL] at hsm hV hLl hbn ⊢
  obtain ⟨m, hm⟩ : ∃ m, n / 2 = m := ⟨_, rfl⟩
  have hm2 : m ≤ 10 := by omega
  have HCS := hide (ceL_sl hn hbn)
  have HLW : Hid (∀ q, q ∈ L → _) := hide (fun q hq => lg_words (n := n) (L := L) hn hbn hq)
  have HLA : Hid (∀ k, k < m + 1 → ∃ q, L[k]? = some q) := hide (fun k hk => ⟨_, List.getElem?_eq_getElem (by omega)⟩)
  have Hm := hide hm
  have HLl := hide hLl
  clear hL hl hbn
  go_enter Try.func50, Try.ntmps50
  go_wp2_with fail
  refine (i_SignalLines h (by unfold maxLen; omega)).mono ?_
  rintro e w1 ⟨v, zs, rfl, ho, hzs, hb1⟩
  rw [hok]
  have hz : zs = L := told_lines (by rw [hzs.out, hV]) hsm
  rw [hz, hLl, hm] at ho
  obtain ⟨g, cp, rfl, hcp, hg, hR⟩ := rowC_of_own ho (by omega)
  have hsz1 := hb1.size
  clear hzs hz hV hok hs ho h hsm hLl hm
  go_wp2_with fail
  refine (i_areMore1 _ _ _ _ (by simp)).mono ?_
  rintro e w' ⟨rfl, q0, rfl⟩
  rw [half_pos]
  have hR2 := (hR.below ((Below.refl w1.heap.size w1).alloc (Nat.le_refl _) (.cells #[.float .f32 1056964608] 27))).drewN q0
  have hb2 := below_drewN (hb1.alloc hsz1 (.cells #[.float .f32 1056964608] 27)) q0
  obtain ⟨w2, hw2⟩ : ∃ w2, (w1.alloc (.cells #[.float .f32 1056964608] 27)).drewN q0 = w2 := ⟨_, rfl⟩
  rw [hw2] at hR2 hb2 ⊢
  have HR := hide hR2
  clear hw2 hR hR2 hb1 hsz1
  go_wp2_with fail
  go_loopw [25] (fun i wr => ∃ k : Nat, k ≤ m + 1 ∧ i = .int .i64 (k : Int) ∧ Hid (RowC wr g (m + 1) (mixL L k)) ∧ Below w.heap.size w wr) (fun i _ => m + 1 - (intOf i).toNat)
  case atStart => exact ⟨0, Nat.zero_le _, rfl, hide (by rw [mixL_0]; exact HR.out), hb2⟩
  case round =>
    clear hb2 HR
    obtain ⟨k, hk, rfl, HRk, hbw⟩ := hrel
    rename World => wo
    by_cases hlt : k < m + 1
    · have hlt' : (k : Int) < (m : Int) + 1 := by omega
      obtain ⟨x, hx⟩ := HLA.out k hlt
      have hc := HRk.out.cell hlt
      rw [mixL_at hx] at hc
      have hfz := HRk.out.frozen k
      obtain ⟨s1, ⟨s2, s2n⟩, s3, s4, s5⟩ := HLW.out x (List.mem_of_getElem? hx)
      have HP := hide (And.intro s1 (And.intro s3 (And.intro s4 s5)))
      have HE : Hid (∀ q : Nat, RowC ((wo.drewN q).setCell ⟨g, k, none⟩ (.complex .f32 (lgW x) 0)) g (m + 1) (mixL L (k + 1))) := hide (fun q => by
        have := (HRk.out.drewN q).put hlt (lgW x, 0)
        rwa [mixL_set hx] at this)
      clear s1 s3 s4 s5 hx
      go_wp2_with (first
        | (go_at_call 103; refine (i_PowerOf HP.out.1.1 HP.out.1.2).mono ?_; rintro e w' ⟨rfl, m1, rfl⟩)
        | (go_at_call 68; refine (i_LogNumber HP.out.2.1 HP.out.2.2.1).mono ?_; rintro e w' ⟨z, rfl, hz, m2, rfl⟩; rw [word_told hz.out HP.out.2.2.2]))
      go_roundw
      case rel => exact ⟨k + 1, by omega, by go_num, hide (HE.out _), (below_drewN hbw _).setCell (p := ⟨g, k, none⟩) hg _⟩
      case measure => simp [intOf]; omega
    · obtain rfl : k = m + 1 := by omega
      have hE : mixL L (m + 1) = ceL L := by
        have : m + 1 = L.length := by rw [HLl.out, Hm.out]
        rw [this, mixL_end]
      have HC : Hid (Calls Try.prog 41 #[.slice (some ⟨g, 0, none⟩) (m + 1) cp, .int .i64 (n : Int)] wo fun e w' => ∃ v, e = .returned (.tuple #[v, .bool true]) ∧ w'.ownsRow wo.heap.size 27 1 v n (fl .f32 (bkL n (ceL L) n)) ∧ Below wo.heap.size wo w') := hide (by
        have := i_SignalOfLines (n := n) (L := ceL L) (c := cp) (A := some ⟨g, 0, none⟩) (w := wo) (by rw [Hm.out, ← hE]; exact HRk.out.reads HRk.out.lt) HCS.out (by omega) hn
        rwa [Hm.out] at this)
      clear hE
      go_wp2_with fail
      refine HC.out.mono ?_
      rintro e w4 ⟨v4, rfl, ho4, hb4⟩
      have hb5 := hbw.trans (hb4.mono hbw.size)
      have ho5 := own_up ho4 hbw.size
      clear ho4 hb4
      go_wp2_with fail
      go_ret2
      exact ⟨_, rfl, ho5, hb5⟩
end Go.Proofs.Yteabfkgbakoljaa

/-
  Peaks of cepstra, powers of one band, lines at no turns, lists compared with themselves: walks, and the plain facts that the law asks of them.
-/
namespace Go.Proofs.Yteabfkgbakoljaa
open Go.RowKit Mem Fl
set_option linter.unusedVariables false
set_option maxRecDepth 100000

set_option maxHeartbeats 1000000 in
theorem l_b10ListN {A A' : Option Addr} {c c' B B' n : Nat} {xs : List Nat} {w : World} (h : Reads w B 1 A n (fl .f32 xs)) (h' : Reads w B' 1 A' n (fl .f32 xs)) (hn : n < 100) (hw : ∀ x ∈ xs, Wf .f32 x) :
    Calls Try.prog 39 #[.slice A n c, .slice A' n c'] w fun e w' => e = .returned (.bool true) ∧ ∃ m, w' = w.drewN m := by
  have HC : Hid (∀ i, i < n → ∃ ad ae z, A = some ad ∧ A' = some ae ∧ Wf .f32 z ∧ w.cell? (ad.add i) = some (.float .f32 z) ∧ w.cell? (ae.add i) = some (.float .f32 z)) := hide (fun i hi => by
    obtain ⟨ad, u, e, _, hu, hc⟩ := h.map_at hi
    obtain ⟨ae, u', e', _, hu', hc'⟩ := h'.map_at hi
    rw [hu] at hu'
    injection hu' with hu'
    subst hu'
    exact ⟨ad, ae, u, e, e', hw u (List.mem_of_getElem? hu), hc, hc'⟩)
  clear hw h h'
  go_enter Try.func39, Try.ntmps39
  go_wp2
  go_loopw [13] (fun v13 wr => ∃ i q : Nat, i ≤ n ∧ v13 = .int .i64 (i : Int) ∧ wr = w.drewN q) (fun v13 _ => n - (intOf v13).toNat)
  case atStart => exact ⟨0, 0, by omega, rfl, rfl⟩
  case round =>
    obtain ⟨i, q, hi, rfl, rfl⟩ := hrel
    by_cases i2 : i < n
    · have iI : (i : Int) < (n : Int) := by omega
      obtain ⟨ad, ae, z, rfl, rfl, wz, k1, k2⟩ := HC.out i i2
      have WZ := hide wz
      clear wz
      have j1 : (w.drewN q).cell? (ad.add i) = some (.float .f32 z) := k1
      have j2 : (w.drewN q).cell? (ae.add i) = some (.float .f32 z) := k2
      obtain ⟨wq, hwq⟩ : ∃ wq, w.drewN q = wq := ⟨_, rfl⟩
      have HWq := hide hwq
      rw [hwq] at j1 j2 ⊢
      clear hwq k1 k2
      go_wp2
      go_quiet ((go_at_call 53; exact Calls.quiet_of_same (s_SameNumber WZ.out)))
      go_wp2
      go_roundw
      case rel => exact ⟨i + 1, _, by omega, by go_num, by rw [← HWq.out, World.drewN_drewN]⟩
      case measure => simp [intOf]; omega
    · have iI : ¬ (i : Int) < (n : Int) := by omega
      go_wp2
      go_ret
      exact ⟨rfl, _, rfl⟩
/-- The place of the greatest of the first numbers. -/
def bestI (xs : List Nat) : Nat → Nat
  | 0 => 0
  | i + 1 => if (FloatKind.f32.format.order (xs.getD i 0) (xs.getD (bestI xs i) 0) == some .gt) = true then i else bestI xs i
theorem bestI_lt (xs : List Nat) : ∀ i, bestI xs i ≤ i - 1
  | 0 => Nat.le_refl _
  | i + 1 => by
    have := bestI_lt xs i
    unfold bestI
    split <;> omega
theorem best_all {xs : List Nat} (hf : ∀ k, fin .f32 (xs.getD k 0) = true) : ∀ i k, k < i → fv .f32 (xs.getD k 0) ≤ fv .f32 (xs.getD (bestI xs i) 0) ∧ (k < bestI xs i → fv .f32 (xs.getD k 0) < fv .f32 (xs.getD (bestI xs i) 0))
  | 0, k, h => absurd h (Nat.not_lt_zero _)
  | i + 1, k, h => by
    have hb := bestI_lt xs i
    unfold bestI
    rw [ord_gt (hf i) (hf _)]
    by_cases hg : fv .f32 (xs.getD (bestI xs i) 0) < fv .f32 (xs.getD i 0)
    · rw [if_pos (decide_eq_true hg)]
      rcases Nat.lt_or_ge k i with h1 | h1
      · obtain ⟨a, b⟩ := best_all hf i k h1
        exact ⟨by grind, fun _ => by grind⟩
      · obtain rfl : k = i := by omega
        exact ⟨Rat.le_refl, fun h => absurd h (Nat.lt_irrefl _)⟩
    · rw [if_neg (fun h => hg (of_decide_eq_true h))]
      rcases Nat.lt_or_ge k i with h1 | h1
      · exact best_all hf i k h1
      · obtain rfl : k = i := by omega
        exact ⟨by grind, fun h => by omega⟩
set_option maxHeartbeats 4000000 in
theorem i_CepstrumPeak {A : Option Addr} {n c m : Nat} {xs : List Nat} {w : World} (h : Reads w w.heap.size 1 A n (fl .f32 xs)) (hs : Sg xs) (hn : n < 21) (hm : m + 1 = n) :
    Calls Try.prog 51 #[.slice A n c, .float .f32 1056964608, .int .i64 0, .int .i64 (m : Int)] w fun e w' => e = .returned (.tuple #[.int .i64 (bestI (bkL n (ceL (slL xs (n / 2 + 1))) n) n : Int), .float .f32 ((bkL n (ceL (slL xs (n / 2 + 1))) n).getD (bestI (bkL n (ceL (slL xs (n / 2 + 1))) n) n) 0), .bool true]) ∧ Below w.heap.size w w' := by
  have HC := hide (i_CepstrumOf (c := c) h hs hn)
  have hl : (bkL n (ceL (slL xs (n / 2 + 1))) n).length = n := bkL_len _ _ _
  obtain ⟨R, hR⟩ : ∃ R, bkL n (ceL (slL xs (n / 2 + 1))) n = R := ⟨_, rfl⟩
  rw [hR] at HC hl ⊢
  have HB : Hid (∀ i, i ≤ n → bestI R i ≤ i - 1) := hide (fun i _ => bestI_lt R i)
  have Hl := hide hl
  have hin1 : inB (m : Int) 0 ((n : Int) - 1) = true := by simp [inB]; omega
  have hin2 : inB 0 0 (m : Int) = true := by simp [inB]
  have HI := hide (And.intro hin1 hin2)
  have hmn : m < n := by omega
  have HM := hide hm
  clear hR hs h hin1 hin2 hl hm
  go_enter Try.func51, Try.ntmps51
  go_wp2_with fail
  refine HC.out.mono ?_
  rintro e w1 ⟨v, rfl, ho, hb1⟩
  obtain ⟨g, cp, rfl⟩ := own_addr ho (by omega)
  have HX : Hid (∀ k, k < n → w1.cell? ⟨g, k, none⟩ = some (.float .f32 (R.getD k 0))) := hide (fun k hk => by
    obtain ⟨ad, x, hA, _, hx, hc⟩ := (Reads.of_own ho).map_at hk
    injection hA with hA
    subst hA
    rw [Addr.add_lit, Nat.zero_add] at hc
    rw [hc, List.getD_eq_getElem?_getD, hx]; rfl)
  have HBl := hide hb1
  clear ho HC hb1
  go_wp2_with fail
  refine (i_within _ _ _ _).mono ?_
  rintro e w' ⟨rfl, rfl⟩
  rw [HI.out.1]
  go_wp2_with fail
  refine (i_within _ _ _ _).mono ?_
  rintro e w' ⟨rfl, rfl⟩
  rw [HI.out.2]
  go_wp2_with fail
  go_loopw [13, 14] (fun b i wr => ∃ k q : Nat, k ≤ m + 1 ∧ i = .int .i64 (k : Int) ∧ b = .int .i64 (bestI R k : Int) ∧ wr = w1.drewN q) (fun _ i _ => m + 1 - (intOf i).toNat)
  case atStart => exact ⟨0, 0, Nat.zero_le _, rfl, rfl, rfl⟩
  case round =>
    obtain ⟨k, q, hk, rfl, rfl, hwr⟩ := hrel
    rename World => wr
    by_cases hlt : k < m + 1
    · have hlt' : (k : Int) ≤ (m : Int) := by omega
      have hb : bestI R k < n := by have := HB.out k (by omega); omega
      have hc1 : wr.cell? ⟨g, k, none⟩ = some (.float .f32 (R.getD k 0)) := by rw [hwr]; exact HX.out k (by omega)
      have hc2 : wr.cell? ⟨g, bestI R k, none⟩ = some (.float .f32 (R.getD (bestI R k) 0)) := by rw [hwr]; exact HX.out _ hb
      have HE : Hid (bestI R (k + 1) = if (FloatKind.f32.format.order (R.getD k 0) (R.getD (bestI R k) 0) == some .gt) = true then k else bestI R k) := hide rfl
      have Hwr := hide hwr
      obtain ⟨X, hX⟩ : ∃ X, R.getD k 0 = X := ⟨_, rfl⟩
      obtain ⟨Y, hY⟩ : ∃ Y, R.getD (bestI R k) 0 = Y := ⟨_, rfl⟩
      obtain ⟨b, hbe⟩ : ∃ b, bestI R k = b := ⟨_, rfl⟩
      rw [hX] at hc1 HE
      rw [hY] at hc2 HE
      rw [hbe] at hc2 HE hb ⊢
      clear hX hY hbe hwr
      have kn : k < n := by omega
      have knI : (k : Int) < (n : Int) := by omega
      have bI : (b : Int) < (n : Int) := by omega
      cases ho : (FloatKind.f32.format.order X Y == some .gt) with
      | true =>
        have HE2 : Hid (bestI R (k + 1) = k) := hide (by rw [HE.out, if_pos ho])
        clear HE
        go_wp2
        go_quiet (fail)
        go_wp2
        go_roundw
        case rel => exact ⟨k + 1, _, by omega, by go_num, by rw [HE2.out], by rw [Hwr.out, World.drewN_drewN]⟩
        case measure => simp [intOf]; omega
      | false =>
        have HE2 : Hid (bestI R (k + 1) = b) := hide (by rw [HE.out, if_neg (by rw [ho]; decide)])
        clear HE
        go_wp2
        go_quiet (fail)
        go_wp2
        go_roundw
        case rel => exact ⟨k + 1, _, by omega, by go_num, by rw [HE2.out], by rw [Hwr.out, World.drewN_drewN]⟩
        case measure => simp [intOf]; omega
    · obtain rfl : k = m + 1 := by omega
      have hb : bestI R (m + 1) < n := by have := HB.out (m + 1) (by omega); omega
      have hc2 : wr.cell? ⟨g, bestI R (m + 1), none⟩ = some (.float .f32 (R.getD (bestI R (m + 1)) 0)) := by rw [hwr]; exact HX.out _ hb
      have HE : Hid (bestI R n = bestI R (m + 1)) := hide (by rw [HM.out])
      have Hwr := hide hwr
      obtain ⟨Y, hY⟩ : ∃ Y, R.getD (bestI R (m + 1)) 0 = Y := ⟨_, rfl⟩
      rw [hY] at hc2
      obtain ⟨b, hbe⟩ : ∃ b, bestI R (m + 1) = b := ⟨_, rfl⟩
      rw [hbe] at hc2 hb hY HE ⊢
      have HY := hide hY
      have bI : (b : Int) < (n : Int) := by omega
      clear hY hbe hwr
      go_wp2
      go_quiet (fail)
      go_wp2
      go_ret3
      exact ⟨by rw [HE.out, HY.out]; rfl, below_drewN (by rw [Hwr.out]; exact below_drewN HBl.out q) _⟩
end Go.Proofs.Yteabfkgbakoljaa

/-
  What the law of signals asks of powers, lines at no turns, envelopes and places: walks and plain facts.
-/
namespace Go.Proofs.Yteabfkgbakoljaa
open Go.RowKit Mem Fl
set_option linter.unusedVariables false
set_option maxRecDepth 100000

theorem c_areMany {A : Option Addr} {n c B : Nat} {xs : List Int} {a b lo hi : Int} {w : World} (h : Reads w B 1 A n (il xs)) (hB : B ≤ w.heap.size) (hn : n ≤ 1000) (hq : inB n a b = true) (hx : xs.all (fun x => inB x lo hi) = true) :
    Calls Try.prog 75 #[.slice A n c, .int .i64 a, .int .i64 b, .int .i64 lo, .int .i64 hi] w fun e w' => e = .returned (.bool true) ∧ Below w.heap.size w w' := by
  go_enter Try.func75, Try.ntmps75
  go_wp2_with (first | (go_at_call 59; refine (i_within _ _ _ _).mono ?_; rintro e w' ⟨rfl, rfl⟩; rw [hq]) | (go_at_call 117; refine (i_areWithin h hB (by unfold maxLen; omega)).mono ?_; rintro e w' ⟨rfl, hb⟩; rw [hx]))
  go_ret
  exact ⟨rfl, hb⟩
set_option maxHeartbeats 4000000 in
theorem i_BandPowers1 {A : Option Addr} {n c g' : Nat} {xs : List Nat} {w : World} (h : Reads w w.heap.size 1 A n (fl .f32 xs)) (hs : Sg xs) (hn : n < 21) (h2 : Reads w w.heap.size 1 (some ⟨g', 0, none⟩) 2 (il [0, ((n / 2 + 1 : Nat) : Int)])) :
    Calls Try.prog 44 #[.slice A n c, .slice (some ⟨g', 0, none⟩) 2 2] w fun e w' => ∃ v, e = .returned (.tuple #[v, .bool true]) ∧ w'.ownsRow w.heap.size 27 1 v 1 (fl .f32 [pwM (slL xs (n / 2 + 1)) n]) ∧ Below w.heap.size w w' := by
  have hl := h.map_len
  have l1 := hs.l1
  rw [hl] at l1
  obtain ⟨hsm, hok⟩ := lines_sm hs
  rw [hl] at hsm
  have hLl := slL_len xs (n / 2 + 1)
  have hV : slV xs = slL xs (n / 2 + 1) := by unfold slV; rw [if_pos hok, hl]
  obtain ⟨L, hL⟩ : ∃ L, slL xs (n / 2 + 1) = L := ⟨_, rfl⟩
  rw [hL] at hsm hV hLl ⊢
  obtain ⟨m, hm⟩ : ∃ m, n / 2 = m := ⟨_, rfl⟩
  rw [hm] at h2
  have hm2 : m ≤ 10 := by omega
  have HSM := hide hsm
  have HF := hide (pwM_fin hsm (by omega) l1 (show n ≤ 100 by omega))
  have hin : inB ((2 : Nat) : Int) 2 12 = true := by decide
  have hall : [(0 : Int), ((m + 1 : Nat) : Int)].all (fun x => inB x 0 ((m : Int) + 1)) = true := by simp [inB]; omega
  have HI := hide (And.intro hin hall)
  obtain ⟨R, hR⟩ : ∃ R, pwM L n = R := ⟨_, rfl⟩
  rw [hR] at HF ⊢
  have HR := hide hR
  clear hL hl hin hall hR
  go_enter Try.func44, Try.ntmps44
  go_wp2_with fail
  refine (i_SignalLines h (by unfold maxLen; omega)).mono ?_
  rintro e w1 ⟨v, zs, rfl, ho, hzs, hb1⟩
  rw [hok]
  have hz : zs = L := told_lines (by rw [hzs.out, hV]) hsm
  rw [hz, hLl, hm] at ho
  obtain ⟨g, cp, rfl, hcp, hg, hRC⟩ := rowC_of_own ho (by omega)
  have hsz1 := hb1.size
  have h3 := h2.below hb1
  have HRC := hide hRC
  clear hzs hz hV hok hs ho h hsm hLl hm h2 hRC
  go_wp2_with fail
  refine (c_areMany h3 hsz1 (by omega) HI.out.1 HI.out.2).mono ?_
  rintro e w2 ⟨rfl, hb2⟩
  have hb12 := hb1.trans (hb2.mono hsz1)
  have HRC2 := hide (HRC.out.below hb2)
  have h4 := h3.below (hb2.mono hsz1)
  have hsz2 := hb12.size
  have HC : Hid (∀ wr, Below w2.heap.size w2 wr → wr.cell? ⟨g', 0, none⟩ = some (.int .i64 0) ∧ wr.cell? ⟨g', 1, none⟩ = some (.int .i64 ((m : Int) + 1))) := hide (fun wr hb => by
    have h5 := h4.below (hb.mono hsz2)
    obtain ⟨ad, x0, e0, hA, hx0, hc0⟩ := h5.map_at (k := 0) (by omega)
    obtain ⟨ad1, x1, e1, _, hx1, hc1⟩ := h5.map_at (k := 1) (by omega)
    injection e0 with e0
    subst e0
    injection e1 with e1
    subst e1
    obtain rfl : (0 : Int) = x0 := by simpa using hx0
    obtain rfl : ((m + 1 : Nat) : Int) = x1 := by simpa using hx1
    rw [Addr.add_lit] at hc0 hc1
    exact ⟨hc0, hc1⟩)
  have bel0 : Below w.heap.size w (w2.alloc (.cells #[] 27)) := hb12.alloc hsz2 _
  obtain ⟨cc0, cc1⟩ := HC.out w2 (Below.refl _ _)
  clear HI hb1 hb2 hb12 h3 h4 hsz1 HRC
  go_wp2_with fail
  go_loopw [8, 29] (fun v i wr => ∃ j : Nat, j ≤ 1 ∧ i = .int .i64 (j : Int) ∧ Hid (wr.ownsRow w2.heap.size 27 1 v j (fl .f32 ([R].take j))) ∧ Below w2.heap.size w2 wr ∧ Below w.heap.size w wr) (fun _ i _ => 1 - (intOf i).toNat)
  case atStart => exact ⟨0, by omega, rfl, hide (own_emp rfl (Nat.le_refl _)), (Below.refl _ _).alloc (Nat.le_refl _) _, bel0⟩
  case round =>
    clear bel0 cc0 cc1
    obtain ⟨j, hj, rfl, Hown, hbel, hbw⟩ := hrel
    rename World => wo
    have hsz := hbel.size
    by_cases hlt : j < 1
    · obtain rfl : j = 0 := by omega
      obtain ⟨cc0, cc1⟩ := HC.out wo hbel
      have HRC3 := hide (HRC2.out.below hbel)
      have HC2 : Hid (∀ q : Nat, Calls Try.prog 87 #[.slice (some ⟨g, 0, none⟩) (m + 1) cp, .int .i64 (n : Int)] (wo.drewN q) fun e w' => e = .returned (.float .f32 R) ∧ ∃ q', w' = (wo.drewN q).drewN q') := hide (fun q => by
        have := i_powersOfLines (c := cp) (w := wo.drewN q) ((HRC3.out.drewN q).reads (HRC3.out.drewN q).lt) HSM.out (by omega) l1 (show n ≤ 100 by omega)
        rwa [HR.out] at this)
      go_wp2_with (first
        | (go_at_call 87; refine (HC2.out 0).mono ?_; rintro e w' ⟨rfl, m1, rfl⟩)
        | (at_builtin; refine wpList_append1 rfl (.tmp 40) (.tmp 51) 36 rfl w2.heap.size 27 (.float .f32 0) _ 4 info_f32 Try.underlying36 rfl rfl _ _ _ rfl (own_drewN Hown.out _) rfl rfl (by omega) (by omega) (by simp; omega) ?_))
      intro v' w' hown' hb'
      have hbel' := (below_drewN hbel _).trans hb'
      have hbw' := (below_drewN hbw _).trans (hb'.mono hsz2)
      have HO := hide hown'
      clear hown' hb'
      go_wp2
      go_roundw
      case rel => exact ⟨1, by omega, by go_num, HO, hbel', hbw'⟩
      case measure => simp [intOf]
    · obtain rfl : j = 1 := by omega
      obtain ⟨OA, oc, hov⟩ := own_shape Hown.out
      subst hov
      have hR2 := Reads.of_own Hown.out
      have HF2 : Hid (([R].take 1).all (fin .f32) = true) := hide (by simp [HF.out])
      go_wp2_with (go_at_call 60; refine (i_ifAll_yes hR2 (by unfold maxLen; omega) HF2.out).mono ?_; rintro e w' ⟨rfl, m', rfl⟩)
      go_ret2
      exact ⟨_, rfl, own_drewN (own_up Hown.out hsz2) _, below_drewN hbw _⟩
/-- A line at no turns is the first line. -/
theorem zero_tab : ∀ k : Nat, k < 21 → lnT 0 k = 0 ∧ wide 0 = 0 ∧ fin .f32 0 = true := by decide +kernel
theorem zq_tab : ∀ n : Nat, n < 21 → ∀ k : Nat, k < n → slQ n 0 k = 0 := by decide +kernel
theorem zero_pt {n k : Nat} (hn : n < 21) (hk : k < n) : lnR 0 k = ph1 (Op.negFloat .f64 (slQ n 0 k)) ∧ lnI 0 k = ph2 (Op.negFloat .f64 (slQ n 0 k)) := by
  obtain ⟨a, b, c⟩ := zero_tab k (by omega)
  unfold lnR lnI
  rw [a, b, zq_tab n hn k hk, if_pos c, if_pos c]
  exact ⟨rfl, rfl⟩
theorem zero_line {xs : List Nat} (hl : xs.length < 21) : ∀ k, k ≤ xs.length → lnS 0 xs k = slS xs.length 0 xs k
  | 0, _ => rfl
  | k + 1, hk => by
    obtain ⟨a, b⟩ := zero_pt hl (show k < xs.length by omega)
    rw [lnS, slS, zero_line hl k (by omega), a, b]
theorem i_LineAt0 {A : Option Addr} {n c : Nat} {xs : List Nat} {w : World} (h : Reads w w.heap.size 1 A n (fl .f32 xs)) (hs : Sg xs) (hn : n < 21) :
    Calls Try.prog 48 #[.slice A n c, .float .f32 0] w fun e w' => e = .returned (.tuple #[.complex .f32 ((slL xs (n / 2 + 1)).getD 0 (0, 0)).1 ((slL xs (n / 2 + 1)).getD 0 (0, 0)).2, .bool true]) ∧ ∃ m, w' = w.drewN m := by
  have hl := h.map_len
  refine (i_LineAt (t := 0) h (by unfold maxLen; omega)).mono ?_
  rintro e w' ⟨⟨a, b, rfl, ha, hb⟩, m, rfl⟩
  have hbn := lines_bn hs (by rw [hl]; exact hn)
  rw [hl] at hbn
  have e0 := slL_at (xs := xs) (m := n / 2 + 1) (k := 0) (by omega)
  have ez := zero_line (xs := xs) (by rw [hl]; exact hn) xs.length (Nat.le_refl _)
  have hq : Bn n (slS xs.length 0 xs xs.length).1 ∧ Bn n (slS xs.length 0 xs xs.length).2 := by
    have := hbn ((slL xs (n / 2 + 1)).getD 0 (0, 0)) (by
      rw [List.getD_eq_getElem?_getD, List.getElem?_eq_getElem (by rw [slL_len]; omega)]; exact List.getElem_mem _)
    rwa [e0] at this
  have ho : lnO xs 0 = true := by
    unfold lnO
    rw [ez, sg_sig hs]
    simp [cfin, hq.1.1, hq.2.1, f0'.1]
  rw [ho, if_pos rfl, ez] at ha hb
  rw [word_told ha hq.1.1, word_told hb hq.2.1, e0, ho]
  exact ⟨rfl, m, rfl⟩
/-- The sum of the powers in 64 bits, and in fractions. -/
def psW (L : List (Nat × Nat)) : Nat → Nat
  | 0 => 0
  | k + 1 => fb .add .f64 (psW L k) (wide (pwV (L.getD k (0, 0)).1 (L.getD k (0, 0)).2))
def psV (L : List (Nat × Nat)) : Nat → Rat
  | 0 => 0
  | k + 1 => psV L k + fv .f32 (pwV (L.getD k (0, 0)).1 (L.getD k (0, 0)).2)
theorem pv_at {n : Nat} {L : List (Nat × Nat)} (hn : n < 21) (h : BnL n L) {k : Nat} (hk : k < L.length) : Pv (pwV (L.getD k (0, 0)).1 (L.getD k (0, 0)).2) ∧ fv .f32 (pwV (L.getD k (0, 0)).1 (L.getD k (0, 0)).2) ≤ 13800 := by
  have hq : Bn n (L.getD k (0, 0)).1 ∧ Bn n (L.getD k (0, 0)).2 := h _ (by rw [List.getD_eq_getElem?_getD, List.getElem?_eq_getElem hk]; exact List.getElem_mem _)
  obtain ⟨_, a, b⟩ := pv_pm (by grind) (bn_pm hn hq.1) (bn_pm hn hq.2)
  exact ⟨a, by grind⟩
theorem psV_le {n : Nat} {L : List (Nat × Nat)} (hn : n < 21) (h : BnL n L) : ∀ k, k ≤ L.length → 0 ≤ psV L k ∧ psV L k ≤ (k : Rat) * 13800
  | 0, _ => by
    have e0 : ((0 : Nat) : Rat) = 0 := rfl
    rw [e0]; simp only [psV]; constructor <;> grind
  | k + 1, hk => by
    obtain ⟨a, b⟩ := psV_le hn h k (by omega)
    obtain ⟨⟨_, c⟩, d⟩ := pv_at hn h (k := k) (by omega)
    have ek : ((k + 1 : Nat) : Rat) = (k : Rat) + 1 := by rw [Rat.natCast_add]; rfl
    rw [ek]; simp only [psV]; constructor <;> grind
theorem psW_ok {n : Nat} {L : List (Nat × Nat)} (hn : n < 21) (h : BnL n L) (hl : L.length ≤ 11) : ∀ k, k ≤ L.length → fin .f64 (psW L k) = true ∧ Near (fv .f64 (psW L k)) (psV L k) ((k : Rat) * (1 / 1000000))
  | 0, _ => by
    have e0 : ((0 : Nat) : Rat) = 0 := rfl
    simp only [psW, psV]
    unfold Near
    rw [f64_0.2, e0]
    exact ⟨f64_0.1, by grind, by grind⟩
  | k + 1, hk => by
    obtain ⟨a, b, b'⟩ := psW_ok hn h hl k (by omega)
    obtain ⟨⟨c, d⟩, e⟩ := pv_at hn h (k := k) (by omega)
    obtain ⟨p, q⟩ := psV_le hn h k (by omega)
    have ek : ((k + 1 : Nat) : Rat) = (k : Rat) + 1 := by rw [Rat.natCast_add]; rfl
    have k11 : (k : Rat) ≤ 11 := by have := nat_le.2 (show k ≤ 11 by omega); exact this
    obtain ⟨w1, w2⟩ := re_wide c
    simp only [psW, psV]
    rw [ek]
    generalize wide (pwV (L.getD k (0, 0)).1 (L.getD k (0, 0)).2) = X at *
    obtain ⟨x, y, z⟩ := f64_add a w1 (by grind) (by grind)
    exact ⟨x, by grind, by grind⟩
theorem rel_arith {k P d s r : Rat} (k0 : 0 ≤ k) (k11 : k ≤ 11) (P0 : 0 ≤ P) (d0 : 0 ≤ d) (h0 : 0 ≤ k * P) (h1 : k * P ≤ 11 * P) (h2 : 0 ≤ k * d) (e1 : s - P ≤ 1 / 10000000 * (k * P)) (e2 : P - s ≤ 1 / 10000000 * (k * P)) (r1 : r - (s + d) ≤ 1 / 16777216 * (s + d)) (r2 : s + d - r ≤ 1 / 16777216 * (s + d)) :
    r - (P + d) ≤ 1 / 10000000 * ((k + 1) * (P + d)) ∧ P + d - r ≤ 1 / 10000000 * ((k + 1) * (P + d)) := by
  constructor <;> grind
theorem pwS_rel {n : Nat} {L : List (Nat × Nat)} (hn : n < 21) (h : BnL n L) (hl : L.length ≤ 11) : ∀ k, k ≤ L.length → fin .f32 (pwS (L.take k)) = true ∧ fv .f32 (pwS (L.take k)) - psV L k ≤ 1 / 10000000 * ((k : Rat) * psV L k) ∧ psV L k - fv .f32 (pwS (L.take k)) ≤ 1 / 10000000 * ((k : Rat) * psV L k)
  | 0, _ => by
    have f0 := f0'
    have e : pwS (L.take 0) = 0 := rfl
    rw [e, f0.2]
    simp only [psV]
    exact ⟨f0.1, by grind, by grind⟩
  | k + 1, hk => by
    obtain ⟨a, b, b'⟩ := pwS_rel hn h hl k (by omega)
    obtain ⟨⟨c, d⟩, e⟩ := pv_at hn h (k := k) (by omega)
    obtain ⟨p, q⟩ := psV_le hn h k (by omega)
    have ek : ((k + 1 : Nat) : Rat) = (k : Rat) + 1 := by rw [Rat.natCast_add]; rfl
    have k0 : (0 : Rat) ≤ (k : Rat) := Rat.natCast_nonneg
    have k11 : (k : Rat) ≤ 11 := by have := nat_le.2 (show k ≤ 11 by omega); exact this
    have hx : L[k]? = some (L.getD k (0, 0)) := by rw [List.getD_eq_getElem?_getD, List.getElem?_eq_getElem (by omega)]; rfl
    rw [pw_take hx, ek]
    simp only [psV]
    generalize pwV (L.getD k (0, 0)).1 (L.getD k (0, 0)).2 = X at *
    have h0 := Rat.mul_nonneg k0 p
    have h1 := Rat.mul_le_mul_of_nonneg_right k11 p
    have h2 := Rat.mul_nonneg k0 d
    have hb := big12
    obtain ⟨x, y⟩ := re_add a c (by grind) (by grind)
    have z := y (fv .f32 (pwS (L.take k)) + fv .f32 X) (by grind) (by grind)
    rw [uu32] at z
    obtain ⟨r1, r2⟩ := rel_arith k0 k11 p d h0 h1 h2 b b' z.1 z.2
    exact ⟨x, r1, r2⟩
theorem pow_arith {N T s V v S P : Rat} (hN : 1 ≤ N) (hN2 : N ≤ 20) (hT : 0 ≤ T) (hT2 : T ≤ 160000) (s1 : s - T ≤ 11 / 10000000 * T) (s2 : T - s ≤ 11 / 10000000 * T) (hv : v * N = s) (v0 : 0 ≤ v) (e1 : V - v ≤ 2 / 16777216 * v + 1 / 100000000000000000000) (e2 : v - V ≤ 2 / 16777216 * v + 1 / 100000000000000000000) :
    V * N - T ≤ 2 / 1000000 * T + 1 / 1000000 ∧ T - V * N ≤ 2 / 1000000 * T + 1 / 1000000 := by
  have p1 := Rat.mul_le_mul_of_nonneg_right e1 (show 0 ≤ N by grind)
  have p2 := Rat.mul_le_mul_of_nonneg_right e2 (show 0 ≤ N by grind)
  have q1 : V * N - s ≤ 2 / 16777216 * s + 1 / 100000000000000000000 * N := by rw [← hv]; grind
  have q2 : s - V * N ≤ 2 / 16777216 * s + 1 / 100000000000000000000 * N := by rw [← hv]; grind
  clear p1 p2 hv
  constructor <;> grind
/-- The powers of one band are the mean of the powers, nearly. -/
theorem pow_chk {n : Nat} {L : List (Nat × Nat)} (hn : n < 21) (n0 : 1 ≤ n) (h : BnL n L) (hl : L.length = n / 2 + 1) :
    fin .f32 (pwM L n) = true ∧ fin .f64 (fb .mul .f64 (wide (pwM L n)) (floatOfInt .f64 (n : Int))) = true ∧ fin .f64 (fb .add .f64 4607182418800017408 (psW L L.length)) = true ∧ fin .f64 (fb .mul .f64 4562254508917369340 (fb .add .f64 4607182418800017408 (psW L L.length))) = true ∧
    isNan .f64 (fb .sub .f64 (psW L L.length) (fb .mul .f64 (wide (pwM L n)) (floatOfInt .f64 (n : Int)))) = false ∧ isNan .f64 (fb .sub .f64 (fb .mul .f64 (wide (pwM L n)) (floatOfInt .f64 (n : Int))) (psW L L.length)) = false ∧
    (FloatKind.f64.format.order (gap64 (fb .mul .f64 (wide (pwM L n)) (floatOfInt .f64 (n : Int))) (psW L L.length)) (fb .mul .f64 4562254508917369340 (fb .add .f64 4607182418800017408 (psW L L.length))) == some .gt) = false := by
  obtain ⟨a, b, c⟩ := pwS_rel hn h (by omega) L.length (Nat.le_refl _)
  rw [List.take_of_length_le (Nat.le_refl _)] at a b c
  obtain ⟨T0, T1⟩ := psV_le hn h L.length (Nat.le_refl _)
  obtain ⟨s1, s2, s3⟩ := psW_ok hn h (by omega) L.length (Nat.le_refl _)
  have k11 : (L.length : Rat) ≤ 11 := by have := nat_le.2 (show L.length ≤ 11 by omega); exact this
  have kT := Rat.mul_le_mul_of_nonneg_right k11 T0
  have n1 := natpos n0
  have n2 := nat_20 hn
  generalize (L.length : Rat) = K at *
  generalize psV L L.length = T at *
  generalize psW L L.length = SQ at *
  have t1 : T ≤ 160000 := by grind
  have g1 : fv .f32 (pwS L) - T ≤ 11 / 10000000 * T := by grind
  have g2 : T - fv .f32 (pwS L) ≤ 11 / 10000000 * T := by grind
  have x1 : fv .f64 SQ - T ≤ 11 / 1000000 := by grind
  have x2 : T - fv .f64 SQ ≤ 11 / 1000000 := by grind
  clear b c kT s2 s3 T1 k11
  obtain ⟨v, hv⟩ : ∃ v, fv .f32 (pwS L) / (n : Rat) = v := ⟨_, rfl⟩
  have hvn : v * (n : Rat) = fv .f32 (pwS L) := by rw [← hv]; exact Rat.div_mul_cancel (Rat.ne_of_gt (by grind))
  have v0 : 0 ≤ v := by
    rcases Rat.le_total (a := 0) (b := v) with h1 | h1
    · exact h1
    · have := Rat.mul_nonneg (show 0 ≤ -v by grind) (show (0 : Rat) ≤ (n : Rat) by grind)
      have p : 0 ≤ fv .f32 (pwS L) := by grind
      have z : v * (n : Rat) = 0 := by grind
      rcases Rat.mul_eq_zero.1 z with h2 | h2 <;> grind
  have v1 : v ≤ 170000 := by
    have := Rat.mul_le_mul_of_nonneg_left n1 v0
    grind
  have he := e20
  obtain ⟨q, v', q1, q2, q3, q4, q5⟩ := quo_n a (n := n) (M := v) n0 (by omega) (by rw [hvn]; exact Rat.le_refl) (by grind) (by grind)
  have hvv : v' = v := by
    have hz : (v' - v) * (n : Rat) = 0 := by grind
    rcases Rat.mul_eq_zero.1 hz with h2 | h2 <;> grind
  rw [hvv] at q4 q5
  have hM : fb .quo .f32 (pwS L) (floatOfInt .f32 (n : Int)) = pwM L n := rfl
  rw [hM] at q q4 q5
  generalize pwM L n = V at *
  obtain ⟨y1, y2⟩ := pow_arith (N := (n : Rat)) (T := T) (s := fv .f32 (pwS L)) (V := fv .f32 V) (v := v) (S := 0) (P := 0) n1 n2 T0 t1 g1 g2 hvn v0 (by grind) (by grind)
  clear q1 q2 q3 q4 q5 hvv hv hvn v1 v0 g1 g2 hM
  obtain ⟨w1, w2⟩ := re_wide q
  obtain ⟨k1, k2⟩ := n64 (n := n) (by omega)
  obtain ⟨b1, b2, b3⟩ := f64_mul w1 k1 (by rw [w2, k2]; grind) (by rw [w2, k2]; grind)
  rw [w2, k2] at b2 b3
  generalize fb .mul .f64 (wide V) (floatOfInt .f64 (n : Int)) = Q at *
  obtain ⟨c1, c2⟩ := c1_64
  obtain ⟨d1, d2, d3⟩ := f64_add c1 s1 (by rw [c2]; grind) (by rw [c2]; grind)
  rw [c2] at d2 d3
  generalize fb .add .f64 4607182418800017408 SQ = U at *
  obtain ⟨f1, f2, f3⟩ := c0001'
  have g0 : 0 ≤ fv .f64 U := by grind
  have g1 : fv .f64 U ≤ 170000 := by grind
  have g2 := Rat.mul_le_mul_of_nonneg_right f2 g0
  have g3 := Rat.mul_le_mul_of_nonneg_right f3 g0
  obtain ⟨h1, h2, h3⟩ := f64_mul f1 d1 (by grind) (by grind)
  obtain ⟨x3, x4⟩ := gap64_le (d := 2 / 1000000 * T + 2 / 100000) b1 s1 (by grind) (by grind) (by grind)
  obtain ⟨z1, z2⟩ := gap_nn b1 s1 (by grind) (by grind)
  refine ⟨q, b1, d1, h1, z1, z2, ?_⟩
  rw [ord_gt x3 h1, decide_eq_false_iff_not]
  grind
/-- The difference of a line and itself is short. -/
theorem self_short {a b : Nat} (ha : Pm 81 a) (hb : Pm 81 b) : Pm 1000 (fb .sub .f32 a a) ∧ Pm 1000 (fb .sub .f32 b b) ∧ fin .f32 (lnV (fb .sub .f32 a a) (fb .sub .f32 b b)) = true ∧ (FloatKind.f64.format.order (wide (lnV (fb .sub .f32 a a) (fb .sub .f32 b b))) 4562254508917369340 == some .gt) = false := by
  have hbg := big12
  have key : ∀ x, Pm 81 x → fin .f32 (fb .sub .f32 x x) = true ∧ fv .f32 (fb .sub .f32 x x) = 0 := fun x hx => by
    obtain ⟨c, d⟩ := re_sub hx.1 hx.1 (by grind) (by grind)
    have e := d 0 (by grind) (by grind)
    exact ⟨c, by grind⟩
  obtain ⟨a1, a2⟩ := key a ha
  obtain ⟨b1, b2⟩ := key b hb
  generalize fb .sub .f32 a a = X at *
  generalize fb .sub .f32 b b = Y at *
  have pX : Pm 0 X := ⟨a1, by grind, by grind⟩
  have pY : Pm 0 Y := ⟨b1, by grind, by grind⟩
  have qX : Pm 1000 X := ⟨a1, by grind, by grind⟩
  have qY : Pm 1000 Y := ⟨b1, by grind, by grind⟩
  obtain ⟨p1, p2', p3, p4⟩ := pw_pm (M := 0) (by grind) pX pY
  obtain ⟨_, s1, s2, s3, _⟩ := long_told qX qY
  have hp : (1000000000 : Rat) ≤ p2 1000 := by decide +kernel
  rw [a2, b2] at p3 p4
  obtain ⟨_, r2, r3, _⟩ := re_sq p1 p2' (by grind)
  rw [p2m51] at r3
  obtain ⟨r, hr⟩ : ∃ r, fv .f64 (sq (pwW X Y)) = r := ⟨_, rfl⟩
  rw [hr] at r2 r3
  have rle : r ≤ 1 / 100000 := sq_mono (a := r) (b := 1 / 100000) (by grind) (by grind)
  obtain ⟨_, _, n3⟩ := re_nar s1 (by rw [hr]; grind) (by rw [hr]; grind)
  have n4 := n3 r (by rw [hr]; grind) (by rw [hr]; grind)
  rw [uu32, hr] at n4
  have he := e20
  have hV : nar (sq (pwW X Y)) = lnV X Y := rfl
  rw [hV] at n4
  refine ⟨qX, qY, s3, ?_⟩
  obtain ⟨w1, w2⟩ := re_wide s3
  obtain ⟨f1, f2, f3⟩ := c0001'
  rw [ord_gt w1 f1, decide_eq_false_iff_not, w2]
  grind
end Go.Proofs.Yteabfkgbakoljaa

/-
  What the law of signals asks of each place, and the contracts in the law's own letters.
-/
namespace Go.Proofs.Yteabfkgbakoljaa
open Go.RowKit Mem Fl
set_option linter.unusedVariables false
set_option maxRecDepth 100000

/-- The words of a place. -/
structure Plc (X B E G1 G2 S2 : Nat) : Prop where
  cX : (∀ W : World, cvR .f32 .f64 X W = wide X) ∧ cvN .f32 .f64 X = 0
  cB : (∀ W : World, cvR .f32 .f64 B W = wide B) ∧ cvN .f32 .f64 B = 0
  cE : (∀ W : World, cvR .f32 .f64 E W = wide E) ∧ cvN .f32 .f64 E = 0
  g1 : ∀ W, Calls Try.prog 32 #[.float .f64 (wide B), .float .f64 (wide X)] W fun e w' => e = .returned (.float .f64 G1) ∧ ∃ m, w' = W.drewN m
  o1 : (FloatKind.f64.format.order G1 4562254508917369340 == some .gt) = false
  g2 : ∀ W, Calls Try.prog 32 #[.float .f64 (wide X), .float .f64 0] W fun e w' => e = .returned (.float .f64 G2) ∧ ∃ m, w' = W.drewN m
  s2 : (∀ W, flR .sub .f64 G2 4562254508917369340 W = S2) ∧ flN .sub .f64 G2 4562254508917369340 = 0
  o2 : (FloatKind.f64.format.order (wide E) S2 == some .lt) = false
theorem plc_ok {xs : List Nat} (h : Sg xs) (hl : xs.length < 21) {p : Nat} (hp : p < xs.length) : ∃ G1 G2 S2, Plc (xs.getD p 0) (bkV xs.length p (slL xs (xs.length / 2 + 1))) (lnV (bkV xs.length p (slL xs (xs.length / 2 + 1))) (bkVi xs.length p (slL xs (xs.length / 2 + 1)))) G1 G2 S2 := by
  have hx := h.at_ (getD_mem hp)
  obtain ⟨⟨x1, _⟩, _, _, x2, x3⟩ := qF_gr hx
  obtain ⟨b1, b2, b3⟩ := back_told h hl hp
  have hbn := lines_bn h hl
  obtain ⟨_, _, _, e1, e2, e3⟩ := long_told (bkV_pm hl hp hbn (slL_len _ _)) (bkVi_pm hl hp hbn (slL_len _ _))
  generalize bkV xs.length p (slL xs (xs.length / 2 + 1)) = B at *
  generalize bkVi xs.length p (slL xs (xs.length / 2 + 1)) = Bi at *
  generalize lnV B Bi = E at *
  generalize xs.getD p 0 = X at *
  obtain ⟨wx, ux⟩ := re_wide x1
  obtain ⟨wb, ub⟩ := re_wide b1
  obtain ⟨we, ue⟩ := re_wide e1
  obtain ⟨f1, f2, f3⟩ := c0001'
  obtain ⟨z1, z2⟩ := f64_0
  obtain ⟨g1, g2⟩ := gap64_le (d := 47 / 100000) wb wx (by rw [ub, ux]; exact b2) (by rw [ub, ux]; exact b3) (by grind)
  obtain ⟨n1, n2⟩ := gap_nn wb wx (by rw [ub, ux]; grind) (by rw [ub, ux]; grind)
  obtain ⟨n3, n4⟩ := gap_nn wx z1 (by rw [ux, z2]; grind) (by rw [ux, z2]; grind)
  have key : ∃ d : Rat, fv .f32 X ≤ d ∧ -fv .f32 X ≤ d ∧ d ≤ fv .f32 E + 68 / 100000 ∧ d ≤ 5 ∧ 0 ≤ d := by
    rcases Rat.le_total (a := 0) (b := fv .f32 X) with h0 | h0
    · exact ⟨fv .f32 X, by grind, by grind, by grind, by grind, by grind⟩
    · exact ⟨-fv .f32 X, by grind, by grind, by grind, by grind, by grind⟩
  obtain ⟨d, d1, d2, d3, d4, d5⟩ := key
  obtain ⟨q1, q2⟩ := gap64_le (d := d) wx z1 (by rw [ux, z2]; grind) (by rw [ux, z2]; grind) (by grind)
  have q3 : -fv .f64 (gap64 (wide X) 0) ≤ 100 := by
    unfold gap64
    have hb := big64b
    have hu := u64b
    obtain ⟨c1, c2⟩ := re_sub wx z1 (by rw [ux, z2]; grind) (by rw [ux, z2]; grind)
    obtain ⟨c3, c4⟩ := re_sub z1 wx (by rw [ux, z2]; grind) (by rw [ux, z2]; grind)
    have c5 := c2 100 (by rw [ux, z2]; grind) (by rw [ux, z2]; grind)
    have c6 := c4 100 (by rw [ux, z2]; grind) (by rw [ux, z2]; grind)
    rw [ux, z2] at c5 c6
    split <;> grind
  obtain ⟨s1, s2, s3⟩ := f64_sub q1 f1 (by grind) (by grind)
  refine ⟨gap64 (wide B) (wide X), gap64 (wide X) 0, fb .sub .f64 (gap64 (wide X) 0) 4562254508917369340, cv_fn x1, cv_fn b1, cv_fn e1, fun W => l_b10Gap n1 n2, ?_, fun W => l_b10Gap n3 n4, ⟨fun W => flR_num (fin_nn64 s1) W, flN_num (fin_nn64 s1)⟩, ?_⟩
  · rw [ord_gt g1 f1, decide_eq_false_iff_not]; grind
  · rw [ord_lt we s1, decide_eq_false_iff_not, ue]; grind
/-- The words of two bands at a place. -/
structure Bnd (X P Q S G : Nat) : Prop where
  cP : (∀ W : World, cvR .f32 .f64 P W = wide P) ∧ cvN .f32 .f64 P = 0
  cQ : (∀ W : World, cvR .f32 .f64 Q W = wide Q) ∧ cvN .f32 .f64 Q = 0
  s : (∀ W, flR .add .f64 (wide P) (wide Q) W = S) ∧ flN .add .f64 (wide P) (wide Q) = 0
  g : ∀ W, Calls Try.prog 32 #[.float .f64 S, .float .f64 (wide X)] W fun e w' => e = .returned (.float .f64 G) ∧ ∃ m, w' = W.drewN m
  o : (FloatKind.f64.format.order G 4562254508917369340 == some .gt) = false
theorem bnd_ok {X P Q : Nat} (hx : ∃ k, k < 33 ∧ X = qF k) (p1 : fin .f32 P = true) (q1 : fin .f32 Q = true) (h1 : fv .f32 P + fv .f32 Q - fv .f32 X ≤ 66 / 100000) (h2 : fv .f32 X - (fv .f32 P + fv .f32 Q) ≤ 66 / 100000) : ∃ S G, Bnd X P Q S G := by
  obtain ⟨⟨x1, _⟩, _, _, x2, x3⟩ := qF_gr hx
  obtain ⟨wx, ux⟩ := re_wide x1
  obtain ⟨wp, up⟩ := re_wide p1
  obtain ⟨wq, uq⟩ := re_wide q1
  obtain ⟨f1, f2, f3⟩ := c0001'
  obtain ⟨s1, s2, s3⟩ := f64_add wp wq (by rw [up, uq]; grind) (by rw [up, uq]; grind)
  rw [up, uq] at s2 s3
  obtain ⟨n1, n2⟩ := gap_nn s1 wx (by rw [ux]; grind) (by rw [ux]; grind)
  obtain ⟨g1, g2⟩ := gap64_le (d := 67 / 100000) s1 wx (by rw [ux]; grind) (by rw [ux]; grind) (by grind)
  refine ⟨fb .add .f64 (wide P) (wide Q), gap64 (fb .add .f64 (wide P) (wide Q)) (wide X), cv_fn p1, cv_fn q1, ⟨fun W => flR_num (fin_nn64 s1) W, flN_num (fin_nn64 s1)⟩, fun W => l_b10Gap n1 n2, ?_⟩
  rw [ord_gt g1 f1, decide_eq_false_iff_not]; grind
/-- The words of all places of two bands. -/
def Bnds (xs : List Nat) (n : Nat) (P Q : List Nat) : Prop := ∀ i, i < n → ∃ S G, Bnd (xs.getD i 0) (P.getD i 0) (Q.getD i 0) S G
theorem bkL_at {n i m : Nat} {L : List (Nat × Nat)} (hi : i < m) : (bkL n L m).getD i 0 = bkV n i L := by
  unfold bkL
  rw [List.getD_eq_getElem?_getD, List.getElem?_map, List.getElem?_range hi]; rfl
theorem bandL_all {L : List (Nat × Nat)} : bandL L 0 L.length = L := by
  unfold bandL
  rw [Nat.sub_self]; rfl
theorem bnds_two {xs : List Nat} {n m p : Nat} (h : Sg xs) (hl : xs.length = n) (hn : n < 21) (hm : n / 2 = m) (p1 : 1 ≤ p) (p2 : p < m + 1) : Bnds xs n (bkL n (bandL (slL xs (m + 1)) 0 p) n) (bkL n (bandL (slL xs (m + 1)) p (m + 1)) n) := by
  subst hl
  subst hm
  intro i hi
  rw [bkL_at hi, bkL_at hi]
  have hbn := lines_bn h hn
  have hlen := slL_len xs (xs.length / 2 + 1)
  obtain ⟨a, b, c, d⟩ := bands_told h hn hi (A := bandL (slL xs (xs.length / 2 + 1)) 0 p) (B := bandL (slL xs (xs.length / 2 + 1)) p (xs.length / 2 + 1)) (by rw [bandL_len, hlen]) (by rw [bandL_len, hlen])
    (fun k hk => by
      rw [bandL_at (by omega) (by rw [hlen]; omega) k (by rw [hlen]; exact hk), bandL_at (by omega) (by rw [hlen]; exact Nat.le_refl _) k (by rw [hlen]; exact hk)]
      by_cases hkp : k < p
      · left; rw [if_pos (by omega), if_neg (by omega)]; exact ⟨rfl, rfl⟩
      · right; rw [if_neg (by omega), if_pos (by omega)]; exact ⟨rfl, rfl⟩)
    (bandL_bn (by omega) (by rw [hlen]; omega) hbn) (bandL_bn (by omega) (by rw [hlen]; exact Nat.le_refl _) hbn)
  exact bnd_ok (h.at_ (getD_mem hi)) a b c d
theorem bnds_one {xs : List Nat} {n m : Nat} (h : Sg xs) (hl : xs.length = n) (hn : n < 21) (hm : n / 2 = m) : Bnds xs n (bkL n (bandL (slL xs (m + 1)) 0 (m + 1)) n) (List.replicate n 0) := by
  subst hl
  subst hm
  intro i hi
  have e := bandL_all (L := slL xs (xs.length / 2 + 1))
  rw [slL_len] at e
  have ez : (List.replicate xs.length 0).getD i 0 = 0 := by rw [List.getD_eq_getElem?_getD, List.getElem?_replicate, if_pos hi]; rfl
  rw [bkL_at hi, e, ez]
  obtain ⟨a, b, c⟩ := back_told h hn hi
  have f0 := f0'
  refine bnd_ok (h.at_ (getD_mem hi)) a f0.1 ?_ ?_
  · rw [f0.2]; grind
  · rw [f0.2]; grind
/-- The contracts, in the law's letters. -/
theorem c_Lines {A : Option Addr} {n c m : Nat} {xs : List Nat} {w : World} (h : Reads w w.heap.size 1 A n (fl .f32 xs)) (hs : Sg xs) (hn : n < 21) (hm : n / 2 = m) :
    Calls Try.prog 40 #[.slice A n c] w fun e w' => ∃ v, e = .returned (.tuple #[v, .bool true]) ∧ w'.ownsRow w.heap.size 68 1 v (m + 1) (cl (slL xs (m + 1))) ∧ Below w.heap.size w w' := by
  subst hm
  have hl := h.map_len
  obtain ⟨hsm, hok⟩ := lines_sm hs
  rw [hl] at hsm
  have hV : slV xs = slL xs (n / 2 + 1) := by unfold slV; rw [if_pos hok, hl]
  refine (i_SignalLines h (by unfold maxLen; omega)).mono ?_
  rintro e w1 ⟨v, zs, rfl, ho, hzs, hb1⟩
  have hz : zs = slL xs (n / 2 + 1) := told_lines (by rw [hzs.out, hV]) hsm
  rw [hz, slL_len] at ho
  exact ⟨v, by rw [hok], ho, hb1⟩
theorem c_Back {A : Option Addr} {n c m : Nat} {L : List (Nat × Nat)} {w : World} (hm : n / 2 = m) (h : Reads w w.heap.size 1 A (m + 1) (cl L)) (hL : SlL L) (h1 : 1 ≤ n) (hn : n < 21) :
    Calls Try.prog 41 #[.slice A (m + 1) c, .int .i64 (n : Int)] w fun e w' => ∃ v, e = .returned (.tuple #[v, .bool true]) ∧ w'.ownsRow w.heap.size 27 1 v n (fl .f32 (bkL n L n)) ∧ Below w.heap.size w w' := by
  subst hm; exact i_SignalOfLines h hL h1 hn
theorem c_Turn {A : Option Addr} {n c m : Nat} {xs : List Nat} {w : World} (hm : n / 2 = m) (h : Reads w w.heap.size 1 A n (fl .f32 xs)) (hs : Sg xs) (hn : n < 21) :
    Calls Try.prog 42 #[.slice A n c] w fun e w' => ∃ v, e = .returned (.tuple #[v, .bool true]) ∧ w'.ownsRow w.heap.size 68 1 v n (cl (tdL n (slL xs (m + 1)) n)) ∧ Below w.heap.size w w' := by
  subst hm; exact i_TurnedSignal h hs hn
theorem c_Env {A : Option Addr} {n c m : Nat} {xs : List Nat} {w : World} (hm : n / 2 = m) (h : Reads w w.heap.size 1 A n (fl .f32 xs)) (hs : Sg xs) (hn : n < 21) :
    Calls Try.prog 43 #[.slice A n c] w fun e w' => ∃ v, e = .returned (.tuple #[v, .bool true]) ∧ w'.ownsRow w.heap.size 27 1 v n (fl .f32 (enL n (slL xs (m + 1)) n)) ∧ Below w.heap.size w w' := by
  subst hm; exact i_EnvelopeOf h hs hn
theorem c_Pow {A : Option Addr} {n c g' m : Nat} {xs : List Nat} {w : World} (hm : n / 2 = m) (h : Reads w w.heap.size 1 A n (fl .f32 xs)) (hs : Sg xs) (hn : n < 21) (h2 : Reads w w.heap.size 1 (some ⟨g', 0, none⟩) 2 (il [0, ((m + 1 : Nat) : Int)])) :
    Calls Try.prog 44 #[.slice A n c, .slice (some ⟨g', 0, none⟩) 2 2] w fun e w' => ∃ v, e = .returned (.tuple #[v, .bool true]) ∧ w'.ownsRow w.heap.size 27 1 v 1 (fl .f32 [pwM (slL xs (m + 1)) n]) ∧ Below w.heap.size w w' := by
  subst hm; exact i_BandPowers1 h hs hn h2
theorem c_Part {A : Option Addr} {n c f t m : Nat} {xs : List Nat} {w : World} (hm : n / 2 = m) (h : Reads w w.heap.size 1 A n (fl .f32 xs)) (hs : Sg xs) (hn : n < 21) (hf : f < t) (ht : t ≤ m + 1) :
    Calls Try.prog 47 #[.slice A n c, .int .i64 (f : Int), .int .i64 (t : Int)] w fun e w' => ∃ v, e = .returned (.tuple #[v, .bool true]) ∧ w'.ownsRow w.heap.size 27 1 v n (fl .f32 (bkL n (bandL (slL xs (m + 1)) f t) n)) ∧ Below w.heap.size w w' := by
  subst hm; exact i_BandPart h hs hn hf ht
theorem c_Line {A : Option Addr} {n c m : Nat} {xs : List Nat} {w : World} (hm : n / 2 = m) (h : Reads w w.heap.size 1 A n (fl .f32 xs)) (hs : Sg xs) (hn : n < 21) :
    Calls Try.prog 48 #[.slice A n c, .float .f32 0] w fun e w' => e = .returned (.tuple #[.complex .f32 ((slL xs (m + 1)).getD 0 (0, 0)).1 ((slL xs (m + 1)).getD 0 (0, 0)).2, .bool true]) ∧ ∃ m, w' = w.drewN m := by
  subst hm; exact i_LineAt0 h hs hn
/-- The cepstrum of a signal. -/
def cpL (xs : List Nat) (n m : Nat) : List Nat := bkL n (ceL (slL xs (m + 1))) n
theorem c_CepI {A : Option Addr} {n c m : Nat} {xs : List Nat} {w : World} (hm : n / 2 = m) (h : Reads w w.heap.size 1 A n (fl .f32 xs)) (hs : Sg xs) (hn : n < 21) :
    Calls Try.prog 50 #[.slice A n c, .float .f32 1056964608] w fun e w' => ∃ v, e = .returned (.tuple #[v, .bool true]) ∧ w'.ownsRow w.heap.size 27 1 v n (fl .f32 (cpL xs n m)) ∧ Below w.heap.size w w' := by
  subst hm; exact i_CepstrumOf h hs hn
theorem c_CepS {A : Option Addr} {n c m : Nat} {xs : List Nat} {w : World} (hm : n / 2 = m) (h : Reads w w.heap.size 1 A n (fl .f32 xs)) (hs : Sg xs) (hn : n < 21) :
    Calls Try.prog 52 #[.slice A n c, .float .f32 1056964608] w fun e w' => ∃ v, e = .returned (.tuple #[v, .bool true]) ∧ w'.ownsRow w.heap.size 27 1 v n (fl .f32 (cpL xs n m)) ∧ Below w.heap.size w w' := by
  subst hm; exact s_CepstrumOf h hs hn
theorem c_Peak {A : Option Addr} {n c m q : Nat} {xs : List Nat} {w : World} (hm : n / 2 = m) (h : Reads w w.heap.size 1 A n (fl .f32 xs)) (hs : Sg xs) (hn : n < 21) (hq : q + 1 = n) :
    Calls Try.prog 51 #[.slice A n c, .float .f32 1056964608, .int .i64 0, .int .i64 (q : Int)] w fun e w' => e = .returned (.tuple #[.int .i64 (bestI (cpL xs n m) n : Int), .float .f32 ((cpL xs n m).getD (bestI (cpL xs n m) n) 0), .bool true]) ∧ Below w.heap.size w w' := by
  subst hm; exact i_CepstrumPeak h hs hn hq
theorem cp_fin {xs : List Nat} {n m : Nat} (h : Sg xs) (hl : xs.length = n) (hn : n < 21) (hm : n / 2 = m) : ∀ k, fin .f32 ((cpL xs n m).getD k 0) = true := by
  subst hl
  subst hm
  intro k
  by_cases hk : k < xs.length
  · unfold cpL
    rw [bkL_at hk]
    exact bkV_fin hn hk (ceL_sl hn (lines_bn h hn)) (by rw [ceL_len, slL_len])
  · rw [List.getD_eq_getElem?_getD, List.getElem?_eq_none (by unfold cpL; rw [bkL_len]; omega)]
    exact f0'.1
theorem cp_wf {xs : List Nat} {n m : Nat} : ∀ x ∈ cpL xs n m, Wf .f32 x := by
  intro x hx
  unfold cpL bkL at hx
  simp only [List.mem_map, List.mem_range] at hx
  obtain ⟨p, _, rfl⟩ := hx
  exact wf_fb _ _ _ _
/-- The peak is the first of the greatest. -/
theorem peak_ok {xs : List Nat} {n m k : Nat} (h : Sg xs) (hl : xs.length = n) (hn : n < 21) (hm : n / 2 = m) (hk : k < n) :
    (FloatKind.f32.format.order ((cpL xs n m).getD k 0) ((cpL xs n m).getD (bestI (cpL xs n m) n) 0) == some .gt) = false ∧ ((FloatKind.f32.format.order ((cpL xs n m).getD k 0) ((cpL xs n m).getD (bestI (cpL xs n m) n) 0) == some .eq) = false ∨ bestI (cpL xs n m) n ≤ k) := by
  have hf := cp_fin h hl hn hm
  obtain ⟨a, b⟩ := best_all hf n k hk
  rw [ord_gt (hf k) (hf _), ord_eq (hf k) (hf _)]
  refine ⟨decide_eq_false (by grind), ?_⟩
  rcases Nat.lt_or_ge k (bestI (cpL xs n m) n) with h1 | h1
  · left; have := b h1; exact decide_eq_false (by grind)
  · right; exact h1
end Go.Proofs.Yteabfkgbakoljaa
