/-
  The law FnPlans returns true for all inputs.
-/
import Derived.Test.YtlpfnpcnidaijaaDoorPlnL
import Derived.Test.YtlpfnpcnidaijaaDoorMark
import Derived.Deep.RegionHeld3
import Derived.Deep.CutRange
import Derived.Deep.DeepCutAuto
namespace Go.Proofs.YtlpfnpcnidaijaaDoor
open Go.RowKit Mem
set_option linter.unusedVariables false
set_option maxRecDepth 100000

theorem l_r8Long_no {A A' : Option Addr} {n n' c c' : Nat} {w : World} (h : n ≤ 48) (h' : n' ≤ 48) : Calls Tryd.prog 4 #[.slice A n c, .slice A' n' c'] w fun e w' => e = .returned (.bool false) ∧ w = w' := by
  have h1 : ¬ (48 : Int) < (n : Int) := by omega
  have h2 : decide ((48 : Int) < (n : Int)) = false := by simpa using h1
  have h3 : decide ((48 : Int) < (n' : Int)) = false := by simp; omega
  clear h h' h1
  go_enter Tryd.func4, Tryd.ntmps4
  go_wp2
  go_ret
  exact ⟨rfl, rfl⟩
theorem l_r8Long_yes {A A' : Option Addr} {n n' c c' : Nat} {w : World} (h : 48 < n ∨ 48 < n') : Calls Tryd.prog 4 #[.slice A n c, .slice A' n' c'] w fun e w' => e = .returned (.bool true) ∧ w = w' := by
  by_cases h1 : 48 < n
  · have h2 : decide ((48 : Int) < (n : Int)) = true := by simp; omega
    clear h h1
    go_enter Tryd.func4, Tryd.ntmps4
    go_wp2
    go_ret
    exact ⟨rfl, rfl⟩
  · have h2 : decide ((48 : Int) < (n : Int)) = false := by simp; omega
    have h3 : decide ((48 : Int) < (n' : Int)) = true := by simp; omega
    clear h h1
    go_enter Tryd.func4, Tryd.ntmps4
    go_wp2
    go_ret
    exact ⟨rfl, rfl⟩
abbrev bytesI (xs : List Int) : List Value := xs.map (Value.int .u8)
theorem byteI_at {w : World} {B n k : Nat} {A : Option Addr} {xs : List Int} (h : Reads w B 1 A n (bytesI xs)) (hx : ∀ a ∈ xs, (Lit.int .u8 a).wf = true) (hk : k < n) :
    ∃ ad b, A = some ad ∧ w.cell? (ad.add k) = some (.int .u8 b) ∧ 0 ≤ b ∧ b ≤ 255 := by
  obtain ⟨ad, x, e, _, hxk, hc⟩ := h.map_at hk
  have := hx x (List.mem_of_getElem? hxk)
  refine ⟨ad, x, e, hc, ?_⟩
  have h1 : IntKind.min .u8 = 0 := by decide
  have h2 : IntKind.max .u8 = 255 := by decide
  simp only [Lit.wf, Bool.and_eq_true, decide_eq_true_eq, h1, h2] at this
  exact this
def R8 (m : Int) (w : World) (e : Ending) (w' : World) : Prop := w = w' ∧ ∃ v : Int, e = .returned (.int .i64 v) ∧ 0 ≤ v ∧ (1 ≤ m → v < m)
set_option maxHeartbeats 1000000 in
theorem l_r8At_cell {ad : Addr} {n c k : Nat} {m b : Int} {w : World} (hc : w.cell? (ad.add k) = some (.int .u8 b)) (b0 : 0 ≤ b) (b1 : b ≤ 255) (hk : k < n) (hn : n ≤ 48) (hm : m ≤ 1000000) :
    Calls Tryd.prog 5 #[.slice (some ad) n c, .int .i64 (k : Int), .int .i64 m] w (R8 m w) := by
  by_cases h1 : m ≤ 1
  · go_enter Tryd.func5, Tryd.ntmps5
    go_wp2
    go_ret
    exact ⟨rfl, 0, rfl, Int.le_refl _, fun h => by omega⟩
  · have h3 : ¬ (n : Int) ≤ (k : Int) := by omega
    have h4 : (1 : Int) < m := by omega
    have h5 := Int.emod_nonneg b (b := m) (by omega)
    have h6 := Int.emod_lt_of_pos b (b := m) (by omega)
    go_enter Tryd.func5, Tryd.ntmps5
    go_wp2
    go_ret
    exact ⟨rfl, b % m, rfl, h5, fun _ => h6⟩
theorem l_r8At_out {A : Option Addr} {n c k : Nat} {m : Int} {w : World} (hk : n ≤ k) (hn : n ≤ 48) (hk2 : k ≤ 100000) :
    Calls Tryd.prog 5 #[.slice A n c, .int .i64 (k : Int), .int .i64 m] w (R8 m w) := by
  have h3 : (n : Int) ≤ (k : Int) := by omega
  by_cases h1 : m ≤ 1
  · go_enter Tryd.func5, Tryd.ntmps5
    go_wp2
    go_ret
    exact ⟨rfl, 0, rfl, Int.le_refl _, fun h => by omega⟩
  · go_enter Tryd.func5, Tryd.ntmps5
    go_wp2
    go_ret
    exact ⟨rfl, 0, rfl, Int.le_refl _, fun h => by omega⟩
/-- The one cell that a choice reads. -/
theorem r8_any {A : Option Addr} {n c B k : Nat} {xs : List Int} {w : World} (h : Reads w B 1 A n (bytesI xs)) (hx : ∀ a ∈ xs, (Lit.int .u8 a).wf = true) (hn : n ≤ 48) (hk : k ≤ 100000) {p : Addr} {u : Value} (hp : w.cell? p = some u) (hpB : p.block < B) :
    ∃ (q : Addr) (x : Value), w.cell? q = some x ∧ q.block < B ∧ ∀ (m : Int) (W : World), m ≤ 1000000 → W.cell? q = some x → Calls Tryd.prog 5 #[.slice A n c, .int .i64 (k : Int), .int .i64 m] W (R8 m W) := by
  by_cases h2 : k < n
  · obtain ⟨ad, b, rfl, hc, b0, b1⟩ := byteI_at h hx h2
    obtain ⟨ad', _, e, hb, _⟩ := h.map_at h2
    obtain rfl : ad = ad' := by injection e
    exact ⟨_, _, hc, by rw [block_of_add]; exact hb, fun m W hm hW => l_r8At_cell hW b0 b1 h2 hn hm⟩
  · exact ⟨p, u, hp, hpB, fun m W hm hW => l_r8At_out (by omega) hn hk⟩
theorem l_r8At {A : Option Addr} {n c B k : Nat} {m : Int} {xs : List Int} {w : World} (h : Reads w B 1 A n (bytesI xs)) (hx : ∀ a ∈ xs, (Lit.int .u8 a).wf = true) (hn : n ≤ 48) (hk : k ≤ 100000) (hm : m ≤ 1000000) :
    Calls Tryd.prog 5 #[.slice A n c, .int .i64 (k : Int), .int .i64 m] w (R8 m w) := by
  by_cases h2 : k < n
  · obtain ⟨ad, b, rfl, hc, b0, b1⟩ := byteI_at h hx h2
    exact l_r8At_cell hc b0 b1 h2 hn hm
  · exact l_r8At_out (by omega) hn hk
theorem i_SamePlan_eq {a b : Int} {w : World} : Calls Tryd.prog 15 #[.agg #[.int .i64 a, .int .i64 b], .agg #[.int .i64 a, .int .i64 b]] w fun e w' => e = .returned (.bool true) ∧ Below w.heap.size w w' := by
  go_enter Tryd.func15, Tryd.ntmps15
  go_wp2
  go_ret
  exact ⟨rfl, (by repeat (first | exact Below.refl _ _ | exact below_drewN (by assumption) _ | refine below_drewN ?_ _ | refine Below.alloc ?_ (by first | (simp; done) | (simp; omega)) _ | assumption))⟩
theorem planV_text {a b : Int} (h : planOkT a b = true) : planV (planS a b) = some (a, b) := by
  obtain ⟨r1, r2, r3, r4⟩ := plan_rng h
  have va : valV (numS a) = some a := valV_iff.2 ⟨by omega, rfl⟩
  have vb : valV (numS b) = some b := valV_iff.2 ⟨by omega, rfl⟩
  have hd : (planS a b).data.toList = Lib.itoa a ++ 47 :: Lib.itoa b := by
    unfold planS numS
    simp
  have hl : (planS a b).size = (Lib.itoa a).length + (1 + (Lib.itoa b).length) := by
    rw [show (planS a b).size = (planS a b).data.toList.length from Array.length_toList.symm, hd]; simp; omega
  have hs : splitS (planS a b) 47 = [numS a, numS b] := by
    have hj : (planS a b).data.toList[(Lib.itoa a).length]? = some 47 := by rw [hd]; simp
    have hn : ∀ i : Nat, i < (Lib.itoa a).length → (planS a b).data.toList[i]? ≠ some 47 := by
      intro i hi e
      rw [hd, List.getElem?_append_left hi] at e
      rcases valV_plain va 47 (by show _ ∈ Lib.itoa a; exact List.mem_of_getElem? e) with h1 | h1
      · cases h1
      · simp at h1
    rw [splitS_hit hj hn]
    have e1 : (planS a b).extract 0 (Lib.itoa a).length = numS a := by
      apply ba_ext
      rw [Lib.extract_data, hd]
      simp [numS]
    have e2 : (planS a b).extract ((Lib.itoa a).length + 1) (planS a b).size = numS b := by
      apply ba_ext
      rw [Lib.extract_data, hd, hl]
      have e3 : List.drop ((Lib.itoa a).length + 1) (Lib.itoa a ++ 47 :: Lib.itoa b) = Lib.itoa b := by simp
      rw [e3, List.take_of_length_le (by omega)]; rfl
    rw [e1, e2, valV_split (by decide) vb]
  rw [planV_two hs va vb, if_pos h]
theorem reads_one {w : World} {b B : Nat} {u : Value} (hc : w.cell? ⟨b, 0, none⟩ = some u) (hb : b < B) : Reads w B 1 (some ⟨b, 0, none⟩) 1 [u] := by
  refine ⟨rfl, fun _ => ⟨_, rfl, hb, fun j x hx => ?_⟩⟩
  cases j with
  | zero => simp at hx; subst hx; simpa [Addr.add] using hc
  | succ j => simp at hx
theorem red_bd {a b : Int} (h0 : 0 ≤ a) (h1 : 1 ≤ b) : 0 ≤ redA a b ∧ 1 ≤ redB a b ∧ redA a b ≤ a ∧ redB a b ≤ b := by
  obtain ⟨g, _, _, _, h⟩ := red_spec h0 h1
  exact h
theorem chI_pos {L S : Nat} (hL : L ≤ 40) (hS : S ≤ L) : 1 ≤ chI L S := by
  have := ch_pos (n := L) (k := S) hL hS
  unfold chI; omega
/-- What a round of the law looks at. -/
theorem round_facts {L S k : Nat} {ac : Int} (l2 : L ≤ 19) (z1 : 1 ≤ S) (z2 : S ≤ L) (a1 : 0 ≤ ac) (a2 : ac ≤ 3) (a3 : ac ≤ S) (hk : k ≤ L) :
    (1 ≤ redB (accI L k S ac) (chI L S) ∧ redB (accI L k S ac) (chI L S) ≤ 1048576 ∧ 0 ≤ redA (accI L k S ac) (chI L S) ∧ redA (accI L k S ac) (chI L S) ≤ 1048576 ∧ redA (accI L k S ac) (chI L S) * chI L S = accI L k S ac * redB (accI L k S ac) (chI L S)) ∧
    (1 ≤ redB (mlT L k ac (S : Int).toNat) (chI L k) ∧ redB (mlT L k ac (S : Int).toNat) (chI L k) ≤ 1048576 ∧ redA (mlT L k ac (S : Int).toNat) (chI L k) ≤ (S : Int) * redB (mlT L k ac (S : Int).toNat) (chI L k) ∧ min (S : Int) (ac + 1) * redB (mlT L k ac (S : Int).toNat) (chI L k) ≤ redA (mlT L k ac (S : Int).toNat) (chI L k) ∧ ((k : Int) ≤ ac → redA (mlT L k ac (S : Int).toNat) (chI L k) = (S : Int) * redB (mlT L k ac (S : Int).toNat) (chI L k))) ∧
    (0 ≤ accI L k S ac ∧ accI L k S ac ≤ 1048576 ∧ chI L S ≤ 1048576 ∧ 0 ≤ chI L S) ∧ ((k : Int) ≤ ac → accI L k S ac = chI L S) ∧ (1 ≤ k → accI L k S ac ≤ accI L ((k : Int) - 1) S ac) := by
  have c1 := chI_pos (L := L) (S := S) (by omega) z2
  have c2 := chI_pos (L := L) (S := k) (by omega) hk
  have c3 := chI20 (n := (L : Nat)) (by omega) (by omega) (S : Int)
  have c4 := chI20 (n := (L : Nat)) (by omega) (by omega) (k : Int)
  have b1 := accI_nn L k S ac
  have b2 := accI_pow (lot := L) (bad := k) (by omega) (by omega) (by omega) S (a := ac) (by omega)
  obtain ⟨e1, e2, e3⟩ := curve_at (lot := L) (b := (k : Nat)) (s := S) (a := ac) (by omega) (by omega) (by omega) (by omega) (by omega) a1 (by omega)
  have hS : (S : Int).toNat = S := Int.toNat_natCast S
  rw [hS]
  obtain ⟨f1, f2, f3⟩ := looks_at (lot := L) (bad := (k : Nat)) (ac := ac) (by omega) (by omega) (by omega) a1 (by omega) S (by omega)
  have t0 : 0 ≤ mlT L k ac S := (mlT_bd (lot := L) (bad := (k : Nat)) (ac := ac) (by omega) (by omega) S (by omega)).1
  obtain ⟨g, hg, s1, s2, s3, s4, s5, s6⟩ := red_spec b1 c1
  obtain ⟨g', hg', u1, u2, u3, u4, u5, u6⟩ := red_spec t0 c2
  refine ⟨⟨s4, by omega, s3, by omega, red_cross b1 c1⟩, ⟨u4, by omega, red_le t0 c2 f1, red_ge t0 c2 f2, fun h => ?_⟩, ⟨b1, by omega, by omega, by omega⟩, fun h => e2 (.inl h), fun h => e3 (by omega)⟩
  have h1 := f3 h
  exact Int.le_antisymm (red_le t0 c2 (by omega)) (red_ge t0 c2 (by omega))
/-- What a round calls and looks at. -/
theorem round_pack {L S k : Nat} {ac : Int} (l2 : L ≤ 19) (z1 : 1 ≤ S) (z2 : S ≤ L) (a1 : 0 ≤ ac) (a2 : ac ≤ 3) (a3 : ac ≤ S) (hk : k ≤ L) (hok : lotOk (L : Int) (S : Int) ac = true) :
    ∃ N M U V : Int, (∀ W : World, Calls Tryd.prog 9 #[.int .i64 L, .int .i64 k, .agg #[.int .i64 S, .int .i64 ac]] W fun e w' => e = .returned (.tuple #[.int .i64 N, .int .i64 M, .bool true]) ∧ Below W.heap.size W w') ∧
      (∀ W : World, Calls Tryd.prog 10 #[.int .i64 L, .int .i64 k, .agg #[.int .i64 S, .int .i64 ac]] W fun e w' => e = .returned (.tuple #[.int .i64 U, .int .i64 V, .bool true]) ∧ Below W.heap.size W w') ∧
      (decide (M < 1) = false ∧ decide (N < 0) = false ∧ (N * chI L S != accI L k S ac * M) = false ∧ decide (V < 1) = false ∧ decide ((S : Int) * V < U) = false ∧ decide (U < min (S : Int) (ac + 1) * V) = false) ∧
      (IntKind.i64.wrap (N * chI L S) = N * chI L S ∧ IntKind.i64.wrap (accI L k S ac * M) = accI L k S ac * M ∧ IntKind.i64.wrap ((S : Int) * V) = (S : Int) * V ∧ IntKind.i64.wrap (ac + 1) = ac + 1 ∧ IntKind.i64.wrap (min (S : Int) (ac + 1) * V) = min (S : Int) (ac + 1) * V) ∧
      ((k : Int) ≤ ac → (accI L k S ac != chI L S) = false ∧ (U != (S : Int) * V) = false) ∧
      (1 ≤ k → decide (accI L ((k : Int) - 1) S ac < accI L k S ac) = false ∧ IntKind.i64.wrap ((k : Int) - 1) = (k : Int) - 1 ∧ ((k : Int) - 1).toNat = k - 1) ∧
      0 ≤ accI L k S ac ∧ accI L k S ac ≤ 1048576 := by
  have hkI : (k : Int) ≤ (L : Int) := by omega
  have hS : ∀ W, _ := fun W : World => i_AcceptShare (w := W) (lot := L) (bad := (k : Nat)) hok (by omega) hkI
  have hM : ∀ W, _ := fun W : World => i_MeanLooks (w := W) (lot := L) (bad := (k : Nat)) hok (by omega) hkI
  obtain ⟨⟨s1, s2, s3, s4, s5⟩, ⟨t1, t2, t3, t4, t5⟩, ⟨u1, u2, u3, u4⟩, x1, x2⟩ := round_facts (L := L) (S := S) (k := k) (ac := ac) l2 z1 z2 a1 a2 a3 hk
  refine ⟨_, _, _, _, hS, hM, ?_⟩
  clear hS hM
  generalize redA (accI L (k : Nat) S ac) (chI L S) = N at *
  generalize redB (accI L (k : Nat) S ac) (chI L S) = M at *
  generalize redA (mlT L (k : Nat) ac (S : Int).toNat) (chI L (k : Nat)) = U at *
  generalize redB (mlT L (k : Nat) ac (S : Int).toNat) (chI L (k : Nat)) = V at *
  generalize accI L (k : Nat) S ac = A at *
  generalize accI L ((k : Int) - 1) S ac = Z at *
  generalize chI L S = C at *
  obtain ⟨n1, n2⟩ := mulI2 s3 s4 u4 u3
  obtain ⟨n3, n4⟩ := mulI2 (a := A) (b := M) u1 u2 (by omega) s2
  obtain ⟨n5, n6⟩ := mulI2 (a := (S : Int)) (b := V) (A := 19) (by omega) (by omega) (by omega) t2
  obtain ⟨n7, n8⟩ := mulI2 (a := min (S : Int) (ac + 1)) (b := V) (A := 19) (by omega) (by omega) (by omega) t2
  refine ⟨⟨by simp; omega, by simp; omega, by rw [s5]; simp, by simp; omega, by simp; omega, by simp; omega⟩, ⟨IntWalk.i64_in _ (by omega), IntWalk.i64_in _ (by omega), IntWalk.i64_in _ (by omega), IntWalk.i64_in _ (by omega), IntWalk.i64_in _ (by omega)⟩, fun h => ⟨by rw [x1 h]; simp, by rw [t5 h]; simp⟩, fun h => ⟨?_, IntWalk.i64_in _ (by omega), by omega⟩, u1, u2⟩
  have := x2 h
  simp; omega
/-- What two sets of parts give. -/
theorem dbl_facts {L S : Nat} {good ac : Int} (l2 : L ≤ 19) (z1 : 1 ≤ S) (z2 : 2 * S ≤ L) (g1 : 0 ≤ good) (g2 : good ≤ L) (a1 : 0 ≤ ac) (a2 : ac ≤ 3) (a3 : ac ≤ S) :
    (0 ≤ redA (accI L good S ac) (chI L S) ∧ redA (accI L good S ac) (chI L S) ≤ 1048576) ∧ (1 ≤ redB (accI L good S ac) (chI L S) ∧ redB (accI L good S ac) (chI L S) ≤ 1048576) ∧
    (0 ≤ redA (dsT L good S ac S ac (ac + 1) ((S : Int) + 1).toNat) (chI L S * chI ((L : Int) - S) S) ∧ redA (dsT L good S ac S ac (ac + 1) ((S : Int) + 1).toNat) (chI L S * chI ((L : Int) - S) S) ≤ 1099511627776) ∧
    (1 ≤ redB (dsT L good S ac S ac (ac + 1) ((S : Int) + 1).toNat) (chI L S * chI ((L : Int) - S) S) ∧ redB (dsT L good S ac S ac (ac + 1) ((S : Int) + 1).toNat) (chI L S * chI ((L : Int) - S) S) ≤ 1099511627776) ∧
    (0 ≤ redA (dsT L good S ac S S ((S : Int) + 1) ((S : Int) + 1).toNat) (chI L S * chI ((L : Int) - S) S) ∧ redA (dsT L good S ac S S ((S : Int) + 1) ((S : Int) + 1).toNat) (chI L S * chI ((L : Int) - S) S) ≤ 1099511627776) ∧
    (1 ≤ redB (dsT L good S ac S S ((S : Int) + 1) ((S : Int) + 1).toNat) (chI L S * chI ((L : Int) - S) S) ∧ redB (dsT L good S ac S S ((S : Int) + 1) ((S : Int) + 1).toNat) (chI L S * chI ((L : Int) - S) S) ≤ 1099511627776) ∧
    redA (dsT L good S ac S ac (ac + 1) ((S : Int) + 1).toNat) (chI L S * chI ((L : Int) - S) S) * redB (accI L good S ac) (chI L S) = redA (accI L good S ac) (chI L S) * redB (dsT L good S ac S ac (ac + 1) ((S : Int) + 1).toNat) (chI L S * chI ((L : Int) - S) S) ∧
    redA (accI L good S ac) (chI L S) * redB (dsT L good S ac S S ((S : Int) + 1) ((S : Int) + 1).toNat) (chI L S * chI ((L : Int) - S) S) ≤ redA (dsT L good S ac S S ((S : Int) + 1) ((S : Int) + 1).toNat) (chI L S * chI ((L : Int) - S) S) * redB (accI L good S ac) (chI L S) := by
  have A0 := accI_nn L good S ac
  have A2 := accI_pow (lot := L) (bad := good) (by omega) g1 (by omega) S (a := ac) (by omega)
  have C1 := chI_pos (L := L) (S := S) (by omega) (by omega)
  have C2 := chI20 (n := (L : Nat)) (by omega) (by omega) (S : Int)
  have R1 : 1 ≤ chI ((L : Int) - S) S := by
    have := chI_pos (L := L - S) (S := S) (by omega) (by omega)
    rwa [show ((L - S : Nat) : Int) = (L : Int) - S by omega] at this
  have R2 := chI20 (n := (L : Int) - S) (by omega) (by omega) (S : Int)
  have D1 := dsT_one (lot := L) (bad := good) (sz := S) (ac := ac) (bsz := S) (bac := ac) a1 a3
  have D2 := dsT_two (lot := L) (bad := good) (sz := S) (ac := ac) (bsz := S) (bac := S) (rej := (S : Int) + 1) a1 a3
  have E1 := dsT_pow (lot := L) (bad := good) (asz := S) (aac := ac) (bsz := S) (bac := ac) (rej := ac + 1) (k := ((S : Int) + 1).toNat) (by omega) g1 (by omega) (by omega) (by omega) (by omega) (by omega)
  have E2 := dsT_pow (lot := L) (bad := good) (asz := S) (aac := ac) (bsz := S) (bac := S) (rej := (S : Int) + 1) (k := ((S : Int) + 1).toNat) (by omega) g1 (by omega) (by omega) (by omega) (by omega) (by omega)
  have F1 := (dsT_bd (lot := L) (bad := good) (asz := S) (aac := ac) (bsz := S) (bac := ac) (rej := ac + 1) (by omega) g1 (by omega) (by omega) (by omega) (by omega) ((S : Int) + 1).toNat).1
  have F2 := (dsT_bd (lot := L) (bad := good) (asz := S) (aac := ac) (bsz := S) (bac := S) (rej := (S : Int) + 1) (by omega) g1 (by omega) (by omega) (by omega) (by omega) ((S : Int) + 1).toNat).1
  have CR : 1 ≤ chI L S * chI ((L : Int) - S) S := by
    have := Int.mul_le_mul C1 R1 (by omega) (by omega)
    omega
  have CR2 := (mulI2 (a := chI L S) (b := chI ((L : Int) - S) S) (by omega) C2 (by omega) R2).2
  have T1 := red_two_eq A0 C1 R1 CR _ F1 D1
  have T2 := red_two A0 C1 R1 CR _ F2 D2
  obtain ⟨P3, P4, P5, P6⟩ := red_bd A0 C1
  obtain ⟨Q3, Q4, Q5, Q6⟩ := red_bd F1 CR
  obtain ⟨U3, U4, U5, U6⟩ := red_bd F2 CR
  exact ⟨⟨P3, by omega⟩, ⟨P4, by omega⟩, ⟨Q3, by omega⟩, ⟨Q4, by omega⟩, ⟨U3, by omega⟩, ⟨U4, by omega⟩, T1, T2⟩
set_option maxHeartbeats 8000000 in
theorem law_Plans {A A' : Option Addr} {n n' c c' : Nat} {xs ys : List Int} {bm : Int} {w : World} (h : Reads w w.heap.size 1 A n (bytesI xs)) (h' : Reads w w.heap.size 1 A' n' (bytesI ys)) (hy : ∀ a ∈ ys, (Lit.int .u8 a).wf = true)
    (hm : w.cell? ⟨renCutF.g 1, 0, none⟩ = some (.int .i64 bm)) (he : Errs w) (htab : Lib.TabIs Tryd.prog w "internal/strconv.uint64pow10" .u64 Lib.pow10Tab) (hn : n ≤ 48) (hn' : n' ≤ 48) :
    Calls Tryd.prog 3 #[.slice A n c, .slice A' n' c'] w fun e w' => e = .returned (.bool true) ∧ Below w.heap.size w w' := by
  go_enter Tryd.func3, Tryd.ntmps3
  go_wp2_with fail
  refine (l_r8Long_no hn hn').mono ?_
  rintro e w1 ⟨rfl, rfl⟩
  go_wp2_with fail
  refine (l_r8At (k := 40) (m := 16) h' hy hn' (by omega) (by omega)).mono ?_
  rintro e w1 ⟨rfl, v0, rfl, p0, q0⟩
  replace q0 := q0 (by omega)
  obtain ⟨L, hL⟩ := Int.eq_ofNat_of_zero_le (show 0 ≤ 4 + v0 by omega)
  have l1 : 4 ≤ L := by omega
  have l2 : L ≤ 19 := by omega
  go_wp2_with fail
  clear hL p0 q0
  refine (l_r8At (k := 41) (m := (L : Int)) h' hy hn' (by omega) (by omega)).mono ?_
  rintro e w1 ⟨rfl, v1, rfl, p1, q1⟩
  replace q1 := q1 (by omega)
  obtain ⟨S, hS⟩ := Int.eq_ofNat_of_zero_le (show 0 ≤ 1 + v1 by omega)
  have z1 : 1 ≤ S := by omega
  have z2 : S ≤ L := by omega
  go_wp2_with fail
  clear hS p1 q1
  refine (l_r8At (k := 42) (m := min 4 ((S : Int) + 1)) h' hy hn' (by omega) (by omega)).mono ?_
  rintro e w1 ⟨rfl, ac, rfl, a1, q2⟩
  replace q2 := q2 (by omega)
  have a2 : ac ≤ 3 := by omega
  have a3 : ac ≤ S := by omega
  clear q2
  have hok : lotOk (L : Int) (S : Int) ac = true := by unfold lotOk planOkT inB; simp; omega
  have hpok : planOkT (S : Int) ac = true := by unfold planOkT inB; simp; omega
  have blk := Blk.new w 26 #[.int .i64 (S : Int), .int .i64 ac]
  have bel : Below w.heap.size w (w.alloc (.cells #[.int .i64 (S : Int), .int .i64 ac] 26)) := (Below.refl _ _).alloc (Nat.le_refl _) _
  go_wp2_with fail
  refine (i_AcceptCurve hok).mono ?_
  rintro e w2 ⟨v, rfl, hown, hb⟩
  replace blk := blk.below hb blk.lt
  replace bel := bel.trans (hb.mono bel.size)
  have hlp : w.heap.size < w2.heap.size := blk.lt
  obtain ⟨g, cp, rfl⟩ := own_addr hown (by omega)
  have hgl := (hown.lt g rfl).2
  have Hown := hide hown
  clear hown hb
  have c0 := blk.cell 0
  have c1 := blk.cell 1
  have r2 := hide ((h'.below bel).more bel.size)
  have k0 : w2.cell? ⟨w.heap.size, 0, none⟩ = some (.int .i64 (S : Int)) := c0
  have k1 : w2.cell? ⟨w.heap.size, 1, none⟩ = some (.int .i64 ac) := c1
  clear c0 c1
  obtain ⟨q, x, hq, hql, hcall⟩ := r8_any (c := c') (k := 43) r2.out hy hn' (by omega) k0 hlp
  have ne0 := World.new_ne w2 _ k0
  have ne1 := World.new_ne w2 _ hq
  have hqa : ∀ o : Obj, (w2.alloc o).cell? q = some x := fun o => (World.cell?_alloc_lt _ _ _ hql).trans hq
  replace hcall := hide hcall
  replace hqa := hide hqa
  go_wp2_with fail
  go_cut [11, 12] from 70 to 79 (fun s11 s12 wx => ∃ g3 cp3 : Nat, s11 = .slice (some ⟨g3, 0, none⟩) 1 cp3 ∧ s12 = .bool true ∧ Hid (g3 < wx.heap.size ∧ wx.cell? ⟨g3, 0, none⟩ = some (.int .i64 (curveL L S ac (L + 1)).sum) ∧ Below w2.heap.size w2 wx))
  case first =>
    go_region_held3 (fun w' => w'.cell? ⟨w.heap.size, 0, none⟩ = some (.int .i64 (S : Int)) ∧ w'.cell? ⟨w.heap.size, 1, none⟩ = some (.int .i64 ac) ∧ w'.cell? q = some x) (first | assumption | go_keep)
      (first
        | (go_at_call 5; refine (hcall.out 8 _ (by omega) (by first | assumption | exact hqa.out _ | exact hq)).mono ?_; rintro e wr ⟨rfl, v3, rfl, p3, q3⟩; replace q3 := q3 (by omega); have e3 : IntKind.i64.wrap (1 + v3) = 1 + v3 := IntWalk.i64_in _ (by omega))
        | (go_at_call 7; refine (i_CurvesShared (L := L) (B := w2.heap.size + 1) hok (reads_one (by simp) (by omega)) (by simp) (by omega) (by omega)).mono ?_; rintro e w3 ⟨g3, cp3, rfl, hg3, hgl3, hc3, hb3⟩; have hb4 : Below (w2.heap.size + 1) (w2.alloc (.cells #[.int .i64 (L : Int)] 2)) w3 := ⟨hb3.os, hb3.tape, hb3.output, by simpa using hb3.size, fun i hi => hb3.block i (by simpa using hi)⟩; have B3 := ((Below.refl w2.heap.size w2).alloc (Nat.le_refl _) (.cells #[.int .i64 (L : Int)] 2)).trans (hb4.mono (by omega)); have K3 : w3.cell? ⟨w.heap.size, 0, none⟩ = some (.int .i64 (S : Int)) ∧ w3.cell? ⟨w.heap.size, 1, none⟩ = some (.int .i64 ac) ∧ w3.cell? q = some x := ⟨(B3.cell hlp).trans k0, (B3.cell hlp).trans k1, (B3.cell hql).trans hq⟩; clear hb3 hb4))
    all_goals
      go_wp2_with fail
      go_meet
      exact ⟨g3, cp3, rfl, rfl, hide ⟨hgl3, hc3, B3⟩⟩
  case rest =>
    obtain ⟨g3, cp3, rfl, rfl, hcc⟩ := hcut
    obtain ⟨hgl3, hc3, B3⟩ := hcc.out
    clear hcall hqa hq ne0 ne1 hcc
    have HC : Hid (∀ b : Nat, b ≤ L → wc.cell? ⟨g, b, none⟩ = some (.int .i64 (accI L (b : Nat) S ac))) := hide (fun b hb => by
      have h1 := (own_cell Hown.out (i := b) (by show (il (curveL L S ac (L + 1)))[b]? = some (.int .i64 (accI L (b : Nat) S ac)); rw [List.getElem?_map, curveL_at (by omega)]; rfl)).1
      exact (B3.cell (p := ⟨g, b, none⟩) hgl).trans h1)
    have e0 : wc.cell? ⟨g, 0, none⟩ = some (.int .i64 (chI L S)) := by
      have h1 := HC.out 0 (by omega)
      rwa [(curve_at (lot := L) (b := (0 : Nat)) (s := S) (a := ac) (by omega) (by omega) (by omega) (by omega) (by omega) a1 (by omega)).2.1 (.inl (by omega))] at h1
    have j0 : wc.cell? ⟨w.heap.size, 0, none⟩ = some (.int .i64 (S : Int)) := (B3.cell hlp).trans k0
    have j1 : wc.cell? ⟨w.heap.size, 1, none⟩ = some (.int .i64 ac) := (B3.cell hlp).trans k1
    have hgl3' : g < wc.heap.size := Nat.lt_of_lt_of_le hgl B3.size
    have hlp3 : w.heap.size < wc.heap.size := Nat.lt_of_lt_of_le hlp B3.size
    replace r2 := hide ((r2.out.below B3).more B3.size)
    replace bel := bel.trans (B3.mono bel.size)
    clear Hown B3 blk k0 k1 hgl hlp hql
    go_wp2_with fail
    refine i_ValidPlanT.mono ?_
    rintro e w4 ⟨rfl, hb⟩
    rw [hpok]
    replace e0 := (hb.cell hgl3').trans e0
    replace j0 := (hb.cell hlp3).trans j0
    replace j1 := (hb.cell hlp3).trans j1
    replace hc3 := (hb.cell hgl3).trans hc3
    replace HC : Hid (∀ b : Nat, b ≤ L → w4.cell? ⟨g, b, none⟩ = some (.int .i64 (accI L (b : Nat) S ac))) := hide (fun b hb' => (hb.cell (p := ⟨g, b, none⟩) hgl3').trans (HC.out b hb'))
    replace r2 := hide ((r2.out.below hb).more hb.size)
    replace bel := bel.trans (hb.mono bel.size)
    replace hgl3' := Nat.lt_of_lt_of_le hgl3' hb.size
    replace hgl3 := Nat.lt_of_lt_of_le hgl3 hb.size
    replace hlp3 := Nat.lt_of_lt_of_le hlp3 hb.size
    clear hb
    have hsum := curveL_bd (L := L) (sz := (S : Int)) (ac := ac) (by omega) (by omega)
    replace hsum := hide hsum
    go_wp2_with fail
    go_loopw [13, 14] (fun s i wr => ∃ k : Nat, ∃ m : Int, k ≤ L + 1 ∧ i = .int .i64 k ∧ s = .int .i64 m ∧ Hid (m = ((curveL L S ac (L + 1)).take k).sum) ∧ 0 ≤ m ∧ m ≤ k * 45079976738816 ∧ Hid (Below w4.heap.size w4 wr)) (fun _ i _ => L + 1 - (intOf i).toNat)
    case atStart => exact ⟨0, 0, Nat.zero_le _, rfl, rfl, hide (by simp), Int.le_refl _, by omega, hide (Below.refl _ _)⟩
    case round =>
      obtain ⟨k, m, hk, rfl, rfl, hmm, m0, m1, hbel⟩ := hrel
      have i0 := (hbel.out.cell (p := ⟨w.heap.size, 0, none⟩) hlp3).trans j0
      have i1 := (hbel.out.cell (p := ⟨w.heap.size, 1, none⟩) hlp3).trans j1
      by_cases hkL : k < L + 1
      · have hkI : (k : Int) ≤ (L : Int) := by omega
        obtain ⟨N, M, U, V, HA, HM, ⟨y1, y2, y3, y5, y6, y7⟩, ⟨w1, w2', w3', w4', w5'⟩, x1, x2, u1, u2⟩ := round_pack (L := L) (S := S) (k := k) (ac := ac) l2 z1 z2 a1 a2 a3 (by omega) hok
        replace HA := hide HA
        replace HM := hide HM
        replace x1 := hide x1
        replace x2 := hide x2
        go_wp2_with fail
        refine (HA.out _).mono ?_
        rintro e w5 ⟨rfl, hb5⟩
        have bel5 := hbel.out.trans (hb5.mono hbel.out.size)
        replace i0 := (bel5.cell (p := ⟨w.heap.size, 0, none⟩) hlp3).trans j0
        replace i1 := (bel5.cell (p := ⟨w.heap.size, 1, none⟩) hlp3).trans j1
        clear hb5 HA
        go_wp2_with fail
        refine (HM.out _).mono ?_
        rintro e w6 ⟨rfl, hb6⟩
        have bel6 := bel5.trans (hb6.mono bel5.size)
        replace i0 := (bel6.cell (p := ⟨w.heap.size, 0, none⟩) hlp3).trans j0
        replace i1 := (bel6.cell (p := ⟨w.heap.size, 1, none⟩) hlp3).trans j1
        have ck := (bel6.cell (p := ⟨g, k, none⟩) hgl3').trans (HC.out k (by omega))
        clear hb6 bel5 HM
        -- [ROUND
        have HS : Hid (((curveL L S ac (L + 1)).take (k + 1)).sum = m + accI L (k : Nat) S ac) := hide (by rw [sum_succ (curveL_at (by omega)), ← hmm.out])
        go_wp2
        refine wp_region_quiet_lit (by kernel_rfl) (by as_aux_lemma => kernel_rfl) ?_
        simp only [List.append_eq, List.cons_append, List.nil_append]
        by_cases k0 : k = 0
        · as_aux_lemma =>
            -- [R0
            obtain ⟨y8, y9⟩ := x1.out (by omega)
            have kd : decide ((0 : Int) < (k : Int)) = false := by simp; omega
            have kd2 : decide (0 < k) = false := by simp; omega
            have kn : decide ((k : Int) ≤ ac) = true := by simp; omega
            clear k0 x1 x2
            repeat (go_big_quiet_step (fail))
            refine wpQuiet_nil ?_
            intro _ hw'
            obtain ⟨nq, hw''⟩ := hw'
            subst hw''
            clear w1 w2' w3' w4' w5' y1 y2 y3 y5 y6 y7
            go_wp2
            refine ⟨⟨k + 1, m + accI L (k : Nat) S ac, (by omega : k + 1 ≤ L + 1), by go_num, by go_num, hide HS.out.symm, by omega, by push_cast; omega, hide (below_drewN bel6 _)⟩, ?_⟩
            simp [intOf]; try omega
            -- R0]
        · have k1 : 1 ≤ k := by omega
          have cj := (bel6.cell (p := ⟨g, k - 1, none⟩) hgl3').trans (HC.out (k - 1) (by omega))
          rw [show ((k - 1 : Nat) : Int) = (k : Int) - 1 by omega] at cj
          obtain ⟨y4, w6', w7'⟩ := x2.out k1
          have kd : decide (0 < k) = true := by simp; omega
          have kd2 : decide ((0 : Int) < (k : Int)) = true := by simp; omega
          clear x2 k0
          by_cases ka : (k : Int) ≤ ac
          · as_aux_lemma =>
              -- [R1
              obtain ⟨y8, y9⟩ := x1.out ka
              have kn : decide ((k : Int) ≤ ac) = true := decide_eq_true ka
              clear x1
              repeat (go_big_quiet_step (fail))
              refine wpQuiet_nil ?_
              intro _ hw'
              obtain ⟨nq, hw''⟩ := hw'
              subst hw''
              clear w1 w2' w3' w4' w5' y1 y2 y3 y5 y6 y7
              go_wp2
              refine ⟨⟨k + 1, m + accI L (k : Nat) S ac, (by omega : k + 1 ≤ L + 1), by go_num, by go_num, hide HS.out.symm, by omega, by push_cast; omega, hide (below_drewN bel6 _)⟩, ?_⟩
              simp [intOf]; try omega
              -- R1]
          · as_aux_lemma =>
              -- [R2
              have kn : decide ((k : Int) ≤ ac) = false := decide_eq_false ka
              clear x1
              repeat (go_big_quiet_step (fail))
              refine wpQuiet_nil ?_
              intro _ hw'
              obtain ⟨nq, hw''⟩ := hw'
              subst hw''
              clear w1 w2' w3' w4' w5' y1 y2 y3 y5 y6 y7
              go_wp2
              refine ⟨⟨k + 1, m + accI L (k : Nat) S ac, (by omega : k + 1 ≤ L + 1), by go_num, by go_num, hide HS.out.symm, by omega, by push_cast; omega, hide (below_drewN bel6 _)⟩, ?_⟩
              simp [intOf]; try omega
              -- R2]
        -- ROUND]
      · as_aux_lemma =>
        -- [EXIT
        obtain rfl : k = L + 1 := by omega
        have hkI : ¬ (((L + 1 : Nat) : Int) ≤ (L : Int)) := by omega
        have HE : (curveL L S ac (L + 1)).sum = m := by rw [hmm.out, List.take_of_length_le (by rw [curveL_len]; exact Nat.le_refl _)]
        have cs : wr.cell? ⟨g3, 0, none⟩ = some (.int .i64 m) := by rw [← HE]; exact (hbel.out.cell (p := ⟨g3, 0, none⟩) hgl3).trans hc3
        have r3 := (r2.out.below hbel.out).more hbel.out.size
        have bel7 := bel.trans (hbel.out.mono bel.size)
        clear HE hmm hbel HC hsum e0 j0 j1 hc3 r2
        go_wp2_with fail
        refine (l_r8At (k := 44) (m := (L : Int)) r3 hy hn' (by omega) (by omega)).mono ?_
        rintro e w8 ⟨rfl, v4, rfl, p4, q4⟩
        replace q4 := q4 (by omega)
        obtain ⟨bad, hbad⟩ := Int.eq_ofNat_of_zero_le (show 0 ≤ 1 + v4 by omega)
        have b1 : 1 ≤ bad := by omega
        have b2 : bad ≤ L := by omega
        go_wp2_with fail
        clear hbad p4 q4
        refine (l_r8At (k := 45) (m := (bad : Int)) r3 hy hn' (by omega) (by omega)).mono ?_
        rintro e w8 ⟨rfl, good, rfl, g1, g2⟩
        replace g2 := g2 (by omega)
        go_wp2_with fail
        refine (l_r8At (k := 46) (m := 20) r3 hy hn' (by omega) (by omega)).mono ?_
        rintro e w8 ⟨rfl, v6, rfl, p6, q6⟩
        replace q6 := q6 (by omega)
        go_wp2_with fail
        refine (l_r8At (k := 47) (m := 20) r3 hy hn' (by omega) (by omega)).mono ?_
        rintro e w8 ⟨rfl, v7, rfl, p7, q7⟩
        replace q7 := q7 (by omega)
        clear r3 hy
        go_wp2_with fail
        refine (i_BestPlan (lot := L) (good := good) (bad := bad) (risk := 25 * v6) (chance := 25 * v7) (by omega) (by omega) g1 (by omega) (by omega) (by omega) (by omega) (by omega) (by omega)).mono ?_
        rintro e w8 ⟨hb8, bs, ba, ok, rfl, hbest⟩
        have bel8 := (bel7.trans (hb8.mono bel7.size)).alloc (by have := hb8.size; have := bel7.size; omega) (.cells #[.int .i64 bs, .int .i64 ba] 26)
        have hlw : w.heap.size < wr.heap.size := Go.Clock.block_lt i0
        have n0 : (w8.alloc (.cells #[.int .i64 bs, .int .i64 ba] 26)).cell? ⟨w.heap.size, 0, none⟩ = some (.int .i64 (S : Int)) := (World.cell?_alloc_lt _ _ _ (Nat.lt_of_lt_of_le hlw hb8.size)).trans ((hb8.cell (p := ⟨w.heap.size, 0, none⟩) hlw).trans i0)
        have n1 : (w8.alloc (.cells #[.int .i64 bs, .int .i64 ba] 26)).cell? ⟨w.heap.size, 1, none⟩ = some (.int .i64 ac) := (World.cell?_alloc_lt _ _ _ (Nat.lt_of_lt_of_le hlw hb8.size)).trans ((hb8.cell (p := ⟨w.heap.size, 1, none⟩) hlw).trans i1)
        have blB := Blk.new w8 26 #[.int .i64 bs, .int .i64 ba]
        have hs8 := hb8.size
        clear bel7 hb8 i0 i1
        go_upto_if 255 with (fail)
        go_cut [27] from 254 to 307 (fun s27 wx => Hid (Below w.heap.size w wx ∧ wx.cell? ⟨w.heap.size, 0, none⟩ = some (.int .i64 (S : Int)) ∧ wx.cell? ⟨w.heap.size, 1, none⟩ = some (.int .i64 ac) ∧ wr.heap.size ≤ wx.heap.size))
        case first =>
          cases ok with
          | false =>
            have o1 : decide (good < (bad : Int)) = true := by simp; omega
            have o2 : decide (1000 ≤ 25 * v7) = false := by simp; omega
            go_wp2_with fail
            go_meet
            exact hide ⟨bel8, n0, n1, by simp; omega⟩
          | true =>
            as_aux_lemma =>
            -- [BEST
            obtain ⟨y1, y2, y3, y4, y5, y6⟩ := hbest rfl
            have hok2 : lotOk (L : Int) bs ba = true := by unfold lotOk planOkT inB; simp; omega
            have D0 := accI_nn L good bs ba
            have D1 := accI_pow (lot := L) (bad := good) (by omega) g1 (by omega) bs (a := ba) (by omega)
            have E0 := accI_nn L bad bs ba
            have E1 := accI_pow (lot := L) (bad := bad) (by omega) (by omega) (by omega) bs (a := ba) (by omega)
            obtain ⟨Bs, rfl⟩ := Int.eq_ofNat_of_zero_le (show 0 ≤ bs by omega)
            have C1 := chI_pos (L := L) (S := Bs) (by omega) (by omega)
            have C2 := chI20 (n := (L : Nat)) (by omega) (by omega) (Bs : Int)
            have P1 := red_ge2 D0 C1 y5
            have P2 := red_le2 E0 C1 y6
            obtain ⟨P3, P4, P5, P6⟩ := red_bd D0 C1
            obtain ⟨Q3, Q4, Q5, Q6⟩ := red_bd E0 C1
            have c0 := blB.cell 0
            have c1 := blB.cell 1
            have hlB := blB.lt
            go_wp2_with fail
            refine (i_AcceptShare (lot := L) (bad := good) hok2 g1 (by omega)).mono ?_
            rintro e wa ⟨rfl, hba⟩
            have bela := bel8.trans (hba.mono bel8.size)
            replace c0 := (hba.cell (p := ⟨w8.heap.size, 0, none⟩) hlB).trans c0
            replace c1 := (hba.cell (p := ⟨w8.heap.size, 1, none⟩) hlB).trans c1
            replace n0 := (hba.cell (p := ⟨w.heap.size, 0, none⟩) (show w.heap.size < _ by simp; omega)).trans n0
            replace n1 := (hba.cell (p := ⟨w.heap.size, 1, none⟩) (show w.heap.size < _ by simp; omega)).trans n1
            have hlB2 := Nat.lt_of_lt_of_le hlB hba.size
            have hsa := hba.size
            rw [World.size_alloc] at hsa
            clear hba bel8 blB
            go_wp2_with fail
            refine (i_AcceptShare (lot := L) (bad := bad) hok2 (by omega) (by omega)).mono ?_
            rintro e wb ⟨rfl, hbb⟩
            have belb := bela.trans (hbb.mono bela.size)
            replace c0 := (hbb.cell (p := ⟨w8.heap.size, 0, none⟩) hlB2).trans c0
            replace c1 := (hbb.cell (p := ⟨w8.heap.size, 1, none⟩) hlB2).trans c1
            replace n0 := (hbb.cell (p := ⟨w.heap.size, 0, none⟩) (show w.heap.size < _ by omega)).trans n0
            replace n1 := (hbb.cell (p := ⟨w.heap.size, 1, none⟩) (show w.heap.size < _ by omega)).trans n1
            have hsb := hbb.size
            clear hbb bela
            generalize redA (accI L good Bs ba) (chI L Bs) = X1 at *
            generalize redB (accI L good Bs ba) (chI L Bs) = X2 at *
            generalize redA (accI L bad Bs ba) (chI L Bs) = X3 at *
            generalize redB (accI L bad Bs ba) (chI L Bs) = X4 at *
            obtain ⟨m1', m2'⟩ := mulI2 (a := 1000 - 25 * v6) (b := X2) (A := 1000) (B := 1048576) (by omega) (by omega) (by omega) (by omega)
            obtain ⟨m3', m4'⟩ := mulI2 (a := 25 * v7) (b := X4) (A := 1000) (B := 1048576) (by omega) (by omega) (by omega) (by omega)
            have o1 : decide (X1 * 1000 < (1000 - 25 * v6) * X2) = false := by simp; omega
            have o2 : decide (25 * v7 * X4 < X3 * 1000) = false := by simp; omega
            have o3 : decide ((L : Int) < (Bs : Int)) = false := by simp; omega
            clear P1 P2 y5 y6
            go_wp2_with fail
            go_meet
            exact hide ⟨belb, n0, n1, by omega⟩
            -- BEST]
        case rest =>
          as_aux_lemma =>
          -- [REST
          obtain ⟨bel9, i0, i1, hsz9⟩ := hcut.out
          clear hcut n0 n1 blB bel8 hbest
          have A0 := accI_nn L good S ac
          have A2 := accI_pow (lot := L) (bad := good) (by omega) g1 (by omega) S (a := ac) (by omega)
          have C1 := chI_pos (L := L) (S := S) (by omega) z2
          have C2 := chI20 (n := (L : Nat)) (by omega) (by omega) (S : Int)
          go_wp2_with fail
          refine (i_AcceptShare (lot := L) (bad := good) hok g1 (by omega)).mono ?_
          rintro e wa ⟨rfl, hba⟩
          have bela := bel9.trans (hba.mono bel9.size)
          replace i0 := (hba.cell (p := ⟨w.heap.size, 0, none⟩) (show w.heap.size < _ by omega)).trans i0
          replace i1 := (hba.cell (p := ⟨w.heap.size, 1, none⟩) (show w.heap.size < _ by omega)).trans i1
          have hsza := hba.size
          clear hba bel9
          go_upto_region 34 with (fail)
          go_cut [324] from 316 to 324 (fun s324 wx => s324 = .bool (decide (2 * S ≤ L)) ∧ wx = wa)
          case first =>
            by_cases h2 : 2 * S ≤ L
            · have o1 : 2 * (S : Int) ≤ (L : Int) := by omega
              have o2 : 2 * (S : Int) ≤ 24 := by omega
              have o3 : decide (2 * S ≤ L) = true := decide_eq_true h2
              go_wp2_with fail
              go_meet
              exact ⟨by rw [o3], rfl⟩
            · have o1 : ¬ 2 * (S : Int) ≤ (L : Int) := by omega
              have o3 : decide (2 * S ≤ L) = false := decide_eq_false h2
              go_wp2_with fail
              go_meet
              exact ⟨by rw [o3], rfl⟩
          obtain ⟨hs, rfl⟩ := hcut
          obtain ⟨b, hb⟩ : ∃ b, b = decide (2 * S ≤ L) := ⟨_, rfl⟩
          rw [← hb] at hs
          subst hs
          replace hb := hide hb
          go_upto_if 324 with (fail)
          go_cut [36] from 325 to 373 (fun s36 wx => Hid (Below w.heap.size w wx ∧ wx.cell? ⟨w.heap.size, 0, none⟩ = some (.int .i64 (S : Int)) ∧ wx.cell? ⟨w.heap.size, 1, none⟩ = some (.int .i64 ac) ∧ wr.heap.size ≤ wx.heap.size))
          case first =>
            cases b with
            | true =>
              as_aux_lemma =>
              -- [DBL
              have h2 : 2 * S ≤ L := of_decide_eq_true hb.out.symm
              clear hb
              have hok3 : lotOk (L : Int) (S : Int) (S : Int) = true := by unfold lotOk planOkT inB; simp; omega
              have hSn : ((S : Int) + 1).toNat = S + 1 := by omega
              have HF := dbl_facts (L := L) (S := S) (good := good) (ac := ac) l2 z1 h2 g1 (by omega) a1 a2 a3
              rw [hSn] at HF
              replace HF := hide HF
              clear A0 A2 C1 C2
              have HD := fun W : World => i_DoubleShare (w := W) (rej := ac + 1) (lot := L) (bad := good) hok hok (by omega) g1 (by omega) (by omega) (by omega) (by omega)
              have HE := fun W : World => i_DoubleShare (w := W) (rej := (S : Int) + 1) (lot := L) (bad := good) hok hok3 (by omega) g1 (by omega) (by omega) (by omega) (by omega)
              simp only [hSn] at HD HE
              replace HD := hide HD
              replace HE := hide HE
              clear hSn
              go_wp2_with fail
              refine (HD.out _).mono ?_
              rintro e wb ⟨rfl, hbb⟩
              have belb := bela.trans (hbb.mono bela.size)
              replace i0 := (hbb.cell (p := ⟨w.heap.size, 0, none⟩) (show w.heap.size < _ by omega)).trans i0
              replace i1 := (hbb.cell (p := ⟨w.heap.size, 1, none⟩) (show w.heap.size < _ by omega)).trans i1
              have hsb := hbb.size
              clear hbb bela
              go_wp2_with fail
              refine (HE.out _).mono ?_
              rintro e wd ⟨rfl, hbd⟩
              have beld := belb.trans (hbd.mono belb.size)
              replace i0 := (hbd.cell (p := ⟨w.heap.size, 0, none⟩) (show w.heap.size < _ by omega)).trans i0
              replace i1 := (hbd.cell (p := ⟨w.heap.size, 1, none⟩) (show w.heap.size < _ by omega)).trans i1
              have hsd := hbd.size
              clear hbd belb
              obtain ⟨⟨P3, P5⟩, ⟨P4, P6⟩, ⟨Q3, Q5⟩, ⟨Q4, Q6⟩, ⟨U3, U5⟩, ⟨U4, U6⟩, T1, T2⟩ := HF.out
              clear HF HD HE
              generalize redA (accI L good S ac) (chI L S) = X1 at *
              generalize redB (accI L good S ac) (chI L S) = X2 at *
              generalize redA (dsT L good S ac S ac (ac + 1) (S + 1)) (chI L S * chI ((L : Int) - S) S) = X3 at *
              generalize redB (dsT L good S ac S ac (ac + 1) (S + 1)) (chI L S * chI ((L : Int) - S) S) = X4 at *
              generalize redA (dsT L good S ac S S ((S : Int) + 1) (S + 1)) (chI L S * chI ((L : Int) - S) S) = X5 at *
              generalize redB (dsT L good S ac S S ((S : Int) + 1) (S + 1)) (chI L S * chI ((L : Int) - S) S) = X6 at *
              obtain ⟨m1', m2'⟩ := mulI2 (a := X3) (b := X2) (A := 1099511627776) (B := 1048576) (by omega) (by omega) (by omega) (by omega)
              obtain ⟨m3', m4'⟩ := mulI2 (a := X1) (b := X4) (A := 1048576) (B := 1099511627776) (by omega) (by omega) (by omega) (by omega)
              obtain ⟨m5', m6'⟩ := mulI2 (a := X5) (b := X2) (A := 1099511627776) (B := 1048576) (by omega) (by omega) (by omega) (by omega)
              obtain ⟨m7', m8'⟩ := mulI2 (a := X1) (b := X6) (A := 1048576) (B := 1099511627776) (by omega) (by omega) (by omega) (by omega)
              have o4 : (X3 * X2 != X1 * X4) = false := by rw [T1]; simp
              have o5 : decide (X5 * X2 < X1 * X6) = false := by simp; omega
              clear T1 T2
              go_wp2_with fail
              go_meet
              exact hide ⟨beld, i0, i1, by omega⟩
              -- DBL]
            | false =>
              clear hb
              go_wp2_with fail
              go_meet
              exact hide ⟨bela, i0, i1, by omega⟩
          case rest =>
            clear hb
            as_aux_lemma =>
            -- [TEXT
            obtain ⟨belb, k0, k1, hszb⟩ := hcut.out
            clear hcut i0 i1 bela
            go_wp2_with fail
            refine (i_PlanText hpok).mono ?_
            rintro e wb ⟨rfl, hbb⟩
            have belc := belb.trans (hbb.mono belb.size)
            have j0 := (hbb.cell (p := ⟨w.heap.size, 0, none⟩) (show w.heap.size < _ by omega)).trans k0
            have j1 := (hbb.cell (p := ⟨w.heap.size, 1, none⟩) (show w.heap.size < _ by omega)).trans k1
            have hszc := hbb.size
            clear hbb belb k0 k1
            have hpv := planV_text hpok
            have hps : (planS (S : Int) ac).size ≤ 1048576 := by
              have u1 := numS_size (n := (S : Int)) (by omega)
              have u2 := numS_size (n := ac) (by omega)
              unfold planS
              rw [ByteArray.size_append, ByteArray.size_append]
              have : ByteArray.size ⟨#[47]⟩ = 1 := rfl
              omega
            have HPR : Hid (planRes (planV (planS (S : Int) ac)) = .tuple #[.agg #[.int .i64 (S : Int), .int .i64 ac], .bool true]) := hide (by rw [hpv]; rfl)
            go_wp2_with fail
            refine (i_ReadPlan hps ((belc.cell (p := ⟨renCutF.g 1, 0, none⟩) (Go.Clock.block_lt hm)).trans hm) (he.below belc) (pow_kept htab belc)).mono ?_
            rintro e wd ⟨rfl, hbd⟩
            rw [HPR.out]
            have beld := belc.trans (hbd.mono belc.size)
            have t0 : (wd.alloc (.cells #[.int .i64 (S : Int), .int .i64 ac] 26)).cell? ⟨w.heap.size, 0, none⟩ = some (.int .i64 (S : Int)) := (World.cell?_alloc_lt _ _ _ (by have := hbd.size; show w.heap.size < _; omega)).trans ((hbd.cell (p := ⟨w.heap.size, 0, none⟩) (show w.heap.size < _ by omega)).trans j0)
            have t1 : (wd.alloc (.cells #[.int .i64 (S : Int), .int .i64 ac] 26)).cell? ⟨w.heap.size, 1, none⟩ = some (.int .i64 ac) := (World.cell?_alloc_lt _ _ _ (by have := hbd.size; show w.heap.size < _; omega)).trans ((hbd.cell (p := ⟨w.heap.size, 1, none⟩) (show w.heap.size < _ by omega)).trans j1)
            clear hpv hps j0 j1
            go_wp2_with fail
            refine i_SamePlan_eq.mono ?_
            rintro e we ⟨rfl, hbe⟩
            go_wp2
            go_ret
            exact ⟨rfl, (beld.alloc (by have := beld.size; omega) _).trans (hbe.mono (by simp; have := beld.size; omega))⟩
            -- TEXT]
          -- REST]
        -- EXIT]
theorem law_PlansAll {A A' : Option Addr} {n n' c c' : Nat} {xs ys : List Int} {bm : Int} {w : World} (h : Reads w w.heap.size 1 A n (bytesI xs)) (h' : Reads w w.heap.size 1 A' n' (bytesI ys)) (hy : ∀ a ∈ ys, (Lit.int .u8 a).wf = true)
    (hm : w.cell? ⟨renCutF.g 1, 0, none⟩ = some (.int .i64 bm)) (he : Errs w) (htab : Lib.TabIs Tryd.prog w "internal/strconv.uint64pow10" .u64 Lib.pow10Tab) :
    Calls Tryd.prog 3 #[.slice A n c, .slice A' n' c'] w fun e w' => e = .returned (.bool true) ∧ Below w.heap.size w w' := by
  by_cases hn : n ≤ 48
  · by_cases hn' : n' ≤ 48
    · exact law_Plans h h' hy hm he htab hn hn'
    · have hl := l_r8Long_yes (A := A) (A' := A') (n := n) (n' := n') (c := c) (c' := c') (w := w) (.inr (by omega))
      go_enter Tryd.func3, Tryd.ntmps3
      go_wp2_with fail
      refine hl.mono ?_
      rintro e w1 ⟨rfl, rfl⟩
      go_wp2
      go_ret
      exact ⟨rfl, Below.refl _ _⟩
  · have hl := l_r8Long_yes (A := A) (A' := A') (n := n) (n' := n') (c := c) (c' := c') (w := w) (.inl (by omega))
    go_enter Tryd.func3, Tryd.ntmps3
    go_wp2_with fail
    refine hl.mono ?_
    rintro e w1 ⟨rfl, rfl⟩
    go_wp2
    go_ret
    exact ⟨rfl, Below.refl _ _⟩
end Go.Proofs.YtlpfnpcnidaijaaDoor
