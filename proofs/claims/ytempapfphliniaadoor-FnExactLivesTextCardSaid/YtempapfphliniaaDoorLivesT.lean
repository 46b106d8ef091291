/-
  LivesText: both sides.
-/
import Derived.Test.YtempapfphliniaaDoorLawT
namespace Go.Proofs.YtempapfphliniaaDoor
open Go.RowKit Mem Fl Go.Shelf
set_option linter.unusedVariables false
set_option maxRecDepth 100000

def endB (b : Bool) : UInt8 := if b then 102 else 108
def endsB (xs : List (Nat × Bool)) : ByteArray := ⟨(xs.map fun p => endB p.2).toArray⟩
def timesL (xs : List (Nat × Bool)) : List Nat := xs.map (·.1)
def livesB (xs : List (Nat × Bool)) : ByteArray := (joinedB (tx (timesL xs)) ++ ⟨#[59]⟩) ++ endsB xs
theorem endsB_size (xs : List (Nat × Bool)) : (endsB xs).size = xs.length := by show (xs.map _).toArray.size = _; simp
theorem endsB_succ {xs : List (Nat × Bool)} {k : Nat} {p : Nat × Bool} (h : xs[k]? = some p) : endsB (xs.take (k + 1)) = endsB (xs.take k) ++ ⟨#[endB p.2]⟩ := by
  apply ba_ext
  unfold endsB
  rw [take_eq h]
  simp
theorem times_succ {xs : List (Nat × Bool)} {k : Nat} {p : Nat × Bool} (h : xs[k]? = some p) : fl .f32 (timesL (xs.take (k + 1))) = fl .f32 (timesL (xs.take k)) ++ [.float .f32 p.1] := by
  unfold timesL fl
  rw [take_eq h]
  simp
theorem livesOk_rng {xs : List (Nat × Bool)} (h : livesOk xs = true) : 1 ≤ xs.length ∧ xs.length ≤ 48 := by
  unfold livesOk at h
  simp only [Bool.and_eq_true, decide_eq_true_eq] at h
  exact ⟨h.1, h.2.1⟩
theorem lives_ops (s t : ByteArray) (hs : s.size ≤ 1000000000) (ht : t.size ≤ 1000000000) :
    (∀ w, (Op.stringOp .add s ⟨#[59]⟩).run Tryd.prog w = .ok (.string (s ++ ⟨#[59]⟩)) w) ∧ ∀ w, (Op.stringOp .add (s ++ ⟨#[59]⟩) t).run Tryd.prog w = .ok (.string ((s ++ ⟨#[59]⟩) ++ t)) w := by
  have h1 : ByteArray.size ⟨#[59]⟩ = 1 := rfl
  exact ⟨fun w => run_string_add_sum (P := Tryd.prog) w _ _ (by omega), fun w => run_string_add_sum (P := Tryd.prog) w _ _ (by rw [ByteArray.size_append]; omega)⟩
/-- 'append(out, u)' of one one-celled element onto a row of the call's own; what else is kept. -/
theorem wpList_append1g {P : Program} {w0 w : World} {ops : Array Oper} {rest : List Oper} {o : Oper} {a : Act} {Q : Exit → Act → World → Prop} (hgd : o.guard = none) (s x : Operand) (t : TypeId)
    (ho : o.op = .call { callee := .builtin .append, args := #[s, x], argTypes := #[t, t] })
    (base : Nat) (e : TypeId) (z u : Value) (by_ : Nat) (hI : (P.info? e).map (fun i => (i.zero, i.size, i.bytes)) = some (some z, 1, by_)) (ht : P.underlying t = some (.slice e)) (hz : z.cells.size = 1)
    (hw : w = w0.alloc (.cells #[u] e)) (v : Value) (n : Nat) (xs : List Value) (hs : a.eval s = v) (hown : w0.ownsRow base e 1 v n xs)
    (hx : a.eval x = .slice (some ⟨w0.heap.size, 0, none⟩) 1 1) (hu : u.oneCell' = true)
    (hn : n < 1099511627776) (hby : by_ ≤ 64) (hbase : base ≤ w0.heap.size)
    (h : ∀ v' w', w'.ownsRow base e 1 v' (n + 1) (xs ++ [u]) → Below base w0 w' → (∀ g i c, g < w0.heap.size → v.ownBlock ≠ some g → w0.cell? ⟨g, i, none⟩ = some c → w'.cell? ⟨g, i, none⟩ = some c) → wpList P ops Q rest (a.put o.dst v') w') : wpList P ops Q (o :: rest) a w := by
  subst hw
  obtain ⟨i0, hi, hz0, hz1, hz2⟩ := info_parts hI
  refine wpList_append_own _ hgd s x t ho base e i0 z 1 by_ ht hi hz0 hz1 hz2 hz (by decide) v n xs hs (hown.alloc _) ⟨w0.heap.size, 0, none⟩ 1 1 [u] hx rfl (cell_one_new _ _ _) (by simpa using hu) (by simp [maxLen]; omega) ?_ (by simp; omega) ?_
  · have : (n + 1) * by_ ≤ 1099511627776 * 64 := Nat.mul_le_mul (by omega) hby
    omega
  · intro v' w' h1 h2 _
    exact h v' w' h1 (((Below.refl _ _).alloc hbase _).grown h2 (by simp; omega) (fun g hg => (hown.lt g hg).1)) fun g i c hg hne hc =>
      h2.cell ((World.cell?_alloc_lt _ _ _ hg).trans hc) (fun e => hne e.symm)
set_option maxHeartbeats 1000000 in
theorem i_LivesText {A : Option Addr} {n c : Nat} {xs : List (Nat × Bool)} {w : World} (h : livesOk xs = true) (hr : Reads w w.heap.size 2 A n (ll xs)) (wx : ∀ p ∈ xs, Wf .f32 p.1) (ht : w.cell? ⟨6, 15, none⟩ = some (.int .u8 4)) :
    Calls Tryd.prog 24 #[.slice A n c] w fun e w' => e = .returned (.tuple #[.string (livesB xs), .bool true]) ∧ Below w.heap.size w w' := by
  obtain ⟨r1, r2⟩ := livesOk_rng h
  have hl := lives_len hr
  have hlt := Go.Clock.block_lt ht
  go_enter Tryd.func24, Tryd.ntmps24
  go_wp2_with fail
  refine (i_AreLives (xs := xs) (B := w.heap.size) hr (Nat.le_refl _) (by omega)).mono ?_
  rintro e v1 ⟨rfl, hb⟩
  rw [h]
  have ht1 := (hb.cell (p := ⟨6, 15, none⟩) hlt).trans ht
  have hr1 := (hr.below hb).more hb.size
  go_wp2
  go_loopw [4, 5, 16] (fun v s i wr => ∃ k : Nat, k ≤ n ∧ i = .int .i64 k ∧ s = .string (endsB (xs.take k)) ∧ Hid (wr.ownsRow v1.heap.size 32 1 v k (fl .f32 (timesL (xs.take k)))) ∧ Below v1.heap.size v1 wr) (fun _ _ i _ => n - (intOf i).toNat)
  case atStart => exact ⟨0, Nat.zero_le _, rfl, rfl, hide (World.ownsRow_made _ _ _ (Nat.le_refl _) (by simp [maxLen]) (by simp)), (Below.refl _ _).alloc (Nat.le_refl _) _⟩
  case round =>
    obtain ⟨k, hk, rfl, rfl, hown, hbel⟩ := hrel
    by_cases hk2 : k < n
    · obtain ⟨ad, p, rfl, _, hx, hc, hc2⟩ := reads_ll (hr1.below hbel) hk2
      have HT := hide (times_succ hx)
      have HE := hide (endsB_succ hx)
      have hkI : (k : Int) < (n : Int) := by omega
      have hs1 := fun (b : UInt8) w => run_string_add_sum (P := Tryd.prog) w (endsB (xs.take k)) ⟨#[b]⟩ (by rw [endsB_size]; simp; show _ + 1 ≤ _; omega)
      have hc2b : wr.cell? ⟨(ad.add (k * 2)).block, (ad.add (k * 2)).off + 1, none⟩ = some (.bool p.2) := hc2
      have HO0 := fun o => own_below hown.out ((Below.refl wr.heap.size wr).alloc (Nat.le_refl _) o)
      have hsz := hbel.size
      have hbx := fun o => hbel.alloc hbel.size o
      have hne : u4.ownBlock ≠ some wr.heap.size := fun e => absurd (hown.out.lt _ e).2 (Nat.lt_irrefl _)
      clear hx
      cases hp : p.2
      all_goals
        rw [hp] at hc2b HE
        go_wp2_with (at_builtin; refine wpList_append1g rfl (.tmp 20) (.tmp 23) 46 rfl v1.heap.size 32 (.float .f32 0) _ 4 info_f32 Tryd.underlying46 rfl rfl _ _ _ rfl (HO0 _) (by show Value.slice (some ⟨wr.heap.size + 1, 0, none⟩) 1 1 = _; simp) rfl (by omega) (by omega) (by simp; omega) ?_)
        intro v' w' hown' hb' hkeep
        have hx1 : w'.cell? ⟨wr.heap.size, 1, none⟩ = some (.bool p.2) := hkeep _ _ _ (by simp) hne (by rw [hp]; exact (Blk.new wr _ _).cell 1)
        rw [hp] at hx1
        have hbel' := (hbx _).trans hb'
        have HO : Hid (w'.ownsRow v1.heap.size 32 1 v' (k + 1) (fl .f32 (timesL (xs.take (k + 1))))) := hide (by rw [HT.out]; exact hown')
        clear hown' hb' hkeep
        go_wp2
        go_roundw
        case rel => exact ⟨k + 1, by omega, by go_num, by rw [HE.out]; rfl, HO, hbel'⟩
        case measure => (simp [intOf]; try omega)
    · obtain rfl : k = n := by omega
      have hall : xs.take k = xs := List.take_of_length_le (by omega)
      have hown2 : wr.ownsRow v1.heap.size 32 1 u4 k (fl .f32 (timesL xs)) := by
        have := hown.out
        rwa [hall] at this
      obtain ⟨A2, c2, rfl⟩ := own_shape hown2
      have hr2 := Reads.of_own hown2
      have ht2 := (hbel.cell (p := ⟨6, 15, none⟩) (Nat.lt_of_lt_of_le hlt hb.size)).trans ht1
      have wx2 : ∀ x ∈ timesL xs, Wf .f32 x := by
        intro x hx
        obtain ⟨q, hq, rfl⟩ := List.mem_map.1 hx
        exact wx q hq
      have hz := joinedB_size (timesL xs)
      have hzl : (timesL xs).length = k := by unfold timesL; simpa using hl
      obtain ⟨hs2, hs3⟩ := lives_ops (joinedB (tx (timesL xs))) (endsB xs) (by omega) (by rw [endsB_size]; omega)
      have hkI : ¬ (k : Int) < (k : Int) := by omega
      rw [hall]
      clear hown hown2 hz hzl
      go_wp2_with fail
      refine (i_NumbersText hr2 wx2 (by omega) ht2).mono ?_
      rintro e w1 ⟨rfl, hb1⟩
      go_wp2
      go_ret2
      exact ⟨rfl, hb.trans ((hbel.trans (hb1.mono hbel.size)).mono hb.size)⟩
set_option maxHeartbeats 1000000 in
theorem s_l08Lives {A : Option Addr} {n c : Nat} {xs : List (Nat × Bool)} {w : World} (h : livesOk xs = true) (hr : Reads w w.heap.size 2 A n (ll xs)) (wx : ∀ p ∈ xs, Wf .f32 p.1) :
    Calls Tryd.prog 49 #[.slice A n c] w fun e w' => e = .returned (.string (livesB xs)) ∧ Below w.heap.size w w' := by
  obtain ⟨r1, r2⟩ := livesOk_rng h
  have hl := lives_len hr
  go_enter Tryd.func49, Tryd.ntmps49
  go_wp2
  go_loopw [3, 4, 5] (fun v s i wr => ∃ k : Nat, k ≤ n ∧ i = .int .i64 k ∧ s = .string (endsB (xs.take k)) ∧ Hid (wr.ownsRow w.heap.size 32 1 v k (fl .f32 (timesL (xs.take k)))) ∧ Below w.heap.size w wr) (fun _ _ i _ => n - (intOf i).toNat)
  case atStart => exact ⟨0, Nat.zero_le _, rfl, rfl, hide (World.ownsRow_made _ _ _ (Nat.le_refl _) (by simp [maxLen]) (by simp)), (Below.refl _ _).alloc (Nat.le_refl _) _⟩
  case round =>
    obtain ⟨k, hk, rfl, rfl, hown, hbel⟩ := hrel
    by_cases hk2 : k < n
    · obtain ⟨ad, p, rfl, had, hx, hc, hc2⟩ := reads_ll (hr.below hbel) hk2
      have HT := hide (times_succ hx)
      have HE := hide (endsB_succ hx)
      have hkI : (k : Int) < (n : Int) := by omega
      have hs1 := fun (b : UInt8) w => run_string_add_sum (P := Tryd.prog) w (endsB (xs.take k)) ⟨#[b]⟩ (by rw [endsB_size]; simp; show _ + 1 ≤ _; omega)
      have hsz := hbel.size
      have hadk : (ad.add (k * 2)).block < w.heap.size := by rw [block_of_add]; exact had
      have hc2b : wr.cell? ⟨(ad.add (k * 2)).block, (ad.add (k * 2)).off + 1, none⟩ = some (.bool p.2) := hc2
      clear hx
      cases hp : p.2
      all_goals
        rw [hp] at hc2b HE
        go_wp2_with (at_builtin; refine wpList_append1 rfl (.tmp 13) (.tmp 19) 46 rfl w.heap.size 32 (.float .f32 0) _ 4 info_f32 Tryd.underlying46 rfl rfl _ _ _ rfl hown.out rfl rfl (by omega) (by omega) hsz ?_)
        intro v' w' hown' hb'
        have hx1 : w'.cell? ⟨(ad.add (k * 2)).block, (ad.add (k * 2)).off + 1, none⟩ = some (.bool p.2) := (hb'.cell (p := ⟨(ad.add (k * 2)).block, (ad.add (k * 2)).off + 1, none⟩) hadk).trans (by rw [hp]; exact hc2b)
        rw [hp] at hx1
        have hbel' := hbel.trans hb'
        have HO : Hid (w'.ownsRow w.heap.size 32 1 v' (k + 1) (fl .f32 (timesL (xs.take (k + 1))))) := hide (by rw [HT.out]; exact hown')
        clear hown' hb' 
        go_wp2
        go_roundw
        case rel => exact ⟨k + 1, by omega, by go_num, by rw [HE.out]; rfl, HO, hbel'⟩
        case measure => (simp [intOf]; try omega)
    · obtain rfl : k = n := by omega
      have hall : xs.take k = xs := List.take_of_length_le (by omega)
      have hown2 : wr.ownsRow w.heap.size 32 1 u3 k (fl .f32 (timesL xs)) := by
        have := hown.out
        rwa [hall] at this
      obtain ⟨A2, c2, rfl⟩ := own_shape hown2
      have hr2 := Reads.of_own hown2
      have wx2 : ∀ x ∈ timesL xs, Wf .f32 x := by
        intro x hx
        obtain ⟨q, hq, rfl⟩ := List.mem_map.1 hx
        exact wx q hq
      have hz := joinedB_size (timesL xs)
      have hzl : (timesL xs).length = k := by unfold timesL; simpa using hl
      obtain ⟨hs2, hs3⟩ := lives_ops (joinedB (tx (timesL xs))) (endsB xs) (by omega) (by rw [endsB_size]; omega)
      have hkI : ¬ (k : Int) < (k : Int) := by omega
      rw [hall]
      clear hown hown2 hz hzl
      go_wp2_with fail
      refine (s_l01NText hr2 wx2 (by omega) (by omega)).mono ?_
      rintro e w1 ⟨rfl, hb1⟩
      go_wp2
      go_ret
      exact ⟨rfl, hbel.trans (hb1.mono hbel.size)⟩
set_option maxHeartbeats 1000000 in
theorem s_LivesText {A : Option Addr} {n c : Nat} {xs : List (Nat × Bool)} {w : World} (h : livesOk xs = true) (hr : Reads w w.heap.size 2 A n (ll xs)) (wx : ∀ p ∈ xs, Wf .f32 p.1) :
    Calls Tryd.prog 22 #[.slice A n c] w fun e w' => e = .returned (.tuple #[.string (livesB xs), .bool true]) ∧ Below w.heap.size w w' := by
  obtain ⟨r1, r2⟩ := livesOk_rng h
  have hl := lives_len hr
  go_enter Tryd.func22, Tryd.ntmps22
  go_wp2_with fail
  refine (s_l02Lives (xs := xs) hr (by omega)).mono ?_
  rintro e v1 ⟨rfl, m, rfl⟩
  rw [h]
  have hr1 : Reads (w.drewN m) (w.drewN m).heap.size 2 A n (ll xs) := hr
  go_wp2_with fail
  refine (s_l08Lives h hr1 wx).mono ?_
  rintro e v2 ⟨rfl, hb2⟩
  go_wp2
  go_ret2
  exact ⟨rfl, (below_drewN (Below.refl _ _) m).trans hb2⟩
theorem s_LivesText_no {A : Option Addr} {n c : Nat} {xs : List (Nat × Bool)} {w : World} (h : livesOk xs = false) (hr : Reads w w.heap.size 2 A n (ll xs)) (hn : n ≤ 1048576) :
    Calls Tryd.prog 22 #[.slice A n c] w fun e w' => e = .returned (.tuple #[.string ⟨#[]⟩, .bool false]) ∧ Below w.heap.size w w' := by
  go_enter Tryd.func22, Tryd.ntmps22
  go_wp2_with fail
  refine (s_l02Lives (xs := xs) hr (by omega)).mono ?_
  rintro e v1 ⟨rfl, m, rfl⟩
  rw [h]
  go_wp2
  go_ret2
  exact ⟨rfl, below_drewN (Below.refl _ _) m⟩
theorem i_LivesText_no {A : Option Addr} {n c : Nat} {xs : List (Nat × Bool)} {w : World} (h : livesOk xs = false) (hr : Reads w w.heap.size 2 A n (ll xs)) (hn : n ≤ 1048576) :
    Calls Tryd.prog 24 #[.slice A n c] w fun e w' => e = .returned (.tuple #[.string ⟨#[]⟩, .bool false]) ∧ Below w.heap.size w w' := by
  go_enter Tryd.func24, Tryd.ntmps24
  go_wp2_with fail
  refine (i_AreLives (xs := xs) (B := w.heap.size) hr (Nat.le_refl _) (by omega)).mono ?_
  rintro e v1 ⟨rfl, hb⟩
  rw [h]
  go_wp2
  go_ret2
  exact ⟨rfl, hb⟩
def livesS (xs : List (Nat × Bool)) : ByteArray := if livesOk xs = true then livesB xs else ⟨#[]⟩
theorem i_LivesTextB {A : Option Addr} {n c : Nat} {xs : List (Nat × Bool)} {w : World} (hr : Reads w w.heap.size 2 A n (ll xs)) (hn : n ≤ 1048576) (wx : ∀ p ∈ xs, Wf .f32 p.1) (ht : w.cell? ⟨6, 15, none⟩ = some (.int .u8 4)) :
    Calls Tryd.prog 24 #[.slice A n c] w fun e w' => e = .returned (.tuple #[.string (livesS xs), .bool (livesOk xs)]) ∧ Below w.heap.size w w' := by
  unfold livesS
  cases h : livesOk xs
  · exact i_LivesText_no h hr hn
  · exact i_LivesText h hr wx ht
theorem s_LivesTextB {A : Option Addr} {n c : Nat} {xs : List (Nat × Bool)} {w : World} (hr : Reads w w.heap.size 2 A n (ll xs)) (hn : n ≤ 1048576) (wx : ∀ p ∈ xs, Wf .f32 p.1) :
    Calls Tryd.prog 22 #[.slice A n c] w fun e w' => e = .returned (.tuple #[.string (livesS xs), .bool (livesOk xs)]) ∧ Below w.heap.size w w' := by
  unfold livesS
  cases h : livesOk xs
  · exact s_LivesText_no h hr hn
  · exact s_LivesText h hr wx
end Go.Proofs.YtempapfphliniaaDoor
