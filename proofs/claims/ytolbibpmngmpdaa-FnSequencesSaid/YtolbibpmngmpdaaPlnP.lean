/-
  Sets of parts: the plain numbers and what is known of them.
-/
import Derived.Test.YtolbibpmngmpdaaProg
namespace Go.Proofs.Ytolbibpmngmpdaa

def chTo (n : Nat) : Nat → Nat
  | 0 => 1
  | k + 1 => chTo n k * (n - k) / (k + 1)
/-- How many sets of k of n things there are. -/
def ch (n k : Int) : Nat := if k < 0 ∨ n < k then 0 else chTo n.toNat k.toNat
def chI (n k : Int) : Int := (ch n k : Nat)
def accT (lot bad size : Int) : Nat → Nat
  | 0 => 0
  | k + 1 => accT lot bad size k + ch bad k * ch (lot - bad) (size - k)
/-- How many sets of parts have at most 'a' bad ones. -/
def acc (lot bad size a : Int) : Nat := accT lot bad size (a + 1).toNat
def accI (lot bad size a : Int) : Int := (acc lot bad size a : Nat)

def chkB : Bool := (List.range 41).all fun n => (List.range (n + 1)).all fun k => decide (chTo n k ≤ 2 ^ n) && decide (chTo n k * (n - k) ≤ 2 ^ 46) && decide (1 ≤ chTo n k)
theorem chkB_t : chkB = true := by decide +kernel
theorem chTo_bd {n k : Nat} (h : n ≤ 40) (hk : k ≤ n) : chTo n k ≤ 2 ^ n ∧ chTo n k * (n - k) ≤ 2 ^ 46 ∧ 1 ≤ chTo n k := by
  have h1 := chkB_t
  unfold chkB at h1
  have h2 := List.all_eq_true.1 h1 n (List.mem_range.2 (by omega))
  have h3 := List.all_eq_true.1 h2 k (List.mem_range.2 (by omega))
  simp only [Bool.and_eq_true, decide_eq_true_eq] at h3
  exact ⟨h3.1.1, h3.1.2, h3.2⟩
theorem ch_no {n k : Int} (h : k < 0 ∨ n < k) : ch n k = 0 := by unfold ch; rw [if_pos h]
theorem ch_yes {n k : Nat} (h : k ≤ n) : ch n k = chTo n k := by unfold ch; rw [if_neg (by omega)]; simp
theorem ch_le {n : Nat} (h : n ≤ 40) (k : Int) : ch n k ≤ 2 ^ n := by
  by_cases hk : k < 0 ∨ (n : Int) < k
  · rw [ch_no hk]; exact Nat.zero_le _
  · obtain ⟨q, rfl⟩ := Int.eq_ofNat_of_zero_le (show 0 ≤ k by omega)
    rw [ch_yes (by omega)]
    exact (chTo_bd h (by omega)).1
theorem ch_pos {n k : Nat} (h : n ≤ 40) (hk : k ≤ n) : 1 ≤ ch n k := by rw [ch_yes hk]; exact (chTo_bd h hk).2.2
theorem prod_le {lot bad : Nat} (h : lot ≤ 40) (hb : bad ≤ lot) (k j : Int) : ch bad k * ch ((lot : Int) - bad) j ≤ 1099511627776 := by
  have e : ((lot : Int) - bad) = ((lot - bad : Nat) : Int) := by omega
  rw [e]
  have h1 := Nat.mul_le_mul (ch_le (n := bad) (by omega) k) (ch_le (n := lot - bad) (by omega) j)
  rw [← Nat.pow_add, show bad + (lot - bad) = lot by omega] at h1
  exact Nat.le_trans h1 (Nat.le_trans (Nat.pow_le_pow_right (by decide) h) (by decide))
theorem accT_le {lot bad : Nat} (h : lot ≤ 40) (hb : bad ≤ lot) (size : Int) (k : Nat) : accT lot bad size k ≤ k * 1099511627776 := by
  induction k with
  | zero => simp [accT]
  | succ k ih =>
    have := prod_le h hb k (size - k)
    rw [accT]; omega
theorem chI_nn (n k : Int) : 0 ≤ chI n k := by unfold chI; omega
theorem chI_le {n : Int} (h0 : 0 ≤ n) (h : n ≤ 40) (k : Int) : chI n k ≤ 1099511627776 := by
  obtain ⟨q, rfl⟩ := Int.eq_ofNat_of_zero_le h0
  have h1 := ch_le (n := q) (by omega) k
  have h2 : 2 ^ q ≤ 2 ^ 40 := Nat.pow_le_pow_right (by decide) (by omega)
  unfold chI
  omega
theorem prodI {lot bad : Int} (h : lot ≤ 40) (h0 : 0 ≤ bad) (hb : bad ≤ lot) (k j : Int) : 0 ≤ chI bad k * chI (lot - bad) j ∧ chI bad k * chI (lot - bad) j ≤ 1099511627776 := by
  obtain ⟨b, rfl⟩ := Int.eq_ofNat_of_zero_le h0
  obtain ⟨l, rfl⟩ := Int.eq_ofNat_of_zero_le (show 0 ≤ lot by omega)
  have h1 := prod_le (lot := l) (bad := b) (by omega) (by omega) k j
  unfold chI
  rw [← Int.natCast_mul]
  omega
theorem accI_nn (l b s a : Int) : 0 ≤ accI l b s a := by unfold accI; omega
theorem accI_le {lot bad : Int} (h : lot ≤ 40) (h0 : 0 ≤ bad) (hb : bad ≤ lot) (size : Int) {a : Int} (ha : a ≤ 40) : accI lot bad size a ≤ 45079976738816 := by
  obtain ⟨b, rfl⟩ := Int.eq_ofNat_of_zero_le h0
  obtain ⟨l, rfl⟩ := Int.eq_ofNat_of_zero_le (show 0 ≤ lot by omega)
  have h1 := accT_le (lot := l) (bad := b) (by omega) (by omega) size (a + 1).toNat
  unfold accI acc
  omega
end Go.Proofs.Ytolbibpmngmpdaa
