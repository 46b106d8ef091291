/-
  The reference's decimal numeral: a contract for every 64-bit integer.
-/
import Derived.Test.YtnpccnhamohnkaaGreatDoorChecked
import Derived.Test.YtnpccnhamohnkaaGreatDoorMem
import Derived.Lib.ItoaNum
import Derived.Laws.IdiomStrings
import Derived.BigGuardPart
import Derived.WalkLawsBesides
import Derived.IntWalk
namespace Go.Proofs.YtnpccnhamohnkaaGreatDoor
open Go.RowKit Mem
set_option linter.unusedVariables false
set_option maxRecDepth 100000

/-- The cells of bytes. -/
abbrev by8 (bs : List UInt8) : List Value := bs.map fun b : UInt8 => Value.int .u8 (b.toNat : Int)
theorem info_u8 : (Tryz.prog.info? 5).map (fun i => (i.zero, i.size, i.bytes)) = some (some (.int .u8 0), 1, 1) := by kernel_rfl

/-- What is known of the digits and the rest. -/
def DecAt (n : Int) (L : List UInt8) (r : Int) : Prop :=
  L.length ≤ 20 ∧ (-9223372036854775808 ≤ r ∧ r ≤ 9223372036854775807) ∧ ((L = [] ∧ r = n) ∨ (L ≠ [] ∧ (r ≠ 0 → Lib.decDigits n.natAbs = Lib.decDigits r.natAbs ++ L) ∧ (r = 0 → Lib.decDigits n.natAbs = L)))
theorem decDigits_split (u : Nat) (h : ¬ u < 10) : Lib.decDigits u = Lib.decDigits (u / 10) ++ [UInt8.ofNat (48 + u % 10)] := by rw [Lib.decDigits, dif_neg h]
theorem decDigits_one (u : Nat) (h : u < 10) : Lib.decDigits u = [UInt8.ofNat (48 + u)] := by rw [Lib.decDigits, dif_pos h]
theorem tdiv_abs (r : Int) : (r.tdiv 10).natAbs = r.natAbs / 10 := by rw [Int.natAbs_tdiv]; rfl
theorem tmod_abs (r : Int) : (r.tmod 10).natAbs = r.natAbs % 10 := by rw [Int.natAbs_tmod]; rfl
theorem dec_len (u : Nat) : (Lib.decDigits u).length = Lib.nDigits u := by rw [Lib.decDigits_eq]; simp
theorem dec_pos (u : Nat) : Lib.decDigits u ≠ [] := by
  intro h
  have h1 := dec_len u
  rw [h] at h1
  have := Lib.nDigits_pos u
  simp at h1
  omega
theorem nDigits_le {u : Nat} (h : u ≤ 9223372036854775808) : Lib.nDigits u ≤ 19 := by
  rcases Nat.lt_or_ge 19 (Lib.nDigits u) with h1 | h1
  · exfalso
    have h3 : 10 ^ 18 ≤ u ∨ u < 10 ^ 18 := by omega
    rcases h3 with h3 | h3
    · have := Lib.nDigits_unique 18 u h3 (by omega)
      omega
    · have h4 : ∀ k, ∀ v, v < 10 ^ (k + 1) → Lib.nDigits v ≤ k + 1 := by
        intro k
        induction k with
        | zero => intro v hv; rw [Lib.nDigits_small (by omega)]; omega
        | succ k ih =>
          intro v hv
          by_cases hs : v < 10
          · rw [Lib.nDigits_small hs]; omega
          · rw [Lib.nDigits_big hs]
            have := ih (v / 10) (by rw [Nat.pow_succ] at hv; omega)
            omega
      have := h4 17 u h3
      omega
  · exact h1
theorem dec_step {n r : Int} {L : List UInt8} (hn : n.natAbs ≤ 9223372036854775808) (h : DecAt n L r) (hc : L = [] ∨ r ≠ 0) : DecAt n (UInt8.ofNat (48 + (r.tmod 10).natAbs) :: L) (r.tdiv 10) := by
  obtain ⟨h1, h2, h3⟩ := h
  have e1 := tdiv_abs r
  have e2 := tmod_abs r
  have key : ∀ u, (u = r.natAbs) → (u / 10 ≠ 0 → Lib.decDigits u = Lib.decDigits (u / 10) ++ [UInt8.ofNat (48 + u % 10)]) ∧ (u / 10 = 0 → Lib.decDigits u = [UInt8.ofNat (48 + u % 10)]) := by
    intro u _
    refine ⟨fun h => decDigits_split u (by omega), fun h => ?_⟩
    rw [decDigits_one u (by omega), Nat.mod_eq_of_lt (by omega)]
  obtain ⟨k1, k2⟩ := key _ rfl
  rw [e2]
  have hfull : ((r.tdiv 10) ≠ 0 → Lib.decDigits n.natAbs = Lib.decDigits (r.tdiv 10).natAbs ++ (UInt8.ofNat (48 + r.natAbs % 10) :: L)) ∧ ((r.tdiv 10) = 0 → Lib.decDigits n.natAbs = UInt8.ofNat (48 + r.natAbs % 10) :: L) := by
    have hr : Lib.decDigits n.natAbs = Lib.decDigits r.natAbs ++ L := by
      rcases h3 with ⟨rfl, rfl⟩ | ⟨hL, h4, h5⟩
      · simp
      · rcases hc with hc | hc
        · exact absurd hc hL
        · exact h4 hc
    constructor
    · intro h
      rw [hr, e1, k1 (by omega)]; simp
    · intro h
      rw [hr, k2 (by omega)]; simp
  refine ⟨?_, by omega, .inr ⟨by simp, hfull.1, hfull.2⟩⟩
  have hlen := dec_len n.natAbs
  have hle := nDigits_le hn
  by_cases h0 : r.tdiv 10 = 0
  · have := congrArg List.length (hfull.2 h0)
    simp only [List.length_cons] at this ⊢
    omega
  · have := congrArg List.length (hfull.1 h0)
    simp only [List.length_cons, List.length_append] at this ⊢
    omega
theorem dec_done {n r : Int} {L : List UInt8} (h : DecAt n L r) (hL : L ≠ []) (hr : r = 0) : Lib.decDigits n.natAbs = L := by
  rcases h.2.2 with ⟨h1, _⟩ | ⟨_, _, h5⟩
  · exact absurd h1 hL
  · exact h5 hr
theorem itoa_of (n : Int) : Lib.itoa n = if n < 0 then 45 :: Lib.decDigits n.natAbs else Lib.decDigits n.natAbs := by
  unfold Lib.itoa
  split
  · rfl
  · congr 1; omega

/-- 'append(row, out...)': a row of the call's own is laid behind another one. -/
theorem wpList_appendN {P : Program} {w : World} {ops : Array Oper} {rest : List Oper} {o : Oper} {a : Act} {Q : Exit → Act → World → Prop} (hgd : o.guard = none) (s x : Operand) (t : TypeId)
    (ho : o.op = .call { callee := .builtin .append, args := #[s, x], argTypes := #[t, t] })
    (base : Nat) (e : TypeId) (z : Value) (by_ : Nat) (hI : (P.info? e).map (fun i => (i.zero, i.size, i.bytes)) = some (some z, 1, by_)) (ht : P.underlying t = some (.slice e)) (hz : z.cells.size = 1)
    (v : Value) (n : Nat) (xs : List Value) (hs : a.eval s = v) (hown : w.ownsRow base e 1 v n xs)
    (ad : Addr) (m c : Nat) (news : List Value) (hx : a.eval x = .slice (some ad) m c) (hl : news.length = m) (hnews : ∀ j u, news[j]? = some u → w.cell? (ad.add j) = some u) (h1 : ∀ u ∈ news, u.oneCell' = true)
    (hn : n + m < 1099511627776) (hby : by_ ≤ 64) (hbase : base ≤ w.heap.size)
    (h : ∀ v' w', w'.ownsRow base e 1 v' (n + m) (xs ++ news) → w.grownBy w' v.ownBlock → wpList P ops Q rest (a.put o.dst v') w') : wpList P ops Q (o :: rest) a w := by
  obtain ⟨i0, hi, hz0, hz1, hz2⟩ := info_parts hI
  refine wpList_append_own _ hgd s x t ho base e i0 z 1 by_ ht hi hz0 hz1 hz2 hz (by decide) v n xs hs hown ad m c news hx (by omega) hnews h1 (by simp [maxLen]; omega) ?_ hbase ?_
  · have : (n + m) * by_ ≤ 1099511627776 * 64 := Nat.mul_le_mul (by omega) hby
    omega
  · intro v' w' h1 h2 _
    exact h v' w' h1 h2
end Go.Proofs.YtnpccnhamohnkaaGreatDoor
