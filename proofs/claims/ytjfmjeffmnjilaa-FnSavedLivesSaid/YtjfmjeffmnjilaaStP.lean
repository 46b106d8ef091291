/-
  The bytes of a system with a signal, told plainly; what an append does within a region that draws its order.
-/
import Derived.Test.YtjfmjeffmnjilaaStB
import Derived.Test.YtjfmjeffmnjilaaChkB
import Derived.Test.YtjfmjeffmnjilaaSvY
namespace Go.Proofs.Ytjfmjeffmnjilaa
open Go.RowKit Fl Mem
set_option linter.unusedVariables false
set_option maxRecDepth 100000

def st0 (nm : ByteArray) : List UInt8 := [76, 73, 86, 49] ++ [UInt8.ofNat nm.size]
def st1 (nm : ByteArray) (parts : Int) (ps : List Int) : List UInt8 := st0 nm ++ nm.data.toList ++ [UInt8.ofNat parts.toNat, UInt8.ofNat ps.length]
def st2 (nm : ByteArray) (parts : Int) (ps : List Int) (k : Nat) : List UInt8 := st1 nm parts ps ++ (ps.take k).flatMap fun p => leB p.toNat 2
def st3 (nm : ByteArray) (parts : Int) (ps : List Int) (xs : List Nat) : List UInt8 := st2 nm parts ps ps.length ++ [UInt8.ofNat xs.length]
def st4 (nm : ByteArray) (parts : Int) (ps : List Int) (xs : List Nat) (k : Nat) : List UInt8 := st3 nm parts ps xs ++ (xs.take k).flatMap fun a => leB (cn .f32 a) 4
def stL (nm : ByteArray) (parts : Int) (ps : List Int) (xs : List Nat) : List UInt8 := st4 nm parts ps xs xs.length ++ leB (chkL 0 (st4 nm parts ps xs xs.length)) 2
def stored (nm : ByteArray) (parts : Int) (ps : List Int) (xs : List Nat) : ByteArray := ⟨(stL nm parts ps xs).toArray⟩
theorem st2_succ {nm : ByteArray} {parts : Int} {ps : List Int} {k : Nat} {p : Int} (h : ps[k]? = some p) : st2 nm parts ps (k + 1) = st2 nm parts ps k ++ leB p.toNat 2 := by
  unfold st2
  rw [take_eq h, List.flatMap_append, List.append_assoc]
  simp
theorem st4_succ {nm : ByteArray} {parts : Int} {ps : List Int} {xs : List Nat} {k : Nat} {a : Nat} (h : xs[k]? = some a) : st4 nm parts ps xs (k + 1) = st4 nm parts ps xs k ++ leB (cn .f32 a) 4 := by
  unfold st4
  rw [take_eq h, List.flatMap_append, List.append_assoc]
  simp
theorem flat_len {α : Type} (f : α → List UInt8) (m : Nat) (l : List α) (h : ∀ a ∈ l, (f a).length = m) : (l.flatMap f).length = l.length * m := by
  induction l with
  | nil => simp
  | cons a r ih =>
    rw [List.flatMap_cons, List.length_append, h a (List.mem_cons_self ..), ih (fun b hb => h b (List.mem_cons_of_mem _ hb)), List.length_cons, Nat.succ_mul, Nat.add_comm]
theorem st0_len (nm : ByteArray) : (st0 nm).length = 5 := rfl
theorem st1_len (nm : ByteArray) (parts : Int) (ps : List Int) : (st1 nm parts ps).length = 7 + nm.size := by
  unfold st1
  simp [st0_len]
  omega
theorem st2_len {nm : ByteArray} {parts : Int} {ps : List Int} {k : Nat} (h : k ≤ ps.length) : (st2 nm parts ps k).length = 7 + nm.size + 2 * k := by
  unfold st2
  rw [List.length_append, st1_len, flat_len _ 2 _ (fun a _ => leB_len _ _), List.length_take]
  omega
theorem st3_len (nm : ByteArray) (parts : Int) (ps : List Int) (xs : List Nat) : (st3 nm parts ps xs).length = 8 + nm.size + 2 * ps.length := by
  unfold st3
  rw [List.length_append, st2_len (Nat.le_refl _)]
  simp
  omega
theorem st4_len {nm : ByteArray} {parts : Int} {ps : List Int} {xs : List Nat} {k : Nat} (h : k ≤ xs.length) : (st4 nm parts ps xs k).length = 8 + nm.size + 2 * ps.length + 4 * k := by
  unfold st4
  rw [List.length_append, st3_len, flat_len _ 4 _ (fun a _ => leB_len _ _), List.length_take]
  omega
theorem stL_len (nm : ByteArray) (parts : Int) (ps : List Int) (xs : List Nat) : (stL nm parts ps xs).length = 10 + nm.size + 2 * ps.length + 4 * xs.length := by
  unfold stL
  rw [List.length_append, st4_len (Nat.le_refl _), leB_len]
  omega
/-- What is valid is short. -/
theorem svB_short {s : Sv} (h : svB s = true) : 1 ≤ s.nm.size ∧ s.nm.size ≤ 8 ∧ 1 ≤ s.parts ∧ s.parts ≤ 10 ∧ 1 ≤ s.ps.length ∧ s.ps.length ≤ 64 ∧ 1 ≤ s.xs.length ∧ s.xs.length ≤ 96 ∧ (∀ p ∈ s.ps, 1 ≤ p ∧ p ≤ 1023) ∧ ∀ a ∈ s.xs, fin .f32 a = true := by
  unfold svB nameB sysB at h
  simp only [Bool.and_eq_true, decide_eq_true_iff] at h
  obtain ⟨⟨_, h1, h2⟩, ⟨⟨h3, h4⟩, ⟨h5, h6⟩, h7⟩, h8⟩ := h
  unfold isSig at h8
  simp only [Bool.and_eq_true, decide_eq_true_iff, List.all_eq_true] at h8
  refine ⟨h1, h2, h3, h4, h5, h6, by omega, by omega, fun p hp => ?_, h8.2⟩
  obtain ⟨j, hj, rfl⟩ := List.getElem_of_mem hp
  have := h7 j hj
  unfold stepB at this
  rw [Bool.and_eq_true, decide_eq_true_iff, get_bang hj] at this
  have h9 : (2 : Int) ^ s.parts.toNat ≤ 2 ^ 10 := by exact_mod_cast Nat.pow_le_pow_right (by decide : 0 < 2) (show s.parts.toNat ≤ 10 by omega)
  omega

/-- A row of bytes as a string. -/
theorem conv_own {w : World} {base n : Nat} {v : Value} {l : List UInt8} (h : w.ownsRow base 5 1 v n (ub l)) (h0 : l ≠ []) : (convert 51 9 v).run Try.prog w = .ok (.string ⟨l.toArray⟩) w := by
  have hl : l.length = n := by simpa using h.1
  subst hl
  rcases h.2 with ⟨_, e⟩ | ⟨g, cap, cur, rfl, hb, hg, hn, hm, hs, ht⟩
  · exact absurd (List.length_eq_zero_iff.1 e) h0
  · refine run_convert_bytes_back w _ _ 5 _ cap l Try.underlying51 Try.underlying5 Try.underlying9 (fun j hj => ?_)
    have h1 : (ub l)[j]? = some (.int .u8 (l[j].toNat : Int)) := by rw [List.getElem?_map, List.getElem?_eq_getElem hj]; rfl
    exact h.cells (g := g) rfl j _ h1

theorem step_appendS {P : Program} {ops : Array Oper} {o : Oper} {a : Act} {w : World} {K : Act → World → Prop} {Q : Exit → Act → World → Prop} {E : Prop} (hg : o.guard = none) (sl x : Operand) (t u : TypeId)
    (hop : o.op = .call { callee := .builtin .append, args := #[sl, x], argTypes := #[t, u] })
    (base : Nat) (e : TypeId) (hI : (P.info? e).map (fun i => (i.zero, i.size, i.bytes)) = some (some (.int .u8 0), 1, 1)) (ht : P.underlying t = some (.slice e)) (hu : P.underlying u = some .string)
    (v : Value) (n : Nat) (xs : List Value) (hs : a.eval sl = v) (hown : w.ownsRow base e 1 v n xs) (s : ByteArray) (hx : a.eval x = .string s)
    (hn : n + s.size ≤ 1099511627776) (hbase : base ≤ w.heap.size)
    (hK : ∀ v' w', w'.ownsRow base e 1 v' (n + s.size) (xs ++ Go.Lib.strCells s) → w.grownBy w' v.ownBlock → K (a.put o.dst v') w') :
    if Region.wanted o (yielded ops a.tmps) = true then Oper.wp P o a w K Q else E := by
  have hwt : Region.wanted o (yielded ops a.tmps) = true := by simp [Region.wanted, hg]
  rw [if_pos hwt]
  obtain ⟨i0, hi, hz0, hz1, hz2⟩ := info_parts hI
  obtain ⟨v', w', hr, h2, h3, h4⟩ := Go.Lib.run_append_own_string (P := P) w base t u o.type e i0 ht hu hi hz0 hz1 hz2 v n xs hown s (by simp [maxLen]; omega) (by omega) hbase
  unfold Oper.wp execOp
  simp only [hop, resolve, invoke, builtin, Sem.run_bind, Sem.run_pure, Result.andThen_ok, List.map_toArray, List.map_cons, List.map_nil, hs, hx, hr]
  exact hK _ _ h2 h3
theorem step_appendN {P : Program} {ops : Array Oper} {o : Oper} {a : Act} {w : World} {K : Act → World → Prop} {Q : Exit → Act → World → Prop} {E : Prop} (hg : o.guard = none) (s x : Operand) (t : TypeId)
    (hop : o.op = .call { callee := .builtin .append, args := #[s, x], argTypes := #[t, t] })
    (base : Nat) (e : TypeId) (z : Value) (by_ : Nat) (hI : (P.info? e).map (fun i => (i.zero, i.size, i.bytes)) = some (some z, 1, by_)) (ht : P.underlying t = some (.slice e)) (hz : z.cells.size = 1)
    (v : Value) (n : Nat) (xs : List Value) (hs : a.eval s = v) (hown : w.ownsRow base e 1 v n xs)
    (ad : Addr) (m c : Nat) (news : List Value) (hx : a.eval x = .slice (some ad) m c) (hl : news.length = m) (hnews : ∀ j u, news[j]? = some u → w.cell? (ad.add j) = some u) (h1 : ∀ u ∈ news, u.oneCell' = true)
    (hn : n + m < 1099511627776) (hby : by_ ≤ 64) (hbase : base ≤ w.heap.size)
    (hK : ∀ v' w', w'.ownsRow base e 1 v' (n + m) (xs ++ news) → w.grownBy w' v.ownBlock → K (a.put o.dst v') w') :
    if Region.wanted o (yielded ops a.tmps) = true then Oper.wp P o a w K Q else E := by
  have hwt : Region.wanted o (yielded ops a.tmps) = true := by simp [Region.wanted, hg]
  rw [if_pos hwt]
  obtain ⟨i0, hi, hz0, hz1, hz2⟩ := info_parts hI
  have hb : (n + m) * by_ ≤ 1099511627776 * 64 := Nat.mul_le_mul (by omega) hby
  obtain ⟨v', w', hr, h2, h3, _⟩ := run_append_own (P := P) w base t o.type e i0 z 1 by_ ht hi hz0 hz1 hz2 hz (by decide) v n xs hown ad m c news (by omega) hnews h1 (by simp [maxLen]; omega) (by omega) hbase
  unfold Oper.wp execOp
  simp only [hop, resolve, invoke, builtin, Sem.run_bind, Sem.run_pure, Result.andThen_ok, List.map_toArray, List.map_cons, List.map_nil, hs, hx, hr]
  exact hK _ _ h2 h3
/-- 'append(row, out...)': a row is laid behind another one, which is the call's own. -/
theorem wpList_appendM {P : Program} {w : World} {ops : Array Oper} {rest : List Oper} {o : Oper} {a : Act} {Q : Exit → Act → World → Prop} (hgd : o.guard = none) (s x : Operand) (t : TypeId)
    (ho : o.op = .call { callee := .builtin .append, args := #[s, x], argTypes := #[t, t] })
    (base : Nat) (e : TypeId) (z : Value) (by_ : Nat) (hI : (P.info? e).map (fun i => (i.zero, i.size, i.bytes)) = some (some z, 1, by_)) (ht : P.underlying t = some (.slice e)) (hz : z.cells.size = 1)
    (v : Value) (n : Nat) (xs : List Value) (hs : a.eval s = v) (hown : w.ownsRow base e 1 v n xs)
    (ad : Addr) (m c : Nat) (news : List Value) (hx : a.eval x = .slice (some ad) m c) (hl : news.length = m) (hnews : ∀ j u, news[j]? = some u → w.cell? (ad.add j) = some u) (h1 : ∀ u ∈ news, u.oneCell' = true)
    (hn : n + m < 1099511627776) (hby : by_ ≤ 64) (hbase : base ≤ w.heap.size)
    (h : ∀ v' w', w'.ownsRow base e 1 v' (n + m) (xs ++ news) → w.grownBy w' v.ownBlock → wpList P ops Q rest (a.put o.dst v') w') : wpList P ops Q (o :: rest) a w := by
  obtain ⟨i0, hi, hz0, hz1, hz2⟩ := info_parts hI
  refine wpList_append_own _ hgd s x t ho base e i0 z 1 by_ ht hi hz0 hz1 hz2 hz (by decide) v n xs hs hown ad m c news hx (by omega) hnews h1 (by simp [maxLen]; omega) ?_ hbase ?_
  · have : (n + m) * by_ ≤ 1099511627776 * 64 := Nat.mul_le_mul (by omega) hby
    omega
  · intro v' w' h1 h2 _
    exact h v' w' h1 h2
theorem cells2 {w : World} {e : TypeId} {u1 u2 : Value} : ∀ j u, [u1, u2][j]? = some u → (w.alloc (.cells #[u1, u2] e)).cell? ((⟨w.heap.size, 0, none⟩ : Addr).add j) = some u := by
  intro j u hu
  rw [Addr.add_lit, Nat.zero_add, World.cell?_alloc_mark]
  simpa using hu
theorem step_append2c {P : Program} {ops : Array Oper} {o : Oper} {a : Act} {w0 w : World} {K : Act → World → Prop} {Q : Exit → Act → World → Prop} {E : Prop} (hg : o.guard = none) (s x : Operand) (t : TypeId)
    (hop : o.op = .call { callee := .builtin .append, args := #[s, x], argTypes := #[t, t] })
    (base : Nat) (e : TypeId) (z u1 u2 : Value) (by_ : Nat) (hI : (P.info? e).map (fun i => (i.zero, i.size, i.bytes)) = some (some z, 1, by_)) (ht : P.underlying t = some (.slice e)) (hz : z.cells.size = 1)
    (hw : w = w0.alloc (.cells #[u1, u2] e)) (v : Value) (n : Nat) (xs : List Value) (hs : a.eval s = v) (hown : w0.ownsRow base e 1 v n xs)
    (hx : a.eval x = .slice (some ⟨w0.heap.size, 0, none⟩) 2 2) (h1 : u1.oneCell' = true) (h2 : u2.oneCell' = true)
    (hn : n + 2 < 1099511627776) (hby : by_ ≤ 64) (hbase : base ≤ w0.heap.size)
    (hK : ∀ v' w', w'.ownsRow base e 1 v' (n + 2) (xs ++ [u1, u2]) → Below base w0 w' → K (a.put o.dst v') w') :
    if Region.wanted o (yielded ops a.tmps) = true then Oper.wp P o a w K Q else E := by
  subst hw
  exact step_appendN hg s x t hop base e z by_ hI ht hz v n xs hs (hown.alloc _) ⟨w0.heap.size, 0, none⟩ 2 2 [u1, u2] hx rfl cells2 (fun u hu => by
    rcases List.mem_cons.1 hu with rfl | hu
    · exact h1
    · obtain rfl := List.mem_singleton.1 hu
      exact h2) hn hby (by rw [World.size_alloc]; omega) (fun v' w' k1 k2 => hK v' w' k1 (((Below.refl _ _).alloc hbase _).grown k2 (by rw [World.size_alloc]; omega) (fun g hgg => (hown.lt g hgg).1)))
end Go.Proofs.Ytjfmjeffmnjilaa
