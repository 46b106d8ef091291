/-
  Many that are stored one behind another: where each ends; what is recovered of all, of what is cut, of what is bent.
-/
import Derived.Test.YtjfmjeffmnjilaaTkB
import Derived.Test.YtjfmjeffmnjilaaSvE
namespace Go.Proofs.Ytjfmjeffmnjilaa
open Go.RowKit Fl Mem
set_option linter.unusedVariables false
set_option maxRecDepth 100000

abbrev Tp := ByteArray × Int × List Int × List Nat
def stQ (q : Tp) : List UInt8 := stL q.1 q.2.1 q.2.2.1 q.2.2.2
theorem stBT_stQ (q : Tp) : (stBT q).data.toList = stQ q := by
  unfold stBT stored stQ; rfl
theorem leN_leB (n k : Nat) : leN (leB n k) = n % 256 ^ k := by
  induction k generalizing n with
  | zero => simp [leB, leN, Nat.mod_one]
  | succ k ih =>
    simp only [leB, leN, ih]
    have h1 : (UInt8.ofNat n).toNat = n % 256 := by simp
    rw [h1, Nat.pow_succ, Nat.mul_comm (256 ^ k) 256, Nat.mod_mul]
theorem rd_mid {l A b R : List UInt8} {a k : Nat} (h : l = A ++ b ++ R) (ha : A.length = a) (hk : b.length = k) : rd l a k = leN b := by
  subst ha hk h
  unfold rd
  rw [List.append_assoc, List.drop_left, List.take_left]
theorem flat_split {α : Type} (f : α → List UInt8) (l : List α) (i : Nat) (h : i < l.length) : l.flatMap f = (l.take i).flatMap f ++ (f l[i] ++ (l.drop (i + 1)).flatMap f) := by
  conv => lhs; rw [← List.take_append_drop i l, List.drop_eq_getElem_cons h]
  rw [List.flatMap_append, List.flatMap_cons]
theorem range_map_get {α : Type} {f : Nat → α} {l : List α} (h : ∀ i (hi : i < l.length), f i = l[i]) : (List.range l.length).map f = l := by
  apply List.ext_getElem
  · simp
  · intro i h1 h2
    simp only [List.getElem_map, List.getElem_range]
    exact h i h2
/-- The pieces of what is stored. -/
theorem dec_parts {nm : ByteArray} {parts : Int} {ps : List Int} {xs : List Nat} (r : List UInt8)
    (h1 : nm.size < 256) (h2 : 0 ≤ parts ∧ parts < 256) (h3 : ps.length < 256) (h4 : ∀ p ∈ ps, 0 ≤ p ∧ p < 65536) (h5 : xs.length < 256) (h6 : ∀ a ∈ xs, cn .f32 a = a ∧ a < 4294967296) :
    dQ (stL nm parts ps xs ++ r) = (nm, parts, ps, xs) ∧ dE (stL nm parts ps xs ++ r) = (stL nm parts ps xs).length := by
  obtain ⟨l, hl⟩ : ∃ l, stL nm parts ps xs ++ r = l := ⟨_, rfl⟩
  have e0 : l = [76, 73, 86, 49] ++ [UInt8.ofNat nm.size] ++ (nm.data.toList ++ ([UInt8.ofNat parts.toNat] ++ ([UInt8.ofNat ps.length] ++ (((ps.take ps.length).flatMap fun p => leB p.toNat 2) ++ ([UInt8.ofNat xs.length] ++ (((xs.take xs.length).flatMap fun a => leB (cn .f32 a) 4) ++ (leB (chkL 0 (st4 nm parts ps xs xs.length)) 2 ++ r))))))) := by
    rw [← hl]
    unfold stL st4 st3 st2 st1 st0
    simp only [List.append_assoc, List.cons_append, List.nil_append]
  rw [List.take_length, List.take_length] at e0
  have one : ∀ n : Nat, n < 256 → leN [UInt8.ofNat n] = n := fun n hn => by
    have := leN_leB n 1
    simpa [leB, Nat.mod_eq_of_lt hn] using this
  have n8 : nm.data.toList.length = nm.size := by rw [Array.length_toList]; rfl
  have hC : dC l = nm.size := by
    unfold dC
    rw [rd_mid (a := 4) (k := 1) e0 rfl rfl, one _ h1]
  have hN : dN l = nm := by
    apply ba_ext'
    unfold dN
    rw [hC]
    show (l.drop 5).take nm.size = nm.data.toList
    rw [e0, List.drop_left' (by rfl), List.take_left' n8]
  have e1 : l = ([76, 73, 86, 49] ++ [UInt8.ofNat nm.size] ++ nm.data.toList) ++ [UInt8.ofNat parts.toNat] ++ ([UInt8.ofNat ps.length] ++ ((ps.flatMap fun p => leB p.toNat 2) ++ ([UInt8.ofNat xs.length] ++ ((xs.flatMap fun a => leB (cn .f32 a) 4) ++ (leB (chkL 0 (st4 nm parts ps xs xs.length)) 2 ++ r))))) := by
    rw [e0]; simp only [List.append_assoc]
  have hP : dP l = parts.toNat := by
    unfold dP
    rw [hC, rd_mid (a := 5 + nm.size) (k := 1) e1 (by simp [n8]; omega) rfl, one _ (by omega)]
  have e2 : l = ([76, 73, 86, 49] ++ [UInt8.ofNat nm.size] ++ nm.data.toList ++ [UInt8.ofNat parts.toNat]) ++ [UInt8.ofNat ps.length] ++ ((ps.flatMap fun p => leB p.toNat 2) ++ ([UInt8.ofNat xs.length] ++ ((xs.flatMap fun a => leB (cn .f32 a) 4) ++ (leB (chkL 0 (st4 nm parts ps xs xs.length)) 2 ++ r)))) := by
    rw [e0]; simp only [List.append_assoc]
  have hK : dK l = ps.length := by
    unfold dK
    rw [hC, rd_mid (a := 6 + nm.size) (k := 1) e2 (by simp [n8]; omega) rfl, one _ h3]
  have hPs : dPs l ps.length = ps := by
    unfold dPs
    refine range_map_get fun i hi => ?_
    have e3 : l = ([76, 73, 86, 49] ++ [UInt8.ofNat nm.size] ++ nm.data.toList ++ [UInt8.ofNat parts.toNat] ++ [UInt8.ofNat ps.length] ++ (ps.take i).flatMap fun p => leB p.toNat 2) ++ leB ps[i].toNat 2 ++ (((ps.drop (i + 1)).flatMap fun p => leB p.toNat 2) ++ ([UInt8.ofNat xs.length] ++ ((xs.flatMap fun a => leB (cn .f32 a) 4) ++ (leB (chkL 0 (st4 nm parts ps xs xs.length)) 2 ++ r)))) := by
      rw [e0, flat_split (fun p : Int => leB p.toNat 2) ps i hi]; simp only [List.append_assoc]
    have hp := h4 _ (List.getElem_mem hi)
    have hlen : ((ps.take i).flatMap fun p => leB p.toNat 2).length = i * 2 := by
      rw [flat_len _ 2 _ (fun a _ => leB_len _ _), List.length_take]; congr 1; omega
    rw [hC, rd_mid (a := 7 + nm.size + 2 * i) (k := 2) e3 (by simp only [List.length_append, hlen, n8, List.length_cons, List.length_nil]; omega) (leB_len _ _), leN_leB]
    omega
  have hO : dO l = 7 + nm.size + 2 * ps.length := by unfold dO; rw [hC, hK]
  have lenP : (ps.flatMap fun p => leB p.toNat 2).length = ps.length * 2 := flat_len _ 2 _ (fun a _ => leB_len _ _)
  have e4 : l = ([76, 73, 86, 49] ++ [UInt8.ofNat nm.size] ++ nm.data.toList ++ [UInt8.ofNat parts.toNat] ++ [UInt8.ofNat ps.length] ++ ps.flatMap fun p => leB p.toNat 2) ++ [UInt8.ofNat xs.length] ++ ((xs.flatMap fun a => leB (cn .f32 a) 4) ++ (leB (chkL 0 (st4 nm parts ps xs xs.length)) 2 ++ r)) := by
    rw [e0]; simp only [List.append_assoc]
  have hM : dM l = xs.length := by
    unfold dM
    rw [hO, rd_mid (a := 7 + nm.size + 2 * ps.length) (k := 1) e4 (by simp only [List.length_append, lenP, n8, List.length_cons, List.length_nil]; omega) rfl, one _ h5]
  have hXs : dXs l xs.length = xs := by
    unfold dXs
    refine range_map_get fun i hi => ?_
    have e5 : l = ([76, 73, 86, 49] ++ [UInt8.ofNat nm.size] ++ nm.data.toList ++ [UInt8.ofNat parts.toNat] ++ [UInt8.ofNat ps.length] ++ (ps.flatMap fun p => leB p.toNat 2) ++ [UInt8.ofNat xs.length] ++ (xs.take i).flatMap fun a => leB (cn .f32 a) 4) ++ leB (cn .f32 xs[i]) 4 ++ (((xs.drop (i + 1)).flatMap fun a => leB (cn .f32 a) 4) ++ (leB (chkL 0 (st4 nm parts ps xs xs.length)) 2 ++ r)) := by
      rw [e0, flat_split (fun a : Nat => leB (cn .f32 a) 4) xs i hi]; simp only [List.append_assoc]
    have hp := h6 _ (List.getElem_mem hi)
    have hlen : ((xs.take i).flatMap fun a => leB (cn .f32 a) 4).length = i * 4 := by
      rw [flat_len _ 4 _ (fun a _ => leB_len _ _), List.length_take]; congr 1; omega
    rw [hO, rd_mid (a := 7 + nm.size + 2 * ps.length + 1 + 4 * i) (k := 4) e5 (by simp only [List.length_append, hlen, lenP, n8, List.length_cons, List.length_nil]; omega) (leB_len _ _), leN_leB, hp.1]
    exact Nat.mod_eq_of_lt hp.2
  rw [hl]
  refine ⟨?_, ?_⟩
  · unfold dQ
    rw [hN, hP, hK, hPs, hM, hXs, Int.toNat_of_nonneg h2.1]
  · unfold dE
    rw [hO, hM, stL_len]
    omega
/-- Words below 2^32. -/
def W32 (q : Tp) : Prop := ∀ a ∈ q.2.2.2, a < 4294967296
theorem svBT_bd {q : Tp} (h : svBT q = true) : 1 ≤ q.1.size ∧ q.1.size ≤ 8 ∧ 1 ≤ q.2.1 ∧ q.2.1 ≤ 10 ∧ q.2.2.1.length ≤ 64 ∧ q.2.2.2.length ≤ 96 ∧ (∀ p ∈ q.2.2.1, 1 ≤ p ∧ p ≤ 1023) ∧ ∀ a ∈ q.2.2.2, fin .f32 a = true := by
  obtain ⟨nm, parts, ps, xs⟩ := q
  have := svB_short (s := ⟨nm, parts, none, 0, 0, ps, none, 0, 0, xs⟩) h
  exact ⟨this.1, this.2.1, this.2.2.1, this.2.2.2.1, this.2.2.2.2.2.1, this.2.2.2.2.2.2.2.1, this.2.2.2.2.2.2.2.2.1, this.2.2.2.2.2.2.2.2.2⟩
theorem fin_cn' {k : FloatKind} {a : Nat} (h : fin k a = true) : cn k a = a := by
  obtain ⟨s, m, i, h⟩ := (fin_iff k a).1 h
  refine cn_num ?_
  unfold isNan
  rw [h]; rfl
theorem dec_enc {q : Tp} (h : svBT q = true) (hw : W32 q) (r : List UInt8) : dQ (stQ q ++ r) = q ∧ dE (stQ q ++ r) = (stQ q).length := by
  obtain ⟨b1, b2, b3, b4, b5, b6, b7, b8⟩ := svBT_bd h
  obtain ⟨nm, parts, ps, xs⟩ := q
  simp only at b1 b2 b3 b4 b5 b6 b7 b8
  have := dec_parts (nm := nm) (parts := parts) (ps := ps) (xs := xs) r (by omega) (by omega) (by omega) (fun p hp => by have := b7 p hp; omega) (by omega) (fun a ha => ⟨fin_cn' (b8 a ha), hw a ha⟩)
  exact this
theorem rd4_lt (l : List UInt8) (a : Nat) : rd l a 4 < 4294967296 := by have := rd_lt l a 4; simpa using this
theorem dQ_w32 (l : List UInt8) : W32 (dQ l) := by
  intro a ha
  change a ∈ dXs l (dM l) at ha
  unfold dXs at ha
  obtain ⟨i, _, rfl⟩ := List.mem_map.1 ha
  exact rd4_lt _ _
theorem begB_iff {l : List UInt8} : begB l = true ↔ dE l ≤ l.length ∧ svBT (dQ l) = true ∧ stQ (dQ l) = l.take (dE l) := by
  unfold begB
  rw [Bool.and_eq_true, Bool.and_eq_true, decide_eq_true_iff, decide_eq_true_iff]
  have : stBT (dQ l) = ⟨(l.take (dE l)).toArray⟩ ↔ stQ (dQ l) = l.take (dE l) := by
    rw [← stBT_stQ]
    constructor
    · intro h; rw [h]
    · intro h; exact ba_ext' h
  rw [this]
theorem begB_enc {q : Tp} (h : svBT q = true) (hw : W32 q) (r : List UInt8) : begB (stQ q ++ r) = true := by
  obtain ⟨h1, h2⟩ := dec_enc h hw r
  rw [begB_iff, h1, h2, List.take_left]
  exact ⟨by simp, h, rfl⟩
theorem dE_pos (l : List UInt8) : 10 ≤ dE l := by unfold dE dO; omega
theorem begB_cut {q : Tp} (h : svBT q = true) (hw : W32 q) {c : Nat} (hc : c < (stQ q).length) : begB ((stQ q).take c) = false := by
  cases hb : begB ((stQ q).take c) with
  | false => rfl
  | true =>
    obtain ⟨h1, h2, h3⟩ := begB_iff.1 hb
    have hl : ((stQ q).take c).length = c := by rw [List.length_take]; omega
    have e1 : stQ q = stQ (dQ ((stQ q).take c)) ++ (stQ q).drop (dE ((stQ q).take c)) := by
      conv => lhs; rw [← List.take_append_drop (dE ((stQ q).take c)) (stQ q)]
      congr 1
      rw [h3, List.take_take]
      congr 1
      omega
    have h4 := (dec_enc h2 (dQ_w32 _) ((stQ q).drop (dE ((stQ q).take c)))).2
    have h5 := (dec_enc h hw []).2
    rw [List.append_nil] at h5
    rw [← e1, h5] at h4
    have h6 : (stQ (dQ ((stQ q).take c))).length = dE ((stQ q).take c) := by rw [h3, List.length_take]; omega
    omega
/-- How many are read of some bytes, at most some; and how many bytes these are. -/
def recN : Nat → List UInt8 → List Tp × Nat
  | 0, _ => ([], 0)
  | f + 1, l => if begB l = true then (dQ l :: (recN f (l.drop (dE l))).1, dE l + (recN f (l.drop (dE l))).2) else ([], 0)
theorem recN_no {f : Nat} {l : List UInt8} (h : begB l = false) : recN f l = ([], 0) := by
  cases f with
  | zero => rfl
  | succ f => exact if_neg (by rw [h]; decide)
theorem recN_yes {f : Nat} {l : List UInt8} (h : begB l = true) : recN (f + 1) l = (dQ l :: (recN f (l.drop (dE l))).1, dE l + (recN f (l.drop (dE l))).2)  := if_pos h
theorem begB_nil : begB [] = false := begB_short (Nat.lt_of_lt_of_le (by decide) (dE_pos []))
def catL (qs : List Tp) : List UInt8 := qs.flatMap stQ
theorem recN_cat {qs : List Tp} (h : ∀ q ∈ qs, svBT q = true ∧ W32 q) {f : Nat} (hf : qs.length ≤ f) (r : List UInt8) :
    recN f (catL qs ++ r) = (qs ++ (recN (f - qs.length) r).1, (catL qs).length + (recN (f - qs.length) r).2) := by
  induction qs generalizing f with
  | nil => simp [catL]
  | cons q t ih =>
    obtain ⟨f, rfl⟩ : ∃ f', f = f' + 1 := ⟨f - 1, by simp at hf; omega⟩
    have hq := h q (List.mem_cons_self ..)
    have e : catL (q :: t) ++ r = stQ q ++ (catL t ++ r) := by unfold catL; rw [List.flatMap_cons, List.append_assoc]
    obtain ⟨h1, h2⟩ := dec_enc hq.1 hq.2 (catL t ++ r)
    rw [e, recN_yes (begB_enc hq.1 hq.2 _), h1, h2, List.drop_left, ih (fun x hx => h x (List.mem_cons_of_mem _ hx)) (by simp at hf; omega)]
    simp only [List.length_cons, Nat.add_sub_add_right, List.cons_append, Prod.mk.injEq, true_and]
    unfold catL
    rw [List.flatMap_cons, List.length_append]
    omega
theorem recN_told (f : Nat) (l : List UInt8) : (recN f l).1.length ≤ f ∧ (recN f l).2 ≤ l.length ∧ catL (recN f l).1 = l.take (recN f l).2 ∧ ∀ q ∈ (recN f l).1, svBT q = true ∧ W32 q := by
  induction f generalizing l with
  | zero => exact ⟨Nat.le_refl _, Nat.zero_le _, by simp [recN, catL], fun q hq => by cases hq⟩
  | succ f ih =>
    cases hb : begB l with
    | false => rw [recN_no hb]; exact ⟨Nat.zero_le _, Nat.zero_le _, by simp [catL], fun q hq => by cases hq⟩
    | true =>
      obtain ⟨h1, h2, h3⟩ := begB_iff.1 hb
      obtain ⟨i1, i2, i3, i4⟩ := ih (l.drop (dE l))
      rw [recN_yes hb]
      rw [List.length_drop] at i2
      refine ⟨by simp only [List.length_cons]; omega, by show dE l + _ ≤ _; omega, ?_, ?_⟩
      · show catL (dQ l :: _) = l.take (dE l + _)
        unfold catL at i3 ⊢
        rw [List.flatMap_cons, i3, h3, List.take_add]
      · intro q hq
        rcases List.mem_cons.1 hq with rfl | hq
        · exact ⟨h2, dQ_w32 _⟩
        · exact i4 q hq
end Go.Proofs.Ytjfmjeffmnjilaa
namespace Go.Proofs.Ytjfmjeffmnjilaa
open Go.RowKit Fl Mem
set_option linter.unusedVariables false
set_option maxRecDepth 100000

theorem cell_four_new (w : World) (x y z u : Value) (t : TypeId) : ∀ j q, [x, y, z, u][j]? = some q → (w.alloc (.cells #[x, y, z, u] t)).cell? ((⟨w.heap.size, 0, none⟩ : Addr).add j) = some q := by
  intro j q hj
  have := (Blk.new w t #[x, y, z, u]).cell j
  rw [Addr.add_lit, Nat.zero_add, this]
  simpa using hj
/-- 'append(out, u)' of one four-celled element onto a row of the call's own. -/
theorem wpList_append4s {P : Program} {w0 w : World} {ops : Array Oper} {rest : List Oper} {o : Oper} {a : Act} {Q : Exit → Act → World → Prop} (hgd : o.guard = none) (s x : Operand) (t : TypeId)
    (ho : o.op = .call { callee := .builtin .append, args := #[s, x], argTypes := #[t, t] })
    (base : Nat) (e : TypeId) (z u1 u2 u3 u4 : Value) (by_ : Nat) (hI : (P.info? e).map (fun i => (i.zero, i.size, i.bytes)) = some (some z, 4, by_)) (ht : P.underlying t = some (.slice e)) (hz : z.cells.size = 4)
    (hw : w = w0.alloc (.cells #[u1, u2, u3, u4] e)) (v : Value) (n : Nat) (xs : List Value) (hs : a.eval s = v) (hown : w0.ownsRow base e 4 v n xs)
    (hx : a.eval x = .slice (some ⟨w0.heap.size, 0, none⟩) 1 1) (hu1 : u1.oneCell' = true) (hu2 : u2.oneCell' = true) (hu3 : u3.oneCell' = true) (hu4 : u4.oneCell' = true)
    (hn : n < 1099511627776) (hby : by_ ≤ 128) (hbase : base ≤ w0.heap.size)
    (h : ∀ v' w', w'.ownsRow base e 4 v' (n + 1) (xs ++ [u1, u2, u3, u4]) → (w0.alloc (.cells #[u1, u2, u3, u4] e)).grownBy w' v.ownBlock → wpList P ops Q rest (a.put o.dst v') w') : wpList P ops Q (o :: rest) a w := by
  subst hw
  obtain ⟨i0, hi, hz0, hz1, hz2⟩ := info_parts hI
  refine wpList_append_own _ hgd s x t ho base e i0 z 4 by_ ht hi hz0 hz1 hz2 hz (by decide) v n xs hs (hown.alloc _) ⟨w0.heap.size, 0, none⟩ 1 1 [u1, u2, u3, u4] hx rfl (cell_four_new _ _ _ _ _ _) (by simp [hu1, hu2, hu3, hu4]) (by simp [maxLen]; omega) ?_ (by simp; omega) ?_
  · have : (n + 1) * by_ ≤ 1099511627776 * 128 := Nat.mul_le_mul (by omega) hby
    omega
  · intro v' w' h1 h2 _
    exact h v' w' h1 h2

/-- The lists of two lie in blocks of their own. -/
structure SvAp (s t : Sv) : Prop where
  paths : ∀ g, (Value.slice s.PA s.pn s.pc).ownBlock = some g → (Value.slice t.PA t.pn t.pc).ownBlock ≠ some g
  sig : ∀ g, (Value.slice s.SA s.sn s.sc).ownBlock = some g → (Value.slice t.SA t.sn t.sc).ownBlock ≠ some g
/-- The lists of some that were made here. -/
structure SvsOwn (w : World) (b : Nat) (ss : List Sv) : Prop where
  each : ∀ s ∈ ss, SvOwn w b s
  apart : ss.Pairwise SvAp
theorem SvsOwn.nil (w : World) (b : Nat) : SvsOwn w b [] := ⟨fun s h => (by cases h), List.Pairwise.nil⟩
theorem SvsOwn.below {w w' : World} {b : Nat} {ss : List Sv} (h : SvsOwn w b ss) (hb : Below w.heap.size w w') : SvsOwn w' b ss := ⟨fun s hs => (h.each s hs).below hb, h.apart⟩
theorem SvsOwn.alloc {w : World} {b : Nat} {ss : List Sv} (h : SvsOwn w b ss) (o : Obj) : SvsOwn (w.alloc o) b ss := ⟨fun s hs => (h.each s hs).alloc o, h.apart⟩
theorem SvOwn.grownS {w w' : World} {b b' n : Nat} {s : Sv} {v : Value} {xs : List Value} (h : SvOwn w b s) (ho : w.ownsRow b' 38 4 v n xs) (hg : w.grownBy w' v.ownBlock) : SvOwn w' b s :=
  ⟨h.paths.kept hg (own_apart_ty h.paths ho (by decide)), h.sig.kept hg (own_apart_ty h.sig ho (by decide)), h.wf, h.wfi, h.wfp⟩
theorem SvsOwn.grownS {w w' : World} {b b' n : Nat} {ss : List Sv} {v : Value} {xs : List Value} (h : SvsOwn w b ss) (ho : w.ownsRow b' 38 4 v n xs) (hg : w.grownBy w' v.ownBlock) : SvsOwn w' b ss :=
  ⟨fun s hs => (h.each s hs).grownS ho hg, h.apart⟩
theorem SvsOwn.lts {w : World} {b : Nat} {ss : List Sv} (h : SvsOwn w b ss) : ∀ s ∈ ss, SvLt w.heap.size s := fun s hs => (h.each s hs).lts
theorem SvsOwn.snoc {w : World} {b B0 : Nat} {ss : List Sv} {q : Sv} (h : SvsOwn w b ss) (hl : ∀ s ∈ ss, SvLt B0 s) (hq : SvOwn w B0 q) (hb : b ≤ B0) : SvsOwn w b (ss ++ [q]) := by
  refine ⟨fun s hs => ?_, List.pairwise_append.2 ⟨h.apart, List.pairwise_singleton _ _, fun s hs t ht => ?_⟩⟩
  · rcases List.mem_append.1 hs with h1 | h1
    · exact h.each s h1
    · rw [List.mem_singleton] at h1; subst h1; exact hq.up hb
  · rw [List.mem_singleton] at ht
    subst ht
    refine ⟨fun g h1 h2 => ?_, fun g h1 h2 => ?_⟩
    · have := (hl s hs).paths g h1; have := (hq.paths.lt g h2).1; omega
    · have := (hl s hs).sig g h1; have := (hq.sig.lt g h2).1; omega
theorem drop_list (s : ByteArray) (a : Nat) (h : a ≤ s.size) : (s.extract a s.size).data.toList = s.data.toList.drop a := by
  have := extract_list s a (s.size - a)
  rw [show a + (s.size - a) = s.size by omega] at this
  rw [this, List.take_of_length_le]
  rw [List.length_drop, Array.length_toList]
  exact Nat.le_refl _
theorem svC_snoc (ss : List Sv) (q : Sv) : svC (ss ++ [q]) = svC ss ++ [.string q.nm, .int .i64 q.parts, .slice q.PA q.pn q.pc, .slice q.SA q.sn q.sc] := by
  rw [svC_append]; rfl
/-- How far one has come. -/
def RcAt (l : List UInt8) (a : Nat) (ss : List Sv) : Prop := recN 8 l = (ss.map svT ++ (recN (8 - ss.length) (l.drop a)).1, a + (recN (8 - ss.length) (l.drop a)).2)
theorem rc_start (l : List UInt8) : RcAt l 0 [] := by
  unfold RcAt
  rw [List.drop_zero]
  simp
theorem rc_more {l : List UInt8} {a : Nat} {ss : List Sv} {q : Sv} (h : RcAt l a ss) (hk : ss.length < 8) (hb : begB (l.drop a) = true) (hq : svT q = dQ (l.drop a)) : RcAt l (a + dE (l.drop a)) (ss ++ [q]) := by
  unfold RcAt at h ⊢
  obtain ⟨f, hf⟩ : ∃ f, 8 - ss.length = f + 1 := ⟨7 - ss.length, by omega⟩
  rw [hf, recN_yes hb, List.drop_drop] at h
  rw [h, List.length_append, show 8 - (ss.length + [q].length) = f by simp; omega, List.map_append, hq.symm]
  simp only [List.map_cons, List.map_nil, List.append_assoc, List.cons_append, List.nil_append, Nat.add_assoc]
theorem rc_end {l : List UInt8} {a : Nat} {ss : List Sv} (h : RcAt l a ss) (hb : begB (l.drop a) = false ∨ ss.length = 8) : ss.map svT = (recN 8 l).1 ∧ a = (recN 8 l).2 := by
  unfold RcAt at h
  have : recN (8 - ss.length) (l.drop a) = ([], 0) := by
    rcases hb with hb | hb
    · exact recN_no hb
    · rw [hb]; rfl
  rw [this] at h
  rw [h]
  simp
set_option maxHeartbeats 4000000 in
theorem i_RecoverAll {s : ByteArray} {w : World} (hs : s.size ≤ 1048576) :
    Calls Try.prog 26 #[.string s] w fun e w' => ∃ (v : Value) (ss : List Sv), e = .returned (.tuple #[v, .int .i64 ((recN 8 s.data.toList).2 : Nat), .bool true]) ∧ Below w.heap.size w w' ∧ ss.map svT = (recN 8 s.data.toList).1 ∧
      w'.ownsRow w.heap.size 38 4 v ss.length (svC ss) ∧ SvsOwn w' w.heap.size ss ∧ ∀ s ∈ ss, SvLe 1048576 s := by
  obtain ⟨l, hl⟩ : ∃ l, s.data.toList = l := ⟨_, rfl⟩
  have hN : s.size = l.length := by rw [← hl, Array.length_toList]; rfl
  have HL := hide hl
  have HN := hide hN
  rw [hl]
  clear hl hN
  go_enter Try.func26, Try.ntmps26
  go_wp2
  go_loopw [5, 6, 7, 8] (fun v v6 _ _ wr => ∃ (ss : List Sv) (a : Nat), v6 = .int .i64 (a : Int) ∧ Hid (a ≤ s.size) ∧ Hid (ss.length ≤ 8) ∧ Hid (RcAt l a ss) ∧ Hid (wr.ownsRow w.heap.size 38 4 v ss.length (svC ss)) ∧ Hid (SvsOwn wr w.heap.size ss) ∧ Hid (∀ s ∈ ss, SvLe 1048576 s) ∧ Below w.heap.size w wr) (fun _ v6 _ _ _ => s.size - (intOf v6).toNat)
  case atStart => exact ⟨[], 0, rfl, hide (Nat.zero_le _), hide (Nat.zero_le _), hide (rc_start l), hide (World.ownsRow_made _ _ _ (Nat.le_refl _) (by simp [maxLen]) (by simp)), hide (SvsOwn.nil _ _), hide (fun s h => by cases h), (Below.refl _ _).alloc (Nat.le_refl _) _⟩
  case round =>
    obtain ⟨ss, a, rfl, ha, h8, hrc, hown, hss, hle, bel⟩ := hrel
    obtain ⟨n, hn⟩ : ∃ n, ss.length = n := ⟨_, rfl⟩
    have Hn := hide hn
    rw [hn] at hown h8
    obtain ⟨A, c, rfl⟩ := own_shape hown.out
    by_cases h9 : n < 8
    · have nI : (n : Int) < 8 := by omega
      have a0 : (0 : Int) ≤ (a : Int) := by omega
      have a1 : (a : Int) ≤ (s.size : Int) := by have := ha.out; omega
      have hsz : (s.extract a s.size).size ≤ 1048576 := by rw [ByteArray.size_extract]; omega
      have HD := hide (drop_list s a ha.out)
      clear hn
      go_wp2_with fail
      refine (i_taken hsz).mono ?_
      rintro e w1 ⟨q, m, rfl, hB, hq⟩
      rw [HD.out, HL.out] at hq
      have hown1 := own_below hown.out hB
      have hss1 := hss.out.below hB
      have hlt := hss.out.lts
      have bel1 := bel.trans (hB.mono bel.size)
      have hz1 := bel1.size
      rcases hq with ⟨hb, rfl, rfl⟩ | ⟨hb, hm, ht, ho, hl'⟩
      · obtain ⟨e1, e2⟩ := rc_end hrc.out (.inl hb)
        have HE := hide e1
        have HA : Hid (((recN 8 l).2 : Int) = (a : Int)) := hide (by rw [← e2])
        have HO := hide (World.ownsRow.alloc hown1 (.cells #[.string .empty, .int .i64 0, .slice none 0 0, .slice none 0 0] 38))
        have HS := hide (hss1.alloc (.cells #[.string .empty, .int .i64 0, .slice none 0 0, .slice none 0 0] 38))
        have HB := hide (bel1.alloc hz1 (.cells #[.string .empty, .int .i64 0, .slice none 0 0, .slice none 0 0] 38))
        clear hb e1 e2 hown1 hss1 hlt bel1 hz1 hB hown hss bel
        go_wp2
        go_ret3
        exact ⟨.slice A n c, ss, by rw [HA.out]; rfl, HB.out, HE.out, by rw [Hn.out]; exact HO.out, HS.out, hle.out⟩
      · have hm0 : ((m : Int) == 0) = false := by rw [beq_eq_false_iff_ne]; have := dE_pos (l.drop a); omega
        have hmb : a + m ≤ s.size := by
          have h1 := (begB_iff.1 hb).1
          rw [List.length_drop] at h1
          have := HN.out; have := ha.out
          omega
        have hm1 : 0 < m := by have := dE_pos (l.drop a); omega
        have HC := hide (rc_more hrc.out (by rw [Hn.out]; exact h9) hb ht)
        rw [← hm] at HC
        have HM := hide hmb
        have HQ := hide ho
        have HSS := hide hss1
        have HLt := hide hlt
        have HO1 := hide hown1
        have HLe : Hid (∀ x ∈ ss ++ [q], SvLe 1048576 x) := hide (fun x hx => by
          rcases List.mem_append.1 hx with h | h
          · exact hle.out x h
          · rw [List.mem_singleton] at h; subst h; exact hl')
        have hzr := bel.size
        have hzB := hB.size
        have hmI : (a : Int) + (m : Int) ≤ (s.size : Int) := by omega
        have hz01 : w.heap.size ≤ w1.heap.size := hz1
        have HSq := hide ((((HSS.out.snoc HLt.out HQ.out hzr).alloc (.cells #[.string q.nm, .int .i64 q.parts, .slice q.PA q.pn q.pc, .slice q.SA q.sn q.sc] 38)).alloc (.cells #[.string q.nm, .int .i64 q.parts, .slice q.PA q.pn q.pc, .slice q.SA q.sn q.sc] 38)))
        have HOa := hide (World.ownsRow.alloc HO1.out (.cells #[.string q.nm, .int .i64 q.parts, .slice q.PA q.pn q.pc, .slice q.SA q.sn q.sc] 38))
        have HOb := hide (World.ownsRow.alloc HOa.out (.cells #[.string q.nm, .int .i64 q.parts, .slice q.PA q.pn q.pc, .slice q.SA q.sn q.sc] 38))
        have Hlow : Hid (∀ g, (Value.slice A n c).ownBlock = some g → w.heap.size ≤ g) := hide (fun g hg => (HO1.out.lt g hg).1)
        have belb := hide ((bel1.alloc hz1 (.cells #[.string q.nm, .int .i64 q.parts, .slice q.PA q.pn q.pc, .slice q.SA q.sn q.sc] 38)).alloc (by simp; omega) (.cells #[.string q.nm, .int .i64 q.parts, .slice q.PA q.pn q.pc, .slice q.SA q.sn q.sc] 38))
        have X1 := Blk.new w1 38 #[.string q.nm, .int .i64 q.parts, .slice q.PA q.pn q.pc, .slice q.SA q.sn q.sc]
        have x0 : (w1.alloc (.cells #[.string q.nm, .int .i64 q.parts, .slice q.PA q.pn q.pc, .slice q.SA q.sn q.sc] 38)).cell? ⟨w1.heap.size, 0, none⟩ = some (.string q.nm) := X1.cell 0
        have x1 : (w1.alloc (.cells #[.string q.nm, .int .i64 q.parts, .slice q.PA q.pn q.pc, .slice q.SA q.sn q.sc] 38)).cell? ⟨w1.heap.size, 1, none⟩ = some (.int .i64 q.parts) := X1.cell 1
        have x2 : (w1.alloc (.cells #[.string q.nm, .int .i64 q.parts, .slice q.PA q.pn q.pc, .slice q.SA q.sn q.sc] 38)).cell? ⟨w1.heap.size, 2, none⟩ = some (.slice q.PA q.pn q.pc) := X1.cell 2
        have x3 : (w1.alloc (.cells #[.string q.nm, .int .i64 q.parts, .slice q.PA q.pn q.pc, .slice q.SA q.sn q.sc] 38)).cell? ⟨w1.heap.size, 3, none⟩ = some (.slice q.SA q.sn q.sc) := X1.cell 3
        clear hb hm ht ho hl' hlt hss1 hB hown hss hown1 bel hmb X1 bel1
        go_wp2_with (at_builtin; refine wpList_append4s rfl (.tmp 22) (.tmp 24) 25 rfl w.heap.size 38 (.agg #[.string .empty, .int .i64 0, .slice none 0 0, .slice none 0 0]) (.string q.nm) (.int .i64 q.parts) (.slice q.PA q.pn q.pc) (.slice q.SA q.sn q.sc) 72 info_saved Try.underlying25 rfl rfl (.slice A n c) n (svC ss) rfl HOa.out (by show Value.slice (some ⟨_, 0, none⟩) 1 1 = _; simp) rfl rfl rfl rfl (by omega) (by omega) (by simp; omega) ?_)
        intro v2 w2 hown2 hg2
        have HO2 : Hid (w2.ownsRow w.heap.size 38 4 v2 (ss ++ [q]).length (svC (ss ++ [q]))) := hide (by rw [svC_snoc, List.length_append, Hn.out]; exact hown2)
        have HS2 := hide (HSq.out.grownS HOb.out hg2)
        have bel2 := belb.out.grown hg2 (by simp; omega) Hlow.out
        have H8 : Hid ((ss ++ [q]).length ≤ 8) := hide (by rw [List.length_append, Hn.out]; simp; omega)
        clear hown2 hg2 HSq HOa HOb Hlow belb x0 x1 x2 x3
        go_wp2
        go_roundw
        case rel => exact ⟨ss ++ [q], a + m, by go_num, HM, H8, HC, HO2, HS2, HLe, bel2⟩
        case measure => (simp [intOf]; omega)
    · obtain rfl : n = 8 := by have := h8.out; omega
      obtain ⟨e1, e2⟩ := rc_end hrc.out (.inr hn)
      have HE := hide e1
      have HA : Hid (((recN 8 l).2 : Int) = (a : Int)) := hide (by rw [← e2])
      clear e1 e2 hn
      go_wp2
      go_ret3
      exact ⟨.slice A 8 c, ss, by rw [HA.out]; rfl, bel, HE.out, by rw [Hn.out]; exact hown.out, hss.out, hle.out⟩
set_option maxHeartbeats 4000000 in
theorem s_RecoverAll {s : ByteArray} {w : World} (hs : s.size ≤ 1048576) :
    Calls Try.prog 33 #[.string s] w fun e w' => ∃ (v : Value) (ss : List Sv), e = .returned (.tuple #[v, .int .i64 ((recN 8 s.data.toList).2 : Nat), .bool true]) ∧ Below w.heap.size w w' ∧ ss.map svT = (recN 8 s.data.toList).1 ∧
      w'.ownsRow w.heap.size 38 4 v ss.length (svC ss) ∧ SvsOwn w' w.heap.size ss ∧ ∀ s ∈ ss, SvLe 1048576 s := by
  obtain ⟨l, hl⟩ : ∃ l, s.data.toList = l := ⟨_, rfl⟩
  have hN : s.size = l.length := by rw [← hl, Array.length_toList]; rfl
  have HL := hide hl
  have HN := hide hN
  rw [hl]
  clear hl hN
  go_enter Try.func33, Try.ntmps33
  go_wp2
  go_loopw [5, 6, 7, 8] (fun v v6 _ _ wr => ∃ (ss : List Sv) (a : Nat), v6 = .int .i64 (a : Int) ∧ Hid (a ≤ s.size) ∧ Hid (ss.length ≤ 8) ∧ Hid (RcAt l a ss) ∧ Hid (wr.ownsRow w.heap.size 38 4 v ss.length (svC ss)) ∧ Hid (SvsOwn wr w.heap.size ss) ∧ Hid (∀ s ∈ ss, SvLe 1048576 s) ∧ Below w.heap.size w wr) (fun _ v6 _ _ _ => s.size - (intOf v6).toNat)
  case atStart => exact ⟨[], 0, rfl, hide (Nat.zero_le _), hide (Nat.zero_le _), hide (rc_start l), hide (World.ownsRow_made _ _ _ (Nat.le_refl _) (by simp [maxLen]) (by simp)), hide (SvsOwn.nil _ _), hide (fun s h => by cases h), (Below.refl _ _).alloc (Nat.le_refl _) _⟩
  case round =>
    obtain ⟨ss, a, rfl, ha, h8, hrc, hown, hss, hle, bel⟩ := hrel
    obtain ⟨n, hn⟩ : ∃ n, ss.length = n := ⟨_, rfl⟩
    have Hn := hide hn
    rw [hn] at hown h8
    obtain ⟨A, c, rfl⟩ := own_shape hown.out
    by_cases h9 : n < 8
    · have nI : (n : Int) < 8 := by omega
      have a0 : (0 : Int) ≤ (a : Int) := by omega
      have a1 : (a : Int) ≤ (s.size : Int) := by have := ha.out; omega
      have hsz : (s.extract a s.size).size ≤ 1048576 := by rw [ByteArray.size_extract]; omega
      have HD := hide (drop_list s a ha.out)
      clear hn
      go_wp2_with fail
      refine (s_l07Begin hsz).mono ?_
      rintro e w1 ⟨q, m, rfl, hB, hq⟩
      rw [HD.out, HL.out] at hq
      have hown1 := own_below hown.out hB
      have hss1 := hss.out.below hB
      have hlt := hss.out.lts
      have bel1 := bel.trans (hB.mono bel.size)
      have hz1 := bel1.size
      rcases hq with ⟨hb, rfl, rfl⟩ | ⟨hb, hm, ht, ho, hl'⟩
      · obtain ⟨e1, e2⟩ := rc_end hrc.out (.inl hb)
        have HE := hide e1
        have HA : Hid (((recN 8 l).2 : Int) = (a : Int)) := hide (by rw [← e2])
        have HO := hide (World.ownsRow.alloc hown1 (.cells #[.string .empty, .int .i64 0, .slice none 0 0, .slice none 0 0] 38))
        have HS := hide (hss1.alloc (.cells #[.string .empty, .int .i64 0, .slice none 0 0, .slice none 0 0] 38))
        have HB := hide (bel1.alloc hz1 (.cells #[.string .empty, .int .i64 0, .slice none 0 0, .slice none 0 0] 38))
        clear hb e1 e2 hown1 hss1 hlt bel1 hz1 hB hown hss bel
        go_wp2
        go_ret3
        exact ⟨.slice A n c, ss, by rw [HA.out]; rfl, HB.out, HE.out, by rw [Hn.out]; exact HO.out, HS.out, hle.out⟩
      · have hm0 : ((m : Int) == 0) = false := by rw [beq_eq_false_iff_ne]; have := dE_pos (l.drop a); omega
        have hmb : a + m ≤ s.size := by
          have h1 := (begB_iff.1 hb).1
          rw [List.length_drop] at h1
          have := HN.out; have := ha.out
          omega
        have hm1 : 0 < m := by have := dE_pos (l.drop a); omega
        have HC := hide (rc_more hrc.out (by rw [Hn.out]; exact h9) hb ht)
        rw [← hm] at HC
        have HM := hide hmb
        have HQ := hide ho
        have HSS := hide hss1
        have HLt := hide hlt
        have HO1 := hide hown1
        have HLe : Hid (∀ x ∈ ss ++ [q], SvLe 1048576 x) := hide (fun x hx => by
          rcases List.mem_append.1 hx with h | h
          · exact hle.out x h
          · rw [List.mem_singleton] at h; subst h; exact hl')
        have hzr := bel.size
        have hzB := hB.size
        have hmI : (a : Int) + (m : Int) ≤ (s.size : Int) := by omega
        have hz01 : w.heap.size ≤ w1.heap.size := hz1
        have HSq := hide ((((HSS.out.snoc HLt.out HQ.out hzr).alloc (.cells #[.string q.nm, .int .i64 q.parts, .slice q.PA q.pn q.pc, .slice q.SA q.sn q.sc] 38)).alloc (.cells #[.string q.nm, .int .i64 q.parts, .slice q.PA q.pn q.pc, .slice q.SA q.sn q.sc] 38)))
        have HOa := hide (World.ownsRow.alloc HO1.out (.cells #[.string q.nm, .int .i64 q.parts, .slice q.PA q.pn q.pc, .slice q.SA q.sn q.sc] 38))
        have HOb := hide (World.ownsRow.alloc HOa.out (.cells #[.string q.nm, .int .i64 q.parts, .slice q.PA q.pn q.pc, .slice q.SA q.sn q.sc] 38))
        have Hlow : Hid (∀ g, (Value.slice A n c).ownBlock = some g → w.heap.size ≤ g) := hide (fun g hg => (HO1.out.lt g hg).1)
        have belb := hide ((bel1.alloc hz1 (.cells #[.string q.nm, .int .i64 q.parts, .slice q.PA q.pn q.pc, .slice q.SA q.sn q.sc] 38)).alloc (by simp; omega) (.cells #[.string q.nm, .int .i64 q.parts, .slice q.PA q.pn q.pc, .slice q.SA q.sn q.sc] 38))
        have X1 := Blk.new w1 38 #[.string q.nm, .int .i64 q.parts, .slice q.PA q.pn q.pc, .slice q.SA q.sn q.sc]
        have x0 : (w1.alloc (.cells #[.string q.nm, .int .i64 q.parts, .slice q.PA q.pn q.pc, .slice q.SA q.sn q.sc] 38)).cell? ⟨w1.heap.size, 0, none⟩ = some (.string q.nm) := X1.cell 0
        have x1 : (w1.alloc (.cells #[.string q.nm, .int .i64 q.parts, .slice q.PA q.pn q.pc, .slice q.SA q.sn q.sc] 38)).cell? ⟨w1.heap.size, 1, none⟩ = some (.int .i64 q.parts) := X1.cell 1
        have x2 : (w1.alloc (.cells #[.string q.nm, .int .i64 q.parts, .slice q.PA q.pn q.pc, .slice q.SA q.sn q.sc] 38)).cell? ⟨w1.heap.size, 2, none⟩ = some (.slice q.PA q.pn q.pc) := X1.cell 2
        have x3 : (w1.alloc (.cells #[.string q.nm, .int .i64 q.parts, .slice q.PA q.pn q.pc, .slice q.SA q.sn q.sc] 38)).cell? ⟨w1.heap.size, 3, none⟩ = some (.slice q.SA q.sn q.sc) := X1.cell 3
        clear hb hm ht ho hl' hlt hss1 hB hown hss hown1 bel hmb X1 bel1
        go_wp2_with (at_builtin; refine wpList_append4s rfl (.tmp 22) (.tmp 24) 25 rfl w.heap.size 38 (.agg #[.string .empty, .int .i64 0, .slice none 0 0, .slice none 0 0]) (.string q.nm) (.int .i64 q.parts) (.slice q.PA q.pn q.pc) (.slice q.SA q.sn q.sc) 72 info_saved Try.underlying25 rfl rfl (.slice A n c) n (svC ss) rfl HOa.out (by show Value.slice (some ⟨_, 0, none⟩) 1 1 = _; simp) rfl rfl rfl rfl (by omega) (by omega) (by simp; omega) ?_)
        intro v2 w2 hown2 hg2
        have HO2 : Hid (w2.ownsRow w.heap.size 38 4 v2 (ss ++ [q]).length (svC (ss ++ [q]))) := hide (by rw [svC_snoc, List.length_append, Hn.out]; exact hown2)
        have HS2 := hide (HSq.out.grownS HOb.out hg2)
        have bel2 := belb.out.grown hg2 (by simp; omega) Hlow.out
        have H8 : Hid ((ss ++ [q]).length ≤ 8) := hide (by rw [List.length_append, Hn.out]; simp; omega)
        clear hown2 hg2 HSq HOa HOb Hlow belb x0 x1 x2 x3
        go_wp2
        go_roundw
        case rel => exact ⟨ss ++ [q], a + m, by go_num, HM, H8, HC, HO2, HS2, HLe, bel2⟩
        case measure => (simp [intOf]; omega)
    · obtain rfl : n = 8 := by have := h8.out; omega
      obtain ⟨e1, e2⟩ := rc_end hrc.out (.inr hn)
      have HE := hide e1
      have HA : Hid (((recN 8 l).2 : Int) = (a : Int)) := hide (by rw [← e2])
      clear e1 e2 hn
      go_wp2
      go_ret3
      exact ⟨.slice A 8 c, ss, by rw [HA.out]; rfl, bel, HE.out, by rw [Hn.out]; exact hown.out, hss.out, hle.out⟩
end Go.Proofs.Ytjfmjeffmnjilaa
namespace Go.Proofs.Ytjfmjeffmnjilaa
open Go.RowKit Fl Mem
set_option linter.unusedVariables false
set_option maxRecDepth 100000

theorem stB_list (s : Sv) : (stB s).data.toList = stQ (svT s) := by unfold stB stored stQ svT; rfl
theorem catS_list (ss : List Sv) : (catS ss).data.toList = catL (ss.map svT) := by
  have key : ∀ (l : List Sv) (a : ByteArray), (l.foldl (fun a s => a ++ stB s) a).data.toList = a.data.toList ++ catL (l.map svT) := by
    intro l
    induction l with
    | nil => intro a; simp [catL]
    | cons s r ih =>
      intro a
      rw [List.foldl_cons, ih, ByteArray.data_append, Array.toList_append, stB_list, List.append_assoc]
      rfl
  have := key ss .empty
  rw [catS, this]; rfl
/-- All words of all are 32 bits wide. -/
def WfA (ss : List Sv) : Prop := ∀ s ∈ ss, W32 (svT s)
def endN (ss : List Sv) (k : Nat) : Nat := (catL ((ss.take k).map svT)).length
theorem endN_zero (ss : List Sv) : endN ss 0 = 0 := rfl
theorem endN_succ {ss : List Sv} {k : Nat} {s : Sv} (h : ss[k]? = some s) : endN ss (k + 1) = endN ss k + (stB s).size := by
  unfold endN catL
  rw [take_eq h, List.map_append, List.flatMap_append, List.length_append]
  congr 1
  show ([s].map svT |>.flatMap stQ).length = _
  have : (stB s).size = (stQ (svT s)).length := by rw [← stB_list, Array.length_toList]; rfl
  rw [this]
  simp
theorem endN_all (ss : List Sv) : endN ss ss.length = (catS ss).size := by
  unfold endN
  rw [List.take_of_length_le (Nat.le_refl _), ← catS_list, Array.length_toList]; rfl
theorem endN_le {ss : List Sv} (hv : ss.all svB = true) (k : Nat) : endN ss k ≤ 530 * k := by
  induction k with
  | zero => exact Nat.le_refl _
  | succ k ih =>
    rcases Nat.lt_or_ge k ss.length with h | h
    · have hx : ss[k]? = some ss[k] := List.getElem?_eq_getElem h
      rw [endN_succ hx]
      have := stB_size (List.all_eq_true.1 hv _ (List.getElem_mem h))
      omega
    · have : endN ss (k + 1) = endN ss k := by unfold endN; rw [List.take_of_length_le (by omega), List.take_of_length_le (by omega)]
      omega
theorem sv_valid {ss : List Sv} (hv : ss.all svB = true) (hw : WfA ss) : ∀ q ∈ ss.map svT, svBT q = true ∧ W32 q := by
  intro q hq
  obtain ⟨s, hs, rfl⟩ := List.mem_map.1 hq
  exact ⟨List.all_eq_true.1 hv s hs, hw s hs⟩
/-- One that is stored is loaded as it was. -/
theorem ld_one {s : Sv} (hv : svB s = true) (hw : W32 (svT s)) : whB (stB s).data.toList = true ∧ ldT (stB s).data.toList = svT s := by
  have h1 : svBT (svT s) = true := hv
  have h2 := dec_enc h1 hw []
  have h3 := begB_enc h1 hw []
  rw [List.append_nil] at h2 h3
  rw [stB_list]
  have h4 : whB (stQ (svT s)) = true := by unfold whB; rw [h3, h2.2, decide_eq_true rfl]; rfl
  exact ⟨h4, by unfold ldT; rw [if_pos h4, h2.1]⟩
theorem told_one {s q : Sv} (h : svT q = svT s) : svB q = svB s ∧ stored q.nm q.parts q.ps q.xs = stB s := by
  unfold svT at h
  rw [Prod.mk.injEq, Prod.mk.injEq, Prod.mk.injEq] at h
  obtain ⟨h1, h2, h3, h4⟩ := h
  unfold svB stB
  rw [h1, h2, h3, h4]
  exact ⟨rfl, rfl⟩
/-- All that is stored is recovered. -/
theorem rec_all {ss : List Sv} (hv : ss.all svB = true) (hw : WfA ss) (h8 : ss.length ≤ 8) : recN 8 (catS ss).data.toList = (ss.map svT, (catS ss).size) := by
  have h := recN_cat (sv_valid hv hw) (f := 8) (by rw [List.length_map]; exact h8) []
  rw [List.append_nil, recN_no begB_nil] at h
  rw [catS_list, h]
  simp only [List.append_nil, Nat.add_zero, Prod.mk.injEq, true_and]
  rw [← catS_list, Array.length_toList]; rfl
theorem take_list (t : ByteArray) (c : Nat) : (t.extract 0 c).data.toList = t.data.toList.take c := by
  have := extract_list t 0 c
  rwa [Nat.zero_add, List.drop_zero] at this
theorem cat_split (ss : List Sv) {k : Nat} {s : Sv} (h : ss[k]? = some s) : catL (ss.map svT) = catL ((ss.take k).map svT) ++ (stQ (svT s) ++ catL ((ss.drop (k + 1)).map svT)) := by
  have hk : k < ss.length := (List.getElem?_eq_some_iff.1 h).1
  have e : ss = ss.take k ++ s :: ss.drop (k + 1) := by
    conv => lhs; rw [← List.take_append_drop k ss, List.drop_eq_getElem_cons hk]
    rw [(List.getElem?_eq_some_iff.1 h).2]
  conv => lhs; rw [e]
  unfold catL
  rw [List.map_append, List.flatMap_append, List.map_cons, List.flatMap_cons]
theorem all_take {ss : List Sv} (hv : ss.all svB = true) (k : Nat) : (ss.take k).all svB = true := List.all_eq_true.2 fun s h => List.all_eq_true.1 hv s (List.mem_of_mem_take h)
theorem wf_take {ss : List Sv} (hw : WfA ss) (k : Nat) : WfA (ss.take k) := fun s h => hw s (List.mem_of_mem_take h)
/-- Of what is cut, all that lies ahead is recovered. -/
theorem rec_cut {ss : List Sv} (hv : ss.all svB = true) (hw : WfA ss) (h8 : ss.length ≤ 8) {k c : Nat} (hk : k < ss.length) (h1 : endN ss k ≤ c) (h2 : c < endN ss (k + 1)) :
    recN 8 ((catS ss).data.toList.take c) = ((ss.take k).map svT, endN ss k) := by
  have hx : ss[k]? = some ss[k] := List.getElem?_eq_getElem hk
  generalize ss[k] = s at hx
  rw [endN_succ hx] at h2
  have hs : (stB s).size = (stQ (svT s)).length := by rw [← stB_list, Array.length_toList]; rfl
  have e : (catS ss).data.toList.take c = catL ((ss.take k).map svT) ++ (stQ (svT s)).take (c - endN ss k) := by
    rw [catS_list, cat_split ss hx, List.take_append]
    rw [List.take_of_length_le (by exact h1), List.take_append_of_le_length (by show c - endN ss k ≤ _; omega)]
    rfl
  have hsv := sv_valid hv hw _ (List.mem_map.2 ⟨s, List.mem_of_getElem? hx, rfl⟩)
  have hb := begB_cut hsv.1 hsv.2 (c := c - endN ss k) (by omega)
  have h := recN_cat (sv_valid (all_take hv k) (wf_take hw k)) (f := 8) (by rw [List.length_map, List.length_take]; omega) ((stQ (svT s)).take (c - endN ss k))
  rw [e, h, recN_no hb]
  simp [endN]
/-- Of what is bent behind some, these are recovered. -/
theorem rec_bent {ss : List Sv} (hv : ss.all svB = true) (hw : WfA ss) (h8 : ss.length ≤ 8) {k c : Nat} (hk : k < ss.length) (h1 : endN ss k ≤ c) {bl : List UInt8} (hb : bl.take c = (catS ss).data.toList.take c) : k ≤ (recN 8 bl).1.length := by
  have hx : ss[k]? = some ss[k] := List.getElem?_eq_getElem hk
  generalize ss[k] = s at hx
  have e : bl.take (endN ss k) = catL ((ss.take k).map svT) := by
    have h := congrArg (List.take (endN ss k)) hb
    rw [List.take_take, List.take_take, Nat.min_eq_left h1] at h
    rw [h, catS_list, cat_split ss hx]
    exact List.take_left' rfl
  have e2 : bl = catL ((ss.take k).map svT) ++ bl.drop (endN ss k) := by rw [← e, List.take_append_drop]
  have h := recN_cat (sv_valid (all_take hv k) (wf_take hw k)) (f := 8) (by rw [List.length_map, List.length_take]; omega) (bl.drop (endN ss k))
  rw [e2, h, List.length_append, List.length_map, List.length_take]
  omega
/-- What is recovered is a beginning. -/
theorem rec_store {rs : List Sv} {t : ByteArray} (h : rs.map svT = (recN 8 t.data.toList).1) : allOk rs rs.length = true ∧ allT rs rs.length = t.extract 0 (recN 8 t.data.toList).2 ∧ (recN 8 t.data.toList).2 ≤ t.size ∧ rs.length ≤ 8 := by
  obtain ⟨h1, h2, h3, h4⟩ := recN_told 8 t.data.toList
  rw [← h, List.length_map] at h1
  have hv : rs.all svB = true := List.all_eq_true.2 fun s hs => (h4 (svT s) (by rw [← h]; exact List.mem_map.2 ⟨s, hs, rfl⟩)).1
  have ho : allOk rs rs.length = true := by unfold allOk; rw [hv, decide_eq_true h1]; rfl
  refine ⟨ho, ?_, by rw [Array.length_toList] at h2; exact h2, h1⟩
  unfold allT
  rw [if_pos ho]
  apply ba_ext'
  rw [catS_list, h, h3, take_list]
/-- The ends as they are kept. -/
def endsL (ss : List Sv) (k : Nat) : List Int := (List.range (k + 1)).map fun i => ((endN ss i : Nat) : Int)
theorem endsL_len (ss : List Sv) (k : Nat) : (endsL ss k).length = k + 1 := by simp [endsL]
theorem endsL_at (ss : List Sv) {k i : Nat} (h : i ≤ k) : (endsL ss k)[i]? = some ((endN ss i : Nat) : Int) := by
  unfold endsL
  rw [List.getElem?_map, List.getElem?_range (by omega)]; rfl
theorem endsL_succ (ss : List Sv) (k : Nat) : endsL ss (k + 1) = endsL ss k ++ [((endN ss (k + 1) : Nat) : Int)] := by
  unfold endsL
  rw [List.range_succ, List.map_append]; rfl
theorem svLe_of {s : Sv} {w : World} {B : Nat} (h : SvOk w B s) (hv : svB s = true) : SvLe 1048576 s := by
  obtain ⟨q1, q2, q3, q4, q5, q6, q7, q8, _⟩ := svB_short hv
  have hp : s.ps.length = s.pn := h.paths.map_len
  have hs : s.xs.length = s.sn := by have := h.sig.1; simpa using this
  exact ⟨by omega, by omega, by omega⟩
end Go.Proofs.Ytjfmjeffmnjilaa

/-
  Rows of bytes that are bent, and rows of what is stored: for the laws of what is stored.
-/
namespace Go.Proofs.Ytjfmjeffmnjilaa
open Go.RowKit Fl Mem
set_option linter.unusedVariables false
set_option maxRecDepth 100000

theorem row_size (s : ByteArray) (cap j : Nat) (hj : j < s.size) : (bytesRow s cap)[j]? = some (.int .u8 ((s[j]'hj).toNat : Int)) := by
  unfold bytesRow
  rw [Array.getElem?_append_left (by rw [Array.size_map]; exact hj), Array.getElem?_map]
  have : s.data[j]? = some (s[j]'hj) := Array.getElem?_eq_getElem hj
  rw [this]; rfl
theorem bytes_laid (w : World) (s : ByteArray) : ∃ (cap : Nat) (w' : World), (convert 9 51 (.string s)).run Try.prog w = .ok (.slice (some ⟨w.heap.size, 0, none⟩) s.size cap) w' ∧ Below w.heap.size w w' ∧ w'.heap.size = w.heap.size + 1 ∧ s.size ≤ cap ∧
    (∀ j (hj : j < s.size), w'.cell? ⟨w.heap.size, j, none⟩ = some (.int .u8 ((s[j]'hj).toNat : Int))) ∧ ∀ j, j < s.size → w'.frozen? ⟨w.heap.size, j, none⟩ = false := by
  refine ⟨_, _, run_bytes_of_string w 9 51 5 s Try.underlying9 Try.underlying51 Try.underlying5, (Below.refl _ _).drew.alloc (Nat.le_refl _) _, by simp [World.alloc], ?_, fun j hj => ?_, fun j hj => ?_⟩
  · exact grownCap_ge w s.size 0 _
  · exact (World.cell?_alloc_mark w.drew _ _ _ j).trans (row_size s _ j hj)
  · have hb : (w.drew.alloc (.cells (bytesRow s (grownCap w s.size 0 5)) 5 ((bytesRow s (grownCap w s.size 0 5)).size, (bytesRow s (grownCap w s.size 0 5)).size + 1))).heap[w.heap.size]? = some (.cells (bytesRow s (grownCap w s.size 0 5)) 5 ((bytesRow s (grownCap w s.size 0 5)).size, (bytesRow s (grownCap w s.size 0 5)).size + 1)) := heap_alloc_new w.drew _
    have hs : s.size ≤ (bytesRow s (grownCap w s.size 0 5)).size := by
      unfold bytesRow
      rw [Array.size_append, Array.size_map]
      exact Nat.le_add_right _ _
    unfold World.frozen?
    simp only [hb]
    rw [decide_eq_false (show ¬ (bytesRow s (grownCap w s.size 0 5)).size ≤ j by omega)]
    rfl
theorem wrapU8 (n : Nat) (h : n < 256) : IntKind.u8.wrap (n : Int) = (n : Int) := by
  have : IntKind.u8.wrap (n : Int) = (n : Int) % 256 := by
    unfold IntKind.wrap
    first | rfl | (simp [IntKind.bits, IntKind.signed]; done) | skip
  omega
theorem bits_u8 (x y : Int) : ∃ nb : UInt8, bits .xor .u8 x y = (nb.toNat : Int) := by
  unfold bits
  dsimp only
  generalize hv : (BitVec.ofInt IntKind.u8.bits x ^^^ BitVec.ofInt IntKind.u8.bits y) = v
  have h := v.isLt
  have h8 : 2 ^ IntKind.u8.bits = 256 := by decide
  rw [h8] at h
  refine ⟨UInt8.ofNat v.toNat, ?_⟩
  have e : (UInt8.ofNat v.toNat).toNat = v.toNat := by simp [UInt8.toNat_ofNat']; omega
  rw [e]
  exact wrapU8 _ h
theorem bent_conv {w : World} {g cap cn o : Nat} {T : ByteArray} {nb : UInt8} (ho : o ≤ T.size) (hc : ∀ j (hj : j < T.size), j ≠ cn → w.cell? ⟨g, j, none⟩ = some (.int .u8 ((T[j]'hj).toNat : Int))) (hn : cn < T.size → w.cell? ⟨g, cn, none⟩ = some (.int .u8 (nb.toNat : Int))) :
    (convert 51 9 (.slice (some ⟨g, 0, none⟩) o cap)).run Try.prog w = .ok (.string ⟨((T.data.toList.set cn nb).take o).toArray⟩) w := by
  have hl : ((T.data.toList.set cn nb).take o).length = o := by
    rw [List.length_take, List.length_set, Array.length_toList]
    exact Nat.min_eq_left ho
  have h := run_convert_bytes_back (P := Try.prog) w 51 9 5 ⟨g, 0, none⟩ cap ((T.data.toList.set cn nb).take o) Try.underlying51 Try.underlying5 Try.underlying9 (fun j hj => by
    have hjo : j < o := by rw [hl] at hj; exact hj
    have hjT : j < T.size := by omega
    rw [Addr.add_lit, Nat.zero_add, List.getElem_take, List.getElem_set]
    by_cases hjc : cn = j
    · subst hjc
      rw [if_pos rfl]; exact hn hjT
    · rw [if_neg hjc]
      exact hc j hjT (fun e => hjc e.symm))
  rwa [hl] at h
theorem svR_own {w : World} {b base n : Nat} {A : Option Addr} {c : Nat} {ss : List Sv} (ho : w.ownsRow b 38 4 (.slice A n c) n (svC ss)) (hs : SvsOwn w base ss) : SvR w w.heap.size A n ss := ⟨Reads.of_own ho, fun s h => (hs.each s h).ok⟩
theorem info_int : (Try.prog.info? 3).map (fun i => (i.zero, i.size, i.bytes)) = some (some (.int .i64 0), 1, 8) := by kernel_rfl
theorem own_litI {w : World} {base : Nat} {e : TypeId} {u : Value} (hb : base ≤ w.heap.size) : (w.alloc (.cells #[u] e)).ownsRow base e 1 (.slice (some ⟨w.heap.size, 0, none⟩) 1 1) 1 [u] :=
  ⟨rfl, .inr ⟨w.heap.size, 1, #[u], rfl, hb, heap_alloc_new w _, by omega, by simp [maxLen], rfl, rfl⟩⟩
theorem own_cellI {w : World} {base : Nat} {e : TypeId} {g n c : Nat} {xs : List Value} (h : w.ownsRow base e 1 (.slice (some ⟨g, 0, none⟩) n c) n xs) {i : Nat} {u : Value} (hu : xs[i]? = some u) : w.cell? ⟨g, i, none⟩ = some u := by
  have := h.cells (g := g) rfl i u hu
  simpa [Addr.add_lit] using this
theorem il_ends {ss : List Sv} {k i : Nat} (h : i ≤ k) : (il (endsL ss k))[i]? = some (.int .i64 ((endN ss i : Nat) : Int)) := by
  unfold il
  rw [List.getElem?_map, endsL_at ss h]; rfl
end Go.Proofs.Ytjfmjeffmnjilaa
