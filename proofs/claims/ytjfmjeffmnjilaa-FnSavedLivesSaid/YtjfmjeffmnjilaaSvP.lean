/-
  Systems with signals ("saved"): their cells, how a list of them reads, when two are the same.
-/
import Derived.Test.YtjfmjeffmnjilaaSame2
import Derived.Test.YtjfmjeffmnjilaaCopy
import Derived.Lib.Bytes
namespace Go.Proofs.Ytjfmjeffmnjilaa
open Go.RowKit Fl Mem
set_option linter.unusedVariables false
set_option maxRecDepth 100000

theorem ba_ext' {a b : ByteArray} (h : a.data.toList = b.data.toList) : a = b := by
  cases a; cases b
  congr 1
  exact Array.toList_inj.1 h
theorem strEq (a b : ByteArray) : (a.toList == b.toList) = decide (a = b) := by
  by_cases h : a = b
  · subst h; simp
  · rw [decide_eq_false h]
    simp only [Lib.toList_data, beq_eq_false_iff_ne]
    exact fun e => h (ba_ext' e)
theorem strNe (a b : ByteArray) : (!a.toList == b.toList) = !decide (a = b) := by rw [strEq]

/-- One of them, as it lies in memory. -/
structure Sv where
  nm : ByteArray
  parts : Int
  PA : Option Addr
  pn : Nat
  pc : Nat
  ps : List Int
  SA : Option Addr
  sn : Nat
  sc : Nat
  xs : List Nat
abbrev sysV (p : Int) (A : Option Addr) (n c : Nat) : Value := .agg #[.int .i64 p, .slice A n c]
abbrev svV (s : Sv) : Value := .agg #[.string s.nm, .int .i64 s.parts, .slice s.PA s.pn s.pc, .slice s.SA s.sn s.sc]
/-- The cells of a list of them. -/
def svC : List Sv → List Value
  | [] => []
  | s :: r => .string s.nm :: .int .i64 s.parts :: .slice s.PA s.pn s.pc :: .slice s.SA s.sn s.sc :: svC r
theorem svC_len (xs : List Sv) : (svC xs).length = xs.length * 4 := by
  induction xs with
  | nil => rfl
  | cons p r ih => simp only [svC, List.length_cons, ih]; omega
theorem svC_at {xs : List Sv} {k : Nat} {s : Sv} (h : xs[k]? = some s) : (svC xs)[k * 4]? = some (.string s.nm) ∧ (svC xs)[k * 4 + 1]? = some (.int .i64 s.parts) ∧ (svC xs)[k * 4 + 2]? = some (.slice s.PA s.pn s.pc) ∧ (svC xs)[k * 4 + 3]? = some (.slice s.SA s.sn s.sc) := by
  induction xs generalizing k with
  | nil => simp at h
  | cons q r ih =>
    cases k with
    | zero => simp at h; subst h; exact ⟨rfl, rfl, rfl, rfl⟩
    | succ k =>
      simp only [List.getElem?_cons_succ] at h
      have := ih h
      simp only [svC]
      rw [show (k + 1) * 4 = k * 4 + 1 + 1 + 1 + 1 by omega]
      exact this
theorem svC_append (a b : List Sv) : svC (a ++ b) = svC a ++ svC b := by
  induction a with
  | nil => rfl
  | cons p r ih => simp only [List.cons_append, svC, ih]
/-- What lies behind the slices of one. -/
structure SvOk (w : World) (B : Nat) (s : Sv) : Prop where
  paths : Reads w B 1 s.PA s.pn (il s.ps)
  sig : Reads w B 1 s.SA s.sn (fl .f32 s.xs)
  wf : ∀ a ∈ s.xs, Wf .f32 a
  wfi : ∀ a ∈ s.ps, (Lit.int .i64 a).wf = true
  wfp : (Lit.int .i64 s.parts).wf = true
/-- And they are no longer than that. -/
structure SvLe (M : Nat) (s : Sv) : Prop where
  nm : s.nm.size ≤ M
  pn : s.pn ≤ M
  sn : s.sn ≤ M
theorem SvLe.up {M M' : Nat} {s : Sv} (h : SvLe M s) (hM : M ≤ M') : SvLe M' s := ⟨Nat.le_trans h.nm hM, Nat.le_trans h.pn hM, Nat.le_trans h.sn hM⟩
theorem svLes_up {M M' : Nat} {ss : List Sv} (h : ∀ s ∈ ss, SvLe M s) (hM : M ≤ M') : ∀ s ∈ ss, SvLe M' s := fun s hs => (h s hs).up hM
theorem SvOk.keep {w w' : World} {B : Nat} {s : Sv} (h : SvOk w B s) (hk : ∀ p : Addr, p.block < B → w'.cell? p = w.cell? p) : SvOk w' B s := ⟨h.paths.keep hk, h.sig.keep hk, h.wf, h.wfi, h.wfp⟩
theorem SvOk.below {w w' : World} {B : Nat} {s : Sv} (h : SvOk w B s) (hb : Below B w w') : SvOk w' B s := h.keep fun _ hp => hb.cell hp
theorem SvOk.more {w : World} {B B' : Nat} {s : Sv} (h : SvOk w B s) (hb : B ≤ B') : SvOk w B' s := ⟨h.paths.more hb, h.sig.more hb, h.wf, h.wfi, h.wfp⟩
theorem SvOk.alloc {w : World} {B : Nat} {s : Sv} (h : SvOk w B s) (hB : B ≤ w.heap.size) (o : Obj) : SvOk (w.alloc o) B s := ⟨h.paths.alloc hB o, h.sig.alloc hB o, h.wf, h.wfi, h.wfp⟩
/-- A list of them that lies below a block. -/
structure SvR (w : World) (B : Nat) (A : Option Addr) (n : Nat) (ss : List Sv) : Prop where
  row : Reads w B 4 A n (svC ss)
  each : ∀ s ∈ ss, SvOk w B s
theorem SvR.below {w w' : World} {B n : Nat} {A : Option Addr} {ss : List Sv} (h : SvR w B A n ss) (hb : Below B w w') : SvR w' B A n ss := ⟨h.row.below hb, fun s hs => (h.each s hs).below hb⟩
theorem SvR.more {w : World} {B B' n : Nat} {A : Option Addr} {ss : List Sv} (h : SvR w B A n ss) (hb : B ≤ B') : SvR w B' A n ss := ⟨h.row.more hb, fun s hs => (h.each s hs).more hb⟩
theorem SvR.drewN {w : World} {B n : Nat} {A : Option Addr} {ss : List Sv} (h : SvR w B A n ss) (k : Nat) : SvR (w.drewN k) B A n ss := ⟨h.row, fun s hs => ⟨(h.each s hs).paths, (h.each s hs).sig, (h.each s hs).wf, (h.each s hs).wfi, (h.each s hs).wfp⟩⟩
theorem SvR.alloc {w : World} {B n : Nat} {A : Option Addr} {ss : List Sv} (h : SvR w B A n ss) (hB : B ≤ w.heap.size) (o : Obj) : SvR (w.alloc o) B A n ss := ⟨h.row.alloc hB o, fun s hs => (h.each s hs).alloc hB o⟩
theorem SvR.len {w : World} {B n : Nat} {A : Option Addr} {ss : List Sv} (h : SvR w B A n ss) : ss.length = n := by have := h.row.1; rw [svC_len] at this; omega
/-- One of a list. -/
theorem SvR.at {w : World} {B n k : Nat} {A : Option Addr} {ss : List Sv} (h : SvR w B A n ss) (hk : k < n) :
    ∃ ad s, A = some ad ∧ ad.block < B ∧ ss[k]? = some s ∧ SvOk w B s ∧ w.cell? (ad.add (k * 4)) = some (.string s.nm) ∧ w.cell? ⟨(ad.add (k * 4)).block, (ad.add (k * 4)).off + 1, none⟩ = some (.int .i64 s.parts) ∧
      w.cell? ⟨(ad.add (k * 4)).block, (ad.add (k * 4)).off + 2, none⟩ = some (.slice s.PA s.pn s.pc) ∧ w.cell? ⟨(ad.add (k * 4)).block, (ad.add (k * 4)).off + 3, none⟩ = some (.slice s.SA s.sn s.sc) := by
  obtain ⟨ad, e, hb, hc⟩ := h.row.2 (by omega)
  have hl := h.len
  have hx : ss[k]? = some ss[k] := List.getElem?_eq_getElem (by omega)
  obtain ⟨h1, h2, h3, h4⟩ := svC_at hx
  have hf : ∀ j u, 1 ≤ j → (svC ss)[k * 4 + j]? = some u → w.cell? ⟨(ad.add (k * 4)).block, (ad.add (k * 4)).off + j, none⟩ = some u := fun j u hj hu => by
    have h9 := hc _ _ hu
    rw [← add_of_add] at h9
    have : (ad.add (k * 4)).add j = ⟨(ad.add (k * 4)).block, (ad.add (k * 4)).off + j, none⟩ := by
      generalize ad.add (k * 4) = q
      unfold Addr.add
      rw [if_neg (by omega)]
    rwa [this] at h9
  exact ⟨ad, ss[k], e, hb, hx, h.each _ (List.getElem_mem _), hc _ _ h1, hf 1 _ (by omega) h2, hf 2 _ (by omega) h3, hf 3 _ (by omega) h4⟩
/-- What one tells. -/
def svT (s : Sv) : ByteArray × Int × List Int × List Nat := (s.nm, s.parts, s.ps, s.xs)
/-- What one tells, but which not-a-number is which. -/
def svK (s : Sv) : ByteArray × Int × List Int × List Nat := (s.nm, s.parts, s.ps, s.xs.map (cn .f32))
def sameSys (p q : Int) (ps qs : List Int) : Bool := (p == q) && decide (ps = qs)
def sameSv (s t : Sv) : Bool := decide (s.nm = t.nm) && (sameSys s.parts t.parts s.ps t.ps && sameL s.xs t.xs)
theorem sameSv_iff {s t : Sv} : sameSv s t = true ↔ svK s = svK t := by
  unfold sameSv sameSys sameL svK
  rw [Bool.and_eq_true, Bool.and_eq_true, Bool.and_eq_true, decide_eq_true_iff, decide_eq_true_iff, decide_eq_true_iff, beq_iff_eq, Prod.mk.injEq, Prod.mk.injEq, Prod.mk.injEq, and_assoc]
def sameSvs (ss ts : List Sv) : Bool := decide (ss.map svK = ts.map svK)
theorem sameSvs_len {ss ts : List Sv} (h : ss.length ≠ ts.length) : sameSvs ss ts = false := decide_eq_false (fun e => h (by have := congrArg List.length e; simpa using this))
theorem sameSvs_no {ss ts : List Sv} {k : Nat} {s t : Sv} (hx : ss[k]? = some s) (hy : ts[k]? = some t) (h : sameSv s t = false) : sameSvs ss ts = false := by
  refine decide_eq_false (fun e => ?_)
  have h1 := congrArg (fun l => l[k]?) e
  simp only [List.getElem?_map, hx, hy, Option.map_some, Option.some.injEq] at h1
  rw [← sameSv_iff] at h1
  rw [h1] at h
  cases h
theorem sameSvs_take {ss ts : List Sv} {k : Nat} {s t : Sv} (hx : ss[k]? = some s) (hy : ts[k]? = some t) (h : sameSv s t = true) (hp : (ss.take k).map svK = (ts.take k).map svK) : (ss.take (k + 1)).map svK = (ts.take (k + 1)).map svK := by
  rw [take_eq hx, take_eq hy, List.map_append, List.map_append, hp]
  rw [sameSv_iff] at h
  simp [h]
theorem sameSvs_all {ss ts : List Sv} {n : Nat} (hx : ss.length = n) (hy : ts.length = n) (hp : (ss.take n).map svK = (ts.take n).map svK) : sameSvs ss ts = true := by
  rw [List.take_of_length_le (by omega), List.take_of_length_le (by omega)] at hp
  exact decide_eq_true hp
theorem svK_of_T {s t : Sv} (h : svT s = svT t) : svK s = svK t := by
  unfold svT at h
  unfold svK
  rw [Prod.mk.injEq, Prod.mk.injEq, Prod.mk.injEq] at h ⊢
  exact ⟨h.1, h.2.1, h.2.2.1, by rw [h.2.2.2]⟩
theorem svKs_of_T {ss ts : List Sv} (h : ss.map svT = ts.map svT) : ss.map svK = ts.map svK := by
  have e : ∀ l : List Sv, l.map svK = (l.map svT).map (fun q => (q.1, q.2.1, q.2.2.1, q.2.2.2.map (cn .f32))) := fun l => by rw [List.map_map]; rfl
  rw [e, e, h]
theorem sameSvs_told {ss ss' ts ts' : List Sv} (h : ss'.map svT = ss.map svT) (h' : ts'.map svT = ts.map svT) : sameSvs ss' ts' = sameSvs ss ts := by
  unfold sameSvs
  rw [svKs_of_T h, svKs_of_T h']
end Go.Proofs.Ytjfmjeffmnjilaa
