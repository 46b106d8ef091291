/-
  Contracts of 'the same' for lists of numbers, for lives, laws, chains and plans.
-/
import Derived.Test.YtjmpldcnhjgpkaaGreatDoorBrg
import Derived.Test.YtjmpldcnhjgpkaaGreatDoorPlanT
import Derived.Test.YtjmpldcnhjgpkaaGreatDoorProg
import Derived.RegionTactic
import Derived.BigRegion
import Derived.Deep.RegionWith
import Derived.Lib.Bytes
import Derived.Shelf.LaysM
import Derived.Shelf.Strconv.Itoa4
import Derived.KernelRfl
import Derived.Lib.SmallJoins
import Derived.Lib.AppendIntMem
import Derived.Lib.Split
import Derived.Lib.SplitLaws
import Derived.Lib.CountLaws
import Derived.Shelf.Strings.Shaped
import Derived.Shelf.Lays
import Derived.Shelf.Small.Strs
namespace Go.Proofs.YtjmpldcnhjgpkaaGreatDoor
open Go.RowKit Fl Mem
set_option linter.unusedVariables false
set_option maxRecDepth 100000

/-- Are two lists the same numbers. -/
def sameL (xs ys : List Nat) : Bool := decide (xs.map (cn .f32) = ys.map (cn .f32))
theorem sameL_len {xs ys : List Nat} (h : xs.length ≠ ys.length) : sameL xs ys = false := decide_eq_false (fun e => h (by have := congrArg List.length e; simpa using this))
theorem sameL_no {xs ys : List Nat} {k x y : Nat} (hx : xs[k]? = some x) (hy : ys[k]? = some y) (h : sameN x y = false) : sameL xs ys = false := by
  refine decide_eq_false (fun e => ?_)
  have h1 := congrArg (fun l => l[k]?) e
  simp only [List.getElem?_map, hx, hy, Option.map_some, Option.some.injEq] at h1
  unfold sameN at h
  rw [h1] at h
  simp at h
theorem sameL_take {xs ys : List Nat} {k x y : Nat} (hx : xs[k]? = some x) (hy : ys[k]? = some y) (h : sameN x y = true) (hp : (xs.take k).map (cn .f32) = (ys.take k).map (cn .f32)) : (xs.take (k + 1)).map (cn .f32) = (ys.take (k + 1)).map (cn .f32) := by
  rw [take_eq hx, take_eq hy, List.map_append, List.map_append, hp]
  unfold sameN at h
  rw [decide_eq_true_iff] at h
  simp [h]
theorem sameL_all {xs ys : List Nat} {n : Nat} (hx : xs.length = n) (hy : ys.length = n) (hp : (xs.take n).map (cn .f32) = (ys.take n).map (cn .f32)) : sameL xs ys = true := by
  rw [List.take_of_length_le (by omega), List.take_of_length_le (by omega)] at hp
  exact decide_eq_true hp

set_option maxHeartbeats 1000000 in
theorem equalFunc_same {A A' : Option Addr} {n n' c c' B B' : Nat} {xs ys : List Nat} {w : World} (h : Reads w B 1 A n (fl .f32 xs)) (h' : Reads w B' 1 A' n' (fl .f32 ys)) (hn : n ≤ 1099511627776) (hn' : n' ≤ 1099511627776) (hx : ∀ a ∈ xs, Wf .f32 a) (hy : ∀ a ∈ ys, Wf .f32 a) :
    Calls Tryz.prog 99 #[.slice A n c, .slice A' n' c', .func (.func 98) #[] #[]] w fun e w' => e = .returned (.bool (sameL xs ys)) ∧ ∃ m, w' = w.drewN m := by
  have Hl := hide h.map_len
  have Hl' := hide h'.map_len
  by_cases hnn : n = n'
  · subst hnn
    go_enter Tryz.func99, Tryz.ntmps99
    go_wp2
    go_loopw [17] (fun i wr => ∃ k m : Nat, k ≤ n ∧ i = .int .i64 k ∧ wr = w.drewN m ∧ Hid ((xs.take k).map (cn .f32) = (ys.take k).map (cn .f32))) (fun i _ => n - (intOf i).toNat)
    case atStart => exact ⟨0, 0, Nat.zero_le _, rfl, rfl, hide rfl⟩
    case round =>
      obtain ⟨k, m, hk, rfl, rfl, hp⟩ := hrel
      by_cases hlt : k < n
      · obtain ⟨ad, x, rfl, _, hx1, hc⟩ := h.map_at hlt
        obtain ⟨ad', y, rfl, _, hy1, hc'⟩ := h'.map_at hlt
        have wx := hx x (List.mem_of_getElem? hx1)
        have wy := hy y (List.mem_of_getElem? hy1)
        have Hx := hide hx1
        have Hy := hide hy1
        have i1 : (0 : Int) ≤ k := by omega
        have i2 : (k : Int) < n := by omega
        clear hx1 hy1
        cases hs : sameN x y with
        | false =>
          have Hs := hide (sameL_no Hx.out Hy.out hs)
          go_wp2_with (go_at_call 98; refine (i_SameNumber wx wy).mono ?_; rintro e w' ⟨rfl, rfl⟩)
          all_goals
            go_wp2
            go_ret
            exact ⟨ret_bool Hs.out.symm, _, rfl⟩
        | true =>
          have Hs := hide (sameL_take Hx.out Hy.out hs hp.out)
          go_wp2_with (go_at_call 98; refine (i_SameNumber wx wy).mono ?_; rintro e w' ⟨rfl, rfl⟩)
          all_goals
            go_wp2
            go_roundw
            case rel => exact ⟨k + 1, _, by omega, by go_num, rfl, Hs⟩
            case measure => simp [intOf]; omega
      · go_wp2
        go_ret
        obtain rfl : k = n := by omega
        exact ⟨ret_bool (sameL_all Hl.out Hl'.out hp.out).symm, _, rfl⟩
  · have hne : ((n : Int) != (n' : Int)) = true := by simp; omega
    have Hs := hide (sameL_len (xs := xs) (ys := ys) (by rw [Hl.out, Hl'.out]; exact hnn))
    clear hnn
    go_enter Tryz.func99, Tryz.ntmps99
    go_wp2
    go_ret
    exact ⟨ret_bool Hs.out.symm, 0, rfl⟩
end Go.Proofs.YtjmpldcnhjgpkaaGreatDoor

/-
  Systems with signals ("saved"): their cells, how a list of them reads, when two are the same.
-/
namespace Go.Proofs.YtjmpldcnhjgpkaaGreatDoor
open Go.RowKit Fl Mem
set_option linter.unusedVariables false
set_option maxRecDepth 100000

theorem ba_ext' {a b : ByteArray} (h : a.data.toList = b.data.toList) : a = b := by
  cases a; cases b
  congr 1
  exact Array.toList_inj.1 h
theorem strEq (a b : ByteArray) : (a.toList == b.toList) = decide (a = b) := by
  by_cases h : a = b
  · subst h; simp
  · rw [decide_eq_false h]
    simp only [Lib.toList_data, beq_eq_false_iff_ne]
    exact fun e => h (ba_ext' e)
theorem strNe (a b : ByteArray) : (!a.toList == b.toList) = !decide (a = b) := by rw [strEq]

/-- One of them, as it lies in memory. -/
structure Sv where
  nm : ByteArray
  parts : Int
  PA : Option Addr
  pn : Nat
  pc : Nat
  ps : List Int
  SA : Option Addr
  sn : Nat
  sc : Nat
  xs : List Nat
abbrev sysV (p : Int) (A : Option Addr) (n c : Nat) : Value := .agg #[.int .i64 p, .slice A n c]
abbrev svV (s : Sv) : Value := .agg #[.string s.nm, .int .i64 s.parts, .slice s.PA s.pn s.pc, .slice s.SA s.sn s.sc]
/-- The cells of a list of them. -/
def svC : List Sv → List Value
  | [] => []
  | s :: r => .string s.nm :: .int .i64 s.parts :: .slice s.PA s.pn s.pc :: .slice s.SA s.sn s.sc :: svC r
theorem svC_len (xs : List Sv) : (svC xs).length = xs.length * 4 := by
  induction xs with
  | nil => rfl
  | cons p r ih => simp only [svC, List.length_cons, ih]; omega
theorem svC_at {xs : List Sv} {k : Nat} {s : Sv} (h : xs[k]? = some s) : (svC xs)[k * 4]? = some (.string s.nm) ∧ (svC xs)[k * 4 + 1]? = some (.int .i64 s.parts) ∧ (svC xs)[k * 4 + 2]? = some (.slice s.PA s.pn s.pc) ∧ (svC xs)[k * 4 + 3]? = some (.slice s.SA s.sn s.sc) := by
  induction xs generalizing k with
  | nil => simp at h
  | cons q r ih =>
    cases k with
    | zero => simp at h; subst h; exact ⟨rfl, rfl, rfl, rfl⟩
    | succ k =>
      simp only [List.getElem?_cons_succ] at h
      have := ih h
      simp only [svC]
      rw [show (k + 1) * 4 = k * 4 + 1 + 1 + 1 + 1 by omega]
      exact this
theorem svC_append (a b : List Sv) : svC (a ++ b) = svC a ++ svC b := by
  induction a with
  | nil => rfl
  | cons p r ih => simp only [List.cons_append, svC, ih]
/-- What lies behind the slices of one. -/
structure SvOk (w : World) (B : Nat) (s : Sv) : Prop where
  paths : Reads w B 1 s.PA s.pn (il s.ps)
  sig : Reads w B 1 s.SA s.sn (fl .f32 s.xs)
  wf : ∀ a ∈ s.xs, Wf .f32 a
  wfi : ∀ a ∈ s.ps, (Lit.int .i64 a).wf = true
  wfp : (Lit.int .i64 s.parts).wf = true
/-- And they are no longer than that. -/
structure SvLe (M : Nat) (s : Sv) : Prop where
  nm : s.nm.size ≤ M
  pn : s.pn ≤ M
  sn : s.sn ≤ M
theorem SvLe.up {M M' : Nat} {s : Sv} (h : SvLe M s) (hM : M ≤ M') : SvLe M' s := ⟨Nat.le_trans h.nm hM, Nat.le_trans h.pn hM, Nat.le_trans h.sn hM⟩
theorem svLes_up {M M' : Nat} {ss : List Sv} (h : ∀ s ∈ ss, SvLe M s) (hM : M ≤ M') : ∀ s ∈ ss, SvLe M' s := fun s hs => (h s hs).up hM
theorem SvOk.keep {w w' : World} {B : Nat} {s : Sv} (h : SvOk w B s) (hk : ∀ p : Addr, p.block < B → w'.cell? p = w.cell? p) : SvOk w' B s := ⟨h.paths.keep hk, h.sig.keep hk, h.wf, h.wfi, h.wfp⟩
theorem SvOk.below {w w' : World} {B : Nat} {s : Sv} (h : SvOk w B s) (hb : Below B w w') : SvOk w' B s := h.keep fun _ hp => hb.cell hp
theorem SvOk.more {w : World} {B B' : Nat} {s : Sv} (h : SvOk w B s) (hb : B ≤ B') : SvOk w B' s := ⟨h.paths.more hb, h.sig.more hb, h.wf, h.wfi, h.wfp⟩
theorem SvOk.alloc {w : World} {B : Nat} {s : Sv} (h : SvOk w B s) (hB : B ≤ w.heap.size) (o : Obj) : SvOk (w.alloc o) B s := ⟨h.paths.alloc hB o, h.sig.alloc hB o, h.wf, h.wfi, h.wfp⟩
/-- A list of them that lies below a block. -/
structure SvR (w : World) (B : Nat) (A : Option Addr) (n : Nat) (ss : List Sv) : Prop where
  row : Reads w B 4 A n (svC ss)
  each : ∀ s ∈ ss, SvOk w B s
theorem SvR.below {w w' : World} {B n : Nat} {A : Option Addr} {ss : List Sv} (h : SvR w B A n ss) (hb : Below B w w') : SvR w' B A n ss := ⟨h.row.below hb, fun s hs => (h.each s hs).below hb⟩
theorem SvR.more {w : World} {B B' n : Nat} {A : Option Addr} {ss : List Sv} (h : SvR w B A n ss) (hb : B ≤ B') : SvR w B' A n ss := ⟨h.row.more hb, fun s hs => (h.each s hs).more hb⟩
theorem SvR.drewN {w : World} {B n : Nat} {A : Option Addr} {ss : List Sv} (h : SvR w B A n ss) (k : Nat) : SvR (w.drewN k) B A n ss := ⟨h.row, fun s hs => ⟨(h.each s hs).paths, (h.each s hs).sig, (h.each s hs).wf, (h.each s hs).wfi, (h.each s hs).wfp⟩⟩
theorem SvR.alloc {w : World} {B n : Nat} {A : Option Addr} {ss : List Sv} (h : SvR w B A n ss) (hB : B ≤ w.heap.size) (o : Obj) : SvR (w.alloc o) B A n ss := ⟨h.row.alloc hB o, fun s hs => (h.each s hs).alloc hB o⟩
theorem SvR.len {w : World} {B n : Nat} {A : Option Addr} {ss : List Sv} (h : SvR w B A n ss) : ss.length = n := by have := h.row.1; rw [svC_len] at this; omega
/-- One of a list. -/
theorem SvR.at {w : World} {B n k : Nat} {A : Option Addr} {ss : List Sv} (h : SvR w B A n ss) (hk : k < n) :
    ∃ ad s, A = some ad ∧ ad.block < B ∧ ss[k]? = some s ∧ SvOk w B s ∧ w.cell? (ad.add (k * 4)) = some (.string s.nm) ∧ w.cell? ⟨(ad.add (k * 4)).block, (ad.add (k * 4)).off + 1, none⟩ = some (.int .i64 s.parts) ∧
      w.cell? ⟨(ad.add (k * 4)).block, (ad.add (k * 4)).off + 2, none⟩ = some (.slice s.PA s.pn s.pc) ∧ w.cell? ⟨(ad.add (k * 4)).block, (ad.add (k * 4)).off + 3, none⟩ = some (.slice s.SA s.sn s.sc) := by
  obtain ⟨ad, e, hb, hc⟩ := h.row.2 (by omega)
  have hl := h.len
  have hx : ss[k]? = some ss[k] := List.getElem?_eq_getElem (by omega)
  obtain ⟨h1, h2, h3, h4⟩ := svC_at hx
  have hf : ∀ j u, 1 ≤ j → (svC ss)[k * 4 + j]? = some u → w.cell? ⟨(ad.add (k * 4)).block, (ad.add (k * 4)).off + j, none⟩ = some u := fun j u hj hu => by
    have h9 := hc _ _ hu
    rw [← add_of_add] at h9
    have : (ad.add (k * 4)).add j = ⟨(ad.add (k * 4)).block, (ad.add (k * 4)).off + j, none⟩ := by
      generalize ad.add (k * 4) = q
      unfold Addr.add
      rw [if_neg (by omega)]
    rwa [this] at h9
  exact ⟨ad, ss[k], e, hb, hx, h.each _ (List.getElem_mem _), hc _ _ h1, hf 1 _ (by omega) h2, hf 2 _ (by omega) h3, hf 3 _ (by omega) h4⟩
/-- What one tells. -/
def svT (s : Sv) : ByteArray × Int × List Int × List Nat := (s.nm, s.parts, s.ps, s.xs)
/-- What one tells, but which not-a-number is which. -/
def svK (s : Sv) : ByteArray × Int × List Int × List Nat := (s.nm, s.parts, s.ps, s.xs.map (cn .f32))
def sameSys (p q : Int) (ps qs : List Int) : Bool := (p == q) && decide (ps = qs)
def sameSv (s t : Sv) : Bool := decide (s.nm = t.nm) && (sameSys s.parts t.parts s.ps t.ps && sameL s.xs t.xs)
theorem sameSv_iff {s t : Sv} : sameSv s t = true ↔ svK s = svK t := by
  unfold sameSv sameSys sameL svK
  rw [Bool.and_eq_true, Bool.and_eq_true, Bool.and_eq_true, decide_eq_true_iff, decide_eq_true_iff, decide_eq_true_iff, beq_iff_eq, Prod.mk.injEq, Prod.mk.injEq, Prod.mk.injEq, and_assoc]
def sameSvs (ss ts : List Sv) : Bool := decide (ss.map svK = ts.map svK)
theorem sameSvs_len {ss ts : List Sv} (h : ss.length ≠ ts.length) : sameSvs ss ts = false := decide_eq_false (fun e => h (by have := congrArg List.length e; simpa using this))
theorem sameSvs_no {ss ts : List Sv} {k : Nat} {s t : Sv} (hx : ss[k]? = some s) (hy : ts[k]? = some t) (h : sameSv s t = false) : sameSvs ss ts = false := by
  refine decide_eq_false (fun e => ?_)
  have h1 := congrArg (fun l => l[k]?) e
  simp only [List.getElem?_map, hx, hy, Option.map_some, Option.some.injEq] at h1
  rw [← sameSv_iff] at h1
  rw [h1] at h
  cases h
theorem sameSvs_take {ss ts : List Sv} {k : Nat} {s t : Sv} (hx : ss[k]? = some s) (hy : ts[k]? = some t) (h : sameSv s t = true) (hp : (ss.take k).map svK = (ts.take k).map svK) : (ss.take (k + 1)).map svK = (ts.take (k + 1)).map svK := by
  rw [take_eq hx, take_eq hy, List.map_append, List.map_append, hp]
  rw [sameSv_iff] at h
  simp [h]
theorem sameSvs_all {ss ts : List Sv} {n : Nat} (hx : ss.length = n) (hy : ts.length = n) (hp : (ss.take n).map svK = (ts.take n).map svK) : sameSvs ss ts = true := by
  rw [List.take_of_length_le (by omega), List.take_of_length_le (by omega)] at hp
  exact decide_eq_true hp
theorem svK_of_T {s t : Sv} (h : svT s = svT t) : svK s = svK t := by
  unfold svT at h
  unfold svK
  rw [Prod.mk.injEq, Prod.mk.injEq, Prod.mk.injEq] at h ⊢
  exact ⟨h.1, h.2.1, h.2.2.1, by rw [h.2.2.2]⟩
theorem svKs_of_T {ss ts : List Sv} (h : ss.map svT = ts.map svT) : ss.map svK = ts.map svK := by
  have e : ∀ l : List Sv, l.map svK = (l.map svT).map (fun q => (q.1, q.2.1, q.2.2.1, q.2.2.2.map (cn .f32))) := fun l => by rw [List.map_map]; rfl
  rw [e, e, h]
theorem sameSvs_told {ss ss' ts ts' : List Sv} (h : ss'.map svT = ss.map svT) (h' : ts'.map svT = ts.map svT) : sameSvs ss' ts' = sameSvs ss ts := by
  unfold sameSvs
  rw [svKs_of_T h, svKs_of_T h']
end Go.Proofs.YtjmpldcnhjgpkaaGreatDoor

/-
  The check number of a text: both sides.
-/
namespace Go.Proofs.YtjmpldcnhjgpkaaGreatDoor
open Go.RowKit Mem
set_option linter.unusedVariables false
set_option maxRecDepth 100000

def chkL (n : Nat) (l : List UInt8) : Nat := l.foldl (fun a b => (953 * a + b.toNat + 223) % 65003) n
def chk (n : Nat) (s : ByteArray) : Nat := chkL n s.data.toList
theorem chkL_lt {n : Nat} (h : n < 65003) (l : List UInt8) : chkL n l < 65003 := by
  induction l generalizing n with
  | nil => exact h
  | cons b l ih => exact ih (Nat.mod_lt _ (by decide))
theorem chkL_succ {n k : Nat} {l : List UInt8} {b : UInt8} (h : l[k]? = some b) : chkL n (l.take (k + 1)) = (953 * chkL n (l.take k) + b.toNat + 223) % 65003 := by
  unfold chkL
  rw [take_eq h, List.foldl_append]; rfl
theorem byte_at {s : ByteArray} {k : Nat} (h : k < s.size) : s.data.toList[k]? = some s[k] := by
  rw [List.getElem?_eq_getElem (show k < s.data.toList.length by simp only [Array.length_toList]; exact h)]; rfl
theorem chk_all (n : Nat) (s : ByteArray) : chkL n (s.data.toList.take s.size) = chk n s := by
  unfold chk
  rw [List.take_of_length_le (by simp only [Array.length_toList]; exact Nat.le_refl _)]
theorem chk_step {m : Nat} (h : m < 65003) (b : UInt8) : (wrap64 (wrap64 (953 * (m : Int) + wrap64 (b.toNat : Int)) + 223)).tmod 65003 = (((953 * m + b.toNat + 223) % 65003 : Nat) : Int) := by
  have hb : b.toNat < 256 := UInt8.toNat_lt _
  have e : wrap64 (wrap64 (953 * (m : Int) + wrap64 (b.toNat : Int)) + 223) = ((953 * m + b.toNat + 223 : Nat) : Int) := by
    unfold wrap64; omega
  rw [e]; rfl
theorem ret_int' {a b : Int} (h : a = b) : Value.int .i64 a = Value.int .i64 b := by rw [h]
end Go.Proofs.YtjmpldcnhjgpkaaGreatDoor

/-
  A structure of the shelf, laid at this program: LaysM.n173.
-/
namespace Go.Proofs.YtjmpldcnhjgpkaaGreatDoor
open Go Go.Proofs Go.Shelf
set_option maxRecDepth 100000

def renFormatInt : Go.Shelf.Ren :=
{
  f := fun x ↦
    match x with
    | 173 => 36
    | 246 => 77
    | 283 => 112
    | 284 => 113
    | 285 => 114
    | 286 => 115
    | 129 => 133
    | 317 => 132
    | 318 => 134
    | 319 => 135
    | 320 => 136
    | 337 => 167
    | 338 => 168
    | n => n,
  t := fun x ↦
    match x with
    | 2 => 2
    | 3 => 3
    | 9 => 9
    | 4 => 4
    | 171 => 160
    | 0 => 0
    | 53 => 115
    | 37 => 22
    | 5 => 5
    | 173 => 163
    | 212 => 183
    | 51 => 154
    | 20 => 20
    | 213 => 184
    | 46 => 139
    | 232 => 233
    | 233 => 234
    | n => n,
  g := fun x ↦
    match x with
    | 17 => 1
    | 18 => 3
    | 19 => 4
    | n => n }
theorem laysFormatInt : Go.Proofs.LaysM.n173 Tryz.prog renFormatInt :=
{ mixed := Eq.refl Bool.true,
  f129 :=
    Eq.trans Tryz.func133
      (congrArg Option.some (Eq.refl (Go.Proofs.Body.n129 renFormatInt))),
  f173 :=
    Eq.trans Tryz.func36
      (congrArg Option.some (Eq.refl (Go.Proofs.Body.n173 renFormatInt))),
  f246 :=
    Eq.trans Tryz.func77
      (congrArg Option.some (Eq.refl (Go.Proofs.Body.n246 renFormatInt))),
  f283 :=
    Eq.trans Tryz.func112
      (congrArg Option.some (Eq.refl (Go.Proofs.Body.n283 renFormatInt))),
  f284 :=
    Eq.trans Tryz.func113
      (congrArg Option.some (Eq.refl (Go.Proofs.Body.n284 renFormatInt))),
  f285 :=
    Eq.trans Tryz.func114
      (congrArg Option.some (Eq.refl (Go.Proofs.Body.n285 renFormatInt))),
  f286 :=
    Eq.trans Tryz.func115
      (congrArg Option.some (Eq.refl (Go.Proofs.Body.n286 renFormatInt))),
  f317 :=
    Eq.trans Tryz.func132
      (congrArg Option.some (Eq.refl (Go.Proofs.Body.n317 renFormatInt))),
  f318 :=
    Eq.trans Tryz.func134
      (congrArg Option.some (Eq.refl (Go.Proofs.Body.n318 renFormatInt))),
  f319 :=
    Eq.trans Tryz.func135
      (congrArg Option.some (Eq.refl (Go.Proofs.Body.n319 renFormatInt))),
  f320 :=
    Eq.trans Tryz.func136
      (congrArg Option.some (Eq.refl (Go.Proofs.Body.n320 renFormatInt))),
  f337 :=
    Eq.trans Tryz.func167
      (congrArg Option.some (Eq.refl (Go.Proofs.Body.n337 renFormatInt))),
  f338 :=
    Eq.trans Tryz.func168
      (congrArg Option.some (Eq.refl (Go.Proofs.Body.n338 renFormatInt))),
  t0 := Tryz.underlying0, a0 := Tryz.isAgg0, z0 := Tryz.sizeOf0,
  v0 := Tryz.zeroValue0, t2 := Tryz.underlying2, a2 := Tryz.isAgg2,
  z2 := Tryz.sizeOf2, v2 := Tryz.zeroValue2, t3 := Tryz.underlying3,
  a3 := Tryz.isAgg3, z3 := Tryz.sizeOf3, v3 := Tryz.zeroValue3,
  t4 := Tryz.underlying4, a4 := Tryz.isAgg4, z4 := Tryz.sizeOf4,
  v4 := Tryz.zeroValue4, t5 := Tryz.underlying5, a5 := Tryz.isAgg5,
  z5 := Tryz.sizeOf5, v5 := Tryz.zeroValue5, t9 := Tryz.underlying9,
  a9 := Tryz.isAgg9, z9 := Tryz.sizeOf9, v9 := Tryz.zeroValue9,
  t20 := Tryz.underlying20, a20 := Tryz.isAgg20, z20 := Tryz.sizeOf20,
  v20 := Tryz.zeroValue20, t37 := Tryz.underlying22, a37 := Tryz.isAgg22,
  z37 := Tryz.sizeOf22, v37 := Tryz.zeroValue22, t46 := Tryz.underlying139,
  a46 := Tryz.isAgg139, z46 := Tryz.sizeOf139, v46 := Tryz.zeroValue139,
  t51 := Tryz.underlying154, a51 := Tryz.isAgg154, z51 := Tryz.sizeOf154,
  v51 := Tryz.zeroValue154, t53 := Tryz.underlying115, a53 := Tryz.isAgg115,
  z53 := Tryz.sizeOf115, v53 := Tryz.zeroValue115, t171 := Tryz.underlying160,
  a171 := Tryz.isAgg160, z171 := Tryz.sizeOf160, v171 := Tryz.zeroValue160,
  t173 := Tryz.underlying163, a173 := Tryz.isAgg163, z173 := Tryz.sizeOf163,
  v173 := Tryz.zeroValue163, t212 := Tryz.underlying183, a212 := Tryz.isAgg183,
  z212 := Tryz.sizeOf183, v212 := Tryz.zeroValue183, t213 := Tryz.underlying184,
  a213 := Tryz.isAgg184, z213 := Tryz.sizeOf184, t232 := Tryz.underlying233,
  a232 := Tryz.isAgg233, z232 := Tryz.sizeOf233, v232 := Tryz.zeroValue233,
  t233 := Tryz.underlying234, a233 := Tryz.isAgg234, z233 := Tryz.sizeOf234,
  v233 := Tryz.zeroValue234, g17 := by kernel_rfl,
  g18 := by kernel_rfl,
  g19 := by kernel_rfl,
  i0 := Eq.refl (Option.some (Option.some (Go.Value.tuple #[]), 1, 0)),
  i2 := Eq.refl (Option.some (Option.some (Go.Value.int Go.IntKind.i64 0), 1, 8)),
  i3 := Eq.refl (Option.some (Option.some (Go.Value.int Go.IntKind.i64 0), 1, 8)),
  i4 := Eq.refl (Option.some (Option.some (Go.Value.bool Bool.false), 1, 1)),
  i5 := Eq.refl (Option.some (Option.some (Go.Value.int Go.IntKind.u8 0), 1, 1)),
  i9 := Eq.refl (Option.some (Option.some (Go.Value.string { data := #[] }), 1, 16)),
  i20 := Eq.refl (Option.some (Option.some Go.Value.nilIface, 1, 16)),
  i37 := Eq.refl (Option.some (Option.some (Go.Value.slice Option.none 0 0), 1, 24)),
  i46 := Eq.refl (Option.some (Option.some (Go.Value.int Go.IntKind.u64 0), 1, 8)),
  i51 := Eq.refl (Option.some (Option.some (Go.Value.int Go.IntKind.u32 0), 1, 4)),
  i53 := Eq.refl (Option.some (Option.some (Go.Value.int Go.IntKind.u64 0), 1, 8)),
  i171 :=
    Eq.refl
      (Option.some
        (Option.some
            (Go.Value.agg
              #[Go.Value.int Go.IntKind.u8 0, Go.Value.int Go.IntKind.u8 0, Go.Value.int Go.IntKind.u8 0,
                Go.Value.int Go.IntKind.u8 0, Go.Value.int Go.IntKind.u8 0, Go.Value.int Go.IntKind.u8 0,
                Go.Value.int Go.IntKind.u8 0, Go.Value.int Go.IntKind.u8 0, Go.Value.int Go.IntKind.u8 0,
                Go.Value.int Go.IntKind.u8 0, Go.Value.int Go.IntKind.u8 0, Go.Value.int Go.IntKind.u8 0,
                Go.Value.int Go.IntKind.u8 0, Go.Value.int Go.IntKind.u8 0, Go.Value.int Go.IntKind.u8 0,
                Go.Value.int Go.IntKind.u8 0, Go.Value.int Go.IntKind.u8 0, Go.Value.int Go.IntKind.u8 0,
                Go.Value.int Go.IntKind.u8 0, Go.Value.int Go.IntKind.u8 0, Go.Value.int Go.IntKind.u8 0,
                Go.Value.int Go.IntKind.u8 0, Go.Value.int Go.IntKind.u8 0, Go.Value.int Go.IntKind.u8 0]),
          24, 24)),
  i173 :=
    Eq.refl
      (Option.some
        (Option.some (Go.Value.tuple #[Go.Value.slice Option.none 0 0, Go.Value.string { data := #[] }]), 1, 0)),
  i212 :=
    Eq.refl
      (Option.some
        (Option.some
            (Go.Value.agg
              #[Go.Value.int Go.IntKind.u64 0, Go.Value.int Go.IntKind.u64 0, Go.Value.int Go.IntKind.u64 0,
                Go.Value.int Go.IntKind.u64 0, Go.Value.int Go.IntKind.u64 0, Go.Value.int Go.IntKind.u64 0,
                Go.Value.int Go.IntKind.u64 0, Go.Value.int Go.IntKind.u64 0, Go.Value.int Go.IntKind.u64 0,
                Go.Value.int Go.IntKind.u64 0, Go.Value.int Go.IntKind.u64 0, Go.Value.int Go.IntKind.u64 0,
                Go.Value.int Go.IntKind.u64 0, Go.Value.int Go.IntKind.u64 0, Go.Value.int Go.IntKind.u64 0,
                Go.Value.int Go.IntKind.u64 0, Go.Value.int Go.IntKind.u64 0, Go.Value.int Go.IntKind.u64 0,
                Go.Value.int Go.IntKind.u64 0, Go.Value.int Go.IntKind.u64 0]),
          20, 160)),
  i232 :=
    Eq.refl
      (Option.some
        (Option.some
            (Go.Value.agg
              #[Go.Value.int Go.IntKind.u8 0, Go.Value.int Go.IntKind.u8 0, Go.Value.int Go.IntKind.u8 0,
                Go.Value.int Go.IntKind.u8 0, Go.Value.int Go.IntKind.u8 0, Go.Value.int Go.IntKind.u8 0,
                Go.Value.int Go.IntKind.u8 0, Go.Value.int Go.IntKind.u8 0, Go.Value.int Go.IntKind.u8 0,
                Go.Value.int Go.IntKind.u8 0, Go.Value.int Go.IntKind.u8 0, Go.Value.int Go.IntKind.u8 0,
                Go.Value.int Go.IntKind.u8 0, Go.Value.int Go.IntKind.u8 0, Go.Value.int Go.IntKind.u8 0,
                Go.Value.int Go.IntKind.u8 0, Go.Value.int Go.IntKind.u8 0, Go.Value.int Go.IntKind.u8 0,
                Go.Value.int Go.IntKind.u8 0, Go.Value.int Go.IntKind.u8 0, Go.Value.int Go.IntKind.u8 0,
                Go.Value.int Go.IntKind.u8 0, Go.Value.int Go.IntKind.u8 0, Go.Value.int Go.IntKind.u8 0,
                Go.Value.int Go.IntKind.u8 0, Go.Value.int Go.IntKind.u8 0, Go.Value.int Go.IntKind.u8 0,
                Go.Value.int Go.IntKind.u8 0, Go.Value.int Go.IntKind.u8 0, Go.Value.int Go.IntKind.u8 0,
                Go.Value.int Go.IntKind.u8 0, Go.Value.int Go.IntKind.u8 0]),
          32, 32)),
  i233 :=
    Eq.refl
      (Option.some
        (Option.some
            (Go.Value.agg
              (let y :=
                  let y :=
                    let y :=
                      let y :=
                        [Go.Value.int Go.IntKind.u8 0, Go.Value.int Go.IntKind.u8 0, Go.Value.int Go.IntKind.u8 0,
                          Go.Value.int Go.IntKind.u8 0];
                      Go.Value.int Go.IntKind.u8 0 ::
                        Go.Value.int Go.IntKind.u8 0 ::
                          Go.Value.int Go.IntKind.u8 0 :: Go.Value.int Go.IntKind.u8 0 :: y;
                    let y :=
                      Go.Value.int Go.IntKind.u8 0 ::
                        Go.Value.int Go.IntKind.u8 0 ::
                          Go.Value.int Go.IntKind.u8 0 :: Go.Value.int Go.IntKind.u8 0 :: y;
                    Go.Value.int Go.IntKind.u8 0 ::
                      Go.Value.int Go.IntKind.u8 0 :: Go.Value.int Go.IntKind.u8 0 :: Go.Value.int Go.IntKind.u8 0 :: y;
                  let y :=
                    let y :=
                      Go.Value.int Go.IntKind.u8 0 ::
                        Go.Value.int Go.IntKind.u8 0 ::
                          Go.Value.int Go.IntKind.u8 0 :: Go.Value.int Go.IntKind.u8 0 :: y;
                    Go.Value.int Go.IntKind.u8 0 ::
                      Go.Value.int Go.IntKind.u8 0 :: Go.Value.int Go.IntKind.u8 0 :: Go.Value.int Go.IntKind.u8 0 :: y;
                  let y :=
                    Go.Value.int Go.IntKind.u8 0 ::
                      Go.Value.int Go.IntKind.u8 0 :: Go.Value.int Go.IntKind.u8 0 :: Go.Value.int Go.IntKind.u8 0 :: y;
                  Go.Value.int Go.IntKind.u8 0 ::
                    Go.Value.int Go.IntKind.u8 0 :: Go.Value.int Go.IntKind.u8 0 :: Go.Value.int Go.IntKind.u8 0 :: y;
                let y :=
                  let y :=
                    let y :=
                      Go.Value.int Go.IntKind.u8 0 ::
                        Go.Value.int Go.IntKind.u8 0 ::
                          Go.Value.int Go.IntKind.u8 0 :: Go.Value.int Go.IntKind.u8 0 :: y;
                    Go.Value.int Go.IntKind.u8 0 ::
                      Go.Value.int Go.IntKind.u8 0 :: Go.Value.int Go.IntKind.u8 0 :: Go.Value.int Go.IntKind.u8 0 :: y;
                  let y :=
                    Go.Value.int Go.IntKind.u8 0 ::
                      Go.Value.int Go.IntKind.u8 0 :: Go.Value.int Go.IntKind.u8 0 :: Go.Value.int Go.IntKind.u8 0 :: y;
                  Go.Value.int Go.IntKind.u8 0 ::
                    Go.Value.int Go.IntKind.u8 0 :: Go.Value.int Go.IntKind.u8 0 :: Go.Value.int Go.IntKind.u8 0 :: y;
                let y :=
                  let y :=
                    Go.Value.int Go.IntKind.u8 0 ::
                      Go.Value.int Go.IntKind.u8 0 :: Go.Value.int Go.IntKind.u8 0 :: Go.Value.int Go.IntKind.u8 0 :: y;
                  Go.Value.int Go.IntKind.u8 0 ::
                    Go.Value.int Go.IntKind.u8 0 :: Go.Value.int Go.IntKind.u8 0 :: Go.Value.int Go.IntKind.u8 0 :: y;
                let y :=
                  Go.Value.int Go.IntKind.u8 0 ::
                    Go.Value.int Go.IntKind.u8 0 :: Go.Value.int Go.IntKind.u8 0 :: Go.Value.int Go.IntKind.u8 0 :: y;
                Go.Value.int Go.IntKind.u8 0 ::
                  Go.Value.int Go.IntKind.u8 0 ::
                    Go.Value.int Go.IntKind.u8 0 :: Go.Value.int Go.IntKind.u8 0 :: y).toArray),
          64, 64)),
  m17 := by kernel_rfl,
  m18 := by kernel_rfl,
  m19 := by kernel_rfl }
end Go.Proofs.YtjmpldcnhjgpkaaGreatDoor

/-
  The check number of a text: both sides. The decimal text of any number: the program's side.
-/
namespace Go.Proofs.YtjmpldcnhjgpkaaGreatDoor
open Go.RowKit Mem Go.Shelf
set_option linter.unusedVariables false
set_option maxRecDepth 100000

theorem pow_kept {w w' : World} (h : Lib.TabIs Tryz.prog w "internal/strconv.uint64pow10" .u64 Lib.pow10Tab) (hb : Below w.heap.size w w') : Lib.TabIs Tryz.prog w' "internal/strconv.uint64pow10" .u64 Lib.pow10Tab :=
  Go.Joins.var_stays (show Tryz.prog.globalNamed "internal/strconv.uint64pow10" = some 1 by kernel_rfl) h hb (Nat.le_refl _)
theorem i_DecimalA {n : Int} {w : World} (h0 : -9223372036854775808 ≤ n) (h1 : n ≤ 9223372036854775807) (htab : Lib.TabIs Tryz.prog w "internal/strconv.uint64pow10" .u64 Lib.pow10Tab) :
    Calls Tryz.prog 12 #[.int .i64 n] w fun e w' => e = .returned (.string (numS n)) ∧ Below w.heap.size w w' := by
  go_enter Tryz.func12, Tryz.ntmps12
  go_wp2_with fail
  refine (Any.strconv_FormatInt_10 laysFormatInt n h0 h1 _ htab).mono ?_
  rintro e w1 ⟨rfl, k, os, rfl⟩
  go_wp2
  go_ret
  exact ⟨rfl, Lib.below_grow _ _ (Nat.le_refl _) k os⟩
end Go.Proofs.YtjmpldcnhjgpkaaGreatDoor

/-
  The reference's cutting of a text at a mark.
-/
namespace Go.Proofs.YtjmpldcnhjgpkaaGreatDoor
open Go.RowKit Mem
set_option linter.unusedVariables false
set_option maxRecDepth 100000

theorem info_str : (Tryz.prog.info? 9).map (fun i => (i.zero, i.size, i.bytes)) = some (some (.string ByteArray.empty), 1, 16) := by kernel_rfl
/-- One step of the cutting: what is cut off so far, and where the next part begins. -/
def cutStep (s : ByteArray) (m : UInt8) (p : List ByteArray × Nat) (i : Nat) : List ByteArray × Nat :=
  if i = s.size ∨ s.data.toList[i]? = some m then (p.1 ++ [s.extract p.2 i], i + 1) else p
def cutTo (s : ByteArray) (m : UInt8) (k : Nat) : List ByteArray × Nat := (List.range k).foldl (cutStep s m) ([], 0)
def cutAll (s : ByteArray) (m : UInt8) : List ByteArray := (cutTo s m (s.size + 1)).1
theorem cutTo_succ (s : ByteArray) (m : UInt8) (k : Nat) : cutTo s m (k + 1) = cutStep s m (cutTo s m k) k := by
  unfold cutTo; rw [List.range_succ, List.foldl_append]; rfl
theorem cutTo_le (s : ByteArray) (m : UInt8) (k : Nat) : (cutTo s m k).2 ≤ k ∧ (cutTo s m k).1.length ≤ k := by
  induction k with
  | zero => exact ⟨Nat.le_refl _, Nat.le_refl _⟩
  | succ k ih =>
    rw [cutTo_succ]
    unfold cutStep
    split
    · simp; omega
    · omega

end Go.Proofs.YtjmpldcnhjgpkaaGreatDoor

/-
  Cutting at a mark is what strings.Split does: the plain law.
-/
namespace Go.Proofs.YtjmpldcnhjgpkaaGreatDoor
open Go.RowKit Mem
set_option linter.unusedVariables false

theorem index_hit {m : UInt8} : ∀ (d : List UInt8) (j : Nat), d[j]? = some m → (∀ i : Nat, i < j → d[i]? ≠ some m) → Lib.index d [m] = (j : Int) := by
  intro d
  induction d with
  | nil => intro j h; simp at h
  | cons b l ih =>
    intro j h hn
    cases j with
    | zero => simp at h; subst h; simp [Lib.index, List.isPrefixOf]
    | succ j =>
      have hb : b ≠ m := by have := hn 0 (by omega); simpa using this
      have := ih j (by simpa using h) (fun i hi => by have := hn (i + 1) (by omega); simpa using this)
      have hbm : (m == b) = false := by simp; exact fun e => hb e.symm
      simp only [Lib.index, List.isPrefixOf, hbm, Bool.false_and, this]
      simp
theorem index_miss {m : UInt8} : ∀ (d : List UInt8), (∀ i : Nat, d[i]? ≠ some m) → Lib.index d [m] = -1 := by
  intro d
  induction d with
  | nil => intro _; rfl
  | cons b l ih =>
    intro hn
    have hb : b ≠ m := by have := hn 0; simpa using this
    have := ih (fun i => by have := hn (i + 1); simpa using this)
    have hbm : (m == b) = false := by simp; exact fun e => hb e.symm
    simp only [Lib.index, List.isPrefixOf, hbm, Bool.false_and, this]
    rfl

def markB (m : UInt8) : ByteArray := ⟨#[m]⟩
/-- What strings.Split makes of a text. -/
def splitS (s : ByteArray) (m : UInt8) : List ByteArray := Lib.splitB (markB m) 0 (Lib.countB s (markB m)) s
theorem idxB {s : ByteArray} {m : UInt8} : Lib.indexB s (markB m) = Lib.index s.data.toList [m] := rfl
theorem splitS_miss {s : ByteArray} {m : UInt8} (h : ∀ i : Nat, s.data.toList[i]? ≠ some m) : splitS s m = [s] :=
  Lib.splitB_miss _ _ _ _ (by rw [idxB]; exact index_miss _ h)
theorem splitS_hit {s : ByteArray} {m : UInt8} {j : Nat} (h : s.data.toList[j]? = some m) (hn : ∀ i : Nat, i < j → s.data.toList[i]? ≠ some m) :
    splitS s m = s.extract 0 j :: splitS (s.extract (j + 1) s.size) m := by
  have hi : Lib.indexB s (markB m) = (j : Int) := by rw [idxB]; exact index_hit _ _ h hn
  have h1 : (markB m).size = 1 := rfl
  unfold splitS
  rw [Lib.countB_hit s (markB m) j (by rw [h1]; omega) hi, h1, Nat.add_comm 1, Lib.splitB_hit _ _ _ _ j hi, h1]
  rfl
theorem ba_ext {a b : ByteArray} (h : a.data.toList = b.data.toList) : a = b := by
  obtain ⟨⟨l⟩⟩ := a; obtain ⟨⟨k⟩⟩ := b; simp at h; subst h; rfl
theorem ext_get {s : ByteArray} {f i : Nat} : (s.extract f s.size).data.toList[i]? = s.data.toList[f + i]? := by
  rw [Lib.extract_data]
  have hl : s.data.toList.length = s.size := Array.length_toList
  rw [List.getElem?_take, List.getElem?_drop]
  split
  · rfl
  · exact (List.getElem?_eq_none (by omega)).symm
theorem ext_ext {s : ByteArray} {f k : Nat} (h1 : f ≤ k) (h2 : k ≤ s.size) : (s.extract f s.size).extract 0 (k - f) = s.extract f k := by
  apply ba_ext
  rw [Lib.extract_data, Lib.extract_data, Lib.extract_data, List.drop_zero, List.take_take]
  congr 1; omega
theorem ext_rest {s : ByteArray} {f k : Nat} (h1 : f ≤ k) (h2 : k < s.size) : (s.extract f s.size).extract (k - f + 1) (s.extract f s.size).size = s.extract (k + 1) s.size := by
  apply ba_ext
  have hl : s.data.toList.length = s.size := Array.length_toList
  have hz : (s.extract f s.size).size = s.size - f := by rw [ByteArray.size_extract]; omega
  rw [Lib.extract_data, Lib.extract_data, Lib.extract_data, hz, List.drop_take, List.drop_drop, List.take_take]
  congr 1
  · omega
  · congr 1; omega
theorem cut_inv (s : ByteArray) (m : UInt8) : ∀ k, k ≤ s.size → splitS s m = (cutTo s m k).1 ++ splitS (s.extract (cutTo s m k).2 s.size) m ∧ ∀ i : Nat, (cutTo s m k).2 ≤ i → i < k → s.data.toList[i]? ≠ some m := by
  intro k
  induction k with
  | zero =>
    intro _
    refine ⟨?_, fun i _ h => absurd h (by omega)⟩
    show splitS s m = [] ++ splitS (s.extract 0 s.size) m
    rw [ByteArray.extract_zero_size]; rfl
  | succ k ih =>
    intro hk
    obtain ⟨h1, h2⟩ := ih (by omega)
    have hle := (cutTo_le s m k).1
    rw [cutTo_succ]
    unfold cutStep
    split
    · rename_i hc
      have hm : s.data.toList[k]? = some m := hc.resolve_left (by omega)
      refine ⟨?_, fun i h3 h4 => absurd h3 (by simp; omega)⟩
      have hh := splitS_hit (s := s.extract (cutTo s m k).2 s.size) (m := m) (j := k - (cutTo s m k).2)
        (by rw [ext_get, show (cutTo s m k).2 + (k - (cutTo s m k).2) = k by omega]; exact hm)
        (fun i hi => by rw [ext_get]; exact h2 _ (by omega) (by omega))
      rw [ext_ext hle (by omega), ext_rest hle (by omega)] at hh
      rw [h1, hh]; simp
    · rename_i hc
      refine ⟨h1, fun i h3 h4 => ?_⟩
      rcases Nat.lt_or_ge i k with h | h
      · exact h2 i h3 h
      · obtain rfl : i = k := by omega
        exact fun e => hc (.inr e)
theorem cutAll_split (s : ByteArray) (m : UInt8) : cutAll s m = splitS s m := by
  obtain ⟨h1, h2⟩ := cut_inv s m s.size (Nat.le_refl _)
  have hle := (cutTo_le s m s.size).1
  have hl : s.data.toList.length = s.size := Array.length_toList
  unfold cutAll
  rw [cutTo_succ]
  unfold cutStep
  rw [if_pos (.inl rfl), h1, splitS_miss (fun i => ?_)]
  rw [ext_get]
  rcases Nat.lt_or_ge ((cutTo s m s.size).2 + i) s.size with h | h
  · exact h2 _ (by omega) h
  · rw [List.getElem?_eq_none (by omega)]; simp
end Go.Proofs.YtjmpldcnhjgpkaaGreatDoor

/-
  A structure of the shelf, laid at this program: LaysM.n145.
-/
namespace Go.Proofs.YtjmpldcnhjgpkaaGreatDoor
open Go Go.Proofs Go.Shelf
set_option maxRecDepth 100000

def renCutF : Go.Shelf.Ren :=
{
  f := fun x ↦
    match x with
    | 145 => 176
    | 220 => 194
    | 219 => 172
    | 217 => 190
    | 225 => 191
    | 224 => 192
    | 267 => 193
    | 266 => 207
    | 314 => 208
    | n => n,
  t := fun x ↦
    match x with
    | 9 => 9
    | 4 => 4
    | 59 => 223
    | 3 => 3
    | 5 => 5
    | 46 => 139
    | 146 => 174
    | 51 => 154
    | n => n,
  g := fun x ↦
    match x with
    | 1 => 2
    | n => n }
theorem laysCutF : Go.Proofs.LaysM.n145 Tryz.prog renCutF :=
{ mixed := Eq.refl Bool.true,
  f145 :=
    Eq.trans Tryz.func176 (congrArg Option.some (Eq.refl (Go.Proofs.Body.n145 renCutF))),
  f217 :=
    Eq.trans Tryz.func190 (congrArg Option.some (Eq.refl (Go.Proofs.Body.n217 renCutF))),
  f219 :=
    Eq.trans Tryz.func172 (congrArg Option.some (Eq.refl (Go.Proofs.Body.n219 renCutF))),
  f220 :=
    Eq.trans Tryz.func194 (congrArg Option.some (Eq.refl (Go.Proofs.Body.n220 renCutF))),
  f224 :=
    Eq.trans Tryz.func192 (congrArg Option.some (Eq.refl (Go.Proofs.Body.n224 renCutF))),
  f225 :=
    Eq.trans Tryz.func191 (congrArg Option.some (Eq.refl (Go.Proofs.Body.n225 renCutF))),
  f266 :=
    Eq.trans Tryz.func207 (congrArg Option.some (Eq.refl (Go.Proofs.Body.n266 renCutF))),
  f267 :=
    Eq.trans Tryz.func193 (congrArg Option.some (Eq.refl (Go.Proofs.Body.n267 renCutF))),
  f314 :=
    Eq.trans Tryz.func208 (congrArg Option.some (Eq.refl (Go.Proofs.Body.n314 renCutF))),
  t3 := Tryz.underlying3, a3 := Tryz.isAgg3, z3 := Tryz.sizeOf3,
  v3 := Tryz.zeroValue3, t4 := Tryz.underlying4, a4 := Tryz.isAgg4,
  z4 := Tryz.sizeOf4, v4 := Tryz.zeroValue4, t5 := Tryz.underlying5,
  a5 := Tryz.isAgg5, z5 := Tryz.sizeOf5, v5 := Tryz.zeroValue5,
  t9 := Tryz.underlying9, a9 := Tryz.isAgg9, z9 := Tryz.sizeOf9,
  v9 := Tryz.zeroValue9, t46 := Tryz.underlying139, a46 := Tryz.isAgg139,
  z46 := Tryz.sizeOf139, v46 := Tryz.zeroValue139, t51 := Tryz.underlying154,
  a51 := Tryz.isAgg154, z51 := Tryz.sizeOf154, v51 := Tryz.zeroValue154,
  t59 := Tryz.underlying223, a59 := Tryz.isAgg223, z59 := Tryz.sizeOf223,
  v59 := Tryz.zeroValue223, t146 := Tryz.underlying174, a146 := Tryz.isAgg174,
  z146 := Tryz.sizeOf174, v146 := Tryz.zeroValue174,
  g1 := by kernel_rfl,
  i3 := Eq.refl (Option.some (Option.some (Go.Value.int Go.IntKind.i64 0), 1, 8)),
  i4 := Eq.refl (Option.some (Option.some (Go.Value.bool Bool.false), 1, 1)),
  i5 := Eq.refl (Option.some (Option.some (Go.Value.int Go.IntKind.u8 0), 1, 1)),
  i9 := Eq.refl (Option.some (Option.some (Go.Value.string { data := #[] }), 1, 16)),
  i46 := Eq.refl (Option.some (Option.some (Go.Value.int Go.IntKind.u64 0), 1, 8)),
  i51 := Eq.refl (Option.some (Option.some (Go.Value.int Go.IntKind.u32 0), 1, 4)),
  i59 :=
    Eq.refl
      (Option.some
        (Option.some
            (Go.Value.tuple
              #[Go.Value.string { data := #[] }, Go.Value.string { data := #[] }, Go.Value.bool Bool.false]),
          1, 0)),
  i146 :=
    Eq.refl
      (Option.some
        (Option.some (Go.Value.tuple #[Go.Value.int Go.IntKind.u32 0, Go.Value.int Go.IntKind.u32 0]), 1, 0)),
  m1 := by kernel_rfl,
  s1_3 := fun w h ↦
    Go.Proofs.cell_of_shapedOpen_int h (of_decide_eq_true (Eq.refl Bool.true))
      (Eq.refl (Option.some (#[Go.Value.int Go.IntKind.i64 0], 3))) rfl (Eq.refl Bool.true) (Eq.refl (Option.some [3]))
      Tryz.underlying3 }
end Go.Proofs.YtjmpldcnhjgpkaaGreatDoor

/-
  A structure of the shelf, laid at this program: Lays.n137.
-/
namespace Go.Proofs.YtjmpldcnhjgpkaaGreatDoor
open Go Go.Proofs Go.Shelf
set_option maxRecDepth 100000

def renIndexByte : Go.Shelf.Ren :=
{
  f := fun x ↦
    match x with
    | 137 => 224
    | 217 => 190
    | 266 => 207
    | n => n,
  t := fun x ↦
    match x with
    | 9 => 9
    | 5 => 5
    | 3 => 3
    | n => n,
  g := fun x ↦
    have n := x;
    n }
theorem laysIndexByte : Go.Proofs.Lays.n137 Tryz.prog renIndexByte :=
{ mixed := Eq.refl Bool.true,
  f137 :=
    Eq.trans Tryz.func224
      (congrArg Option.some (Eq.refl (Go.Proofs.Body.n137 renIndexByte))),
  f217 :=
    Eq.trans Tryz.func190
      (congrArg Option.some (Eq.refl (Go.Proofs.Body.n217 renIndexByte))),
  f266 :=
    Eq.trans Tryz.func207
      (congrArg Option.some (Eq.refl (Go.Proofs.Body.n266 renIndexByte))),
  t3 := Tryz.underlying3, a3 := Tryz.isAgg3, z3 := Tryz.sizeOf3,
  v3 := Tryz.zeroValue3, t5 := Tryz.underlying5, a5 := Tryz.isAgg5,
  z5 := Tryz.sizeOf5, v5 := Tryz.zeroValue5, t9 := Tryz.underlying9,
  a9 := Tryz.isAgg9, z9 := Tryz.sizeOf9, v9 := Tryz.zeroValue9 }
end Go.Proofs.YtjmpldcnhjgpkaaGreatDoor
