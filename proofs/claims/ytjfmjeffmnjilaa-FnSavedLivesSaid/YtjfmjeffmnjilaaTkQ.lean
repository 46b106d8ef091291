/-
  What the program's taker has told so far, against what the bytes begin with.
-/
import Derived.Test.YtjfmjeffmnjilaaLawStoreAll
import Derived.Test.YtjfmjeffmnjilaaLayRepeat
import Derived.Lib.Repeat
import Derived.Laws.BitsLemmas
import Derived.BigQuiet
namespace Go.Proofs.Ytjfmjeffmnjilaa
open Go.RowKit Fl Mem Go.Shelf
set_option linter.unusedVariables false
set_option maxRecDepth 100000

/-- The number of some bytes, the least one first. -/
def leN : List UInt8 → Nat
  | [] => 0
  | b :: r => b.toNat + 256 * leN r
theorem leN_lt (l : List UInt8) : leN l < 256 ^ l.length := by
  induction l with
  | nil => simp [leN]
  | cons b r ih =>
    have hb : b.toNat < 256 := UInt8.toNat_lt _
    simp only [leN, List.length_cons, Nat.pow_succ]
    omega
theorem leN_append (l : List UInt8) (b : UInt8) : leN (l ++ [b]) = leN l + b.toNat * 256 ^ l.length := by
  induction l with
  | nil => simp [leN]
  | cons c r ih =>
    simp only [List.cons_append, leN, ih, List.length_cons, Nat.pow_succ]
    generalize 256 ^ r.length = E
    rw [Nat.mul_add, Nat.add_assoc]
    congr 2
    rw [Nat.mul_left_comm, Nat.mul_comm 256 E]
def rd (l : List UInt8) (a k : Nat) : Nat := leN ((l.drop a).take k)
def dC (l : List UInt8) : Nat := rd l 4 1
def dN (l : List UInt8) : ByteArray := ⟨((l.drop 5).take (dC l)).toArray⟩
def dP (l : List UInt8) : Nat := rd l (5 + dC l) 1
def dK (l : List UInt8) : Nat := rd l (6 + dC l) 1
def dPs (l : List UInt8) (k : Nat) : List Int := (List.range k).map fun i => ((rd l (7 + dC l + 2 * i) 2 : Nat) : Int)
def dO (l : List UInt8) : Nat := 7 + dC l + 2 * dK l
def dM (l : List UInt8) : Nat := rd l (dO l) 1
def dXs (l : List UInt8) (m : Nat) : List Nat := (List.range m).map fun i => rd l (dO l + 1 + 4 * i) 4
def dE (l : List UInt8) : Nat := dO l + 1 + 4 * dM l + 2
def dQ (l : List UInt8) : ByteArray × Int × List Int × List Nat := (dN l, (dP l : Int), dPs l (dK l), dXs l (dM l))
/-- Do bytes begin with what is saved. -/
def begB (l : List UInt8) : Bool := decide (dE l ≤ l.length) && (svBT (dQ l) && decide (stBT (dQ l) = ⟨(l.take (dE l)).toArray⟩))
theorem dPs_succ (l : List UInt8) (k : Nat) : dPs l (k + 1) = dPs l k ++ [((rd l (7 + dC l + 2 * k) 2 : Nat) : Int)] := by
  unfold dPs
  rw [List.range_succ, List.map_append]; rfl
theorem dXs_succ (l : List UInt8) (m : Nat) : dXs l (m + 1) = dXs l m ++ [rd l (dO l + 1 + 4 * m) 4] := by
  unfold dXs
  rw [List.range_succ, List.map_append]; rfl

/-! What is taken: the text, whether too little is left, where one is then. -/
def tkS (s : ByteArray) (a n : Nat) : ByteArray := if s.size < a + n then ⟨(List.replicate n 0).toArray⟩ else s.extract a (a + n)
def tkA (s : ByteArray) (a n : Nat) : Nat := if s.size < a + n then a else a + n
def tkH (s : ByteArray) (a n : Nat) (sh : Bool) : Bool := if s.size < a + n then true else sh
theorem extract_list (s : ByteArray) (a n : Nat) : (s.extract a (a + n)).data.toList = (s.data.toList.drop a).take n := by
  rw [ByteArray.data_extract, Array.toList_extract, List.extract_eq_take_drop, Nat.add_sub_cancel_left]
theorem tkS_size (s : ByteArray) (a n : Nat) : (tkS s a n).size = n := by
  unfold tkS
  split
  · show (List.replicate n (0 : UInt8)).toArray.size = n
    simp
  · rw [ByteArray.size_extract]
    omega
theorem tkS_yes {s : ByteArray} {a n : Nat} (h : a + n ≤ s.size) : (tkS s a n).data.toList = (s.data.toList.drop a).take n := by
  unfold tkS
  rw [if_neg (by omega), extract_list]
theorem tkA_le {s : ByteArray} {a n : Nat} (h : a ≤ s.size) : tkA s a n ≤ s.size := by
  unfold tkA
  split <;> omega

theorem extraRepeatS : Builder.Extra Try.prog renRepeat where
  sizeBuilder := by kernel_rfl
  liesBuilder := by kernel_rfl
  t5 := Try.underlying5
  a5 := Try.isAgg5
  z5 := Try.sizeOf5
  v5 := Try.zeroValue5
  infoByte := by kernel_rfl
  cellsByte := by kernel_rfl
  sizeByte := by kernel_rfl
  neB5 := by decide
theorem repeatZ {c : Nat} (w : World) (hc : c ≤ 1048576) :
    Calls Try.prog 113 #[.string ⟨#[0]⟩, .int .i64 (c : Int)] w fun e w' => e = .returned (.string ⟨(List.replicate c 0).toArray⟩) ∧ Below w.heap.size w w' := by
  refine (Any.strings_Repeat laysRepeat extraRepeatS ⟨#[0]⟩ c w (by omega) (by have : ByteArray.size ⟨#[0]⟩ = 1 := rfl; rw [this]; omega)).mono ?_
  rintro e w' ⟨rfl, h⟩
  refine ⟨?_, h⟩
  have := Go.Lib.repeatL_replicate 0 1 c
  simp only [Nat.mul_one] at this
  rw [← this]; rfl
theorem grownBy_set (w : World) (p : Addr) (u : Value) : w.grownBy (w.setCell p u) (some p.block) :=
  ⟨rfl, rfl, rfl, by simp [World.setCell], fun k hk hne => Below.heap_setCell w p u k (fun e => hne (by rw [e]))⟩
theorem grownBy_trans {a b c : World} {row : Option Nat} (h : a.grownBy b row) (h' : b.grownBy c row) : a.grownBy c row :=
  ⟨h'.os.trans h.os, h'.tape.trans h.tape, h'.output.trans h.output, Nat.le_trans h.size h'.size, fun k hk hne => (h'.block k (Nat.lt_of_lt_of_le hk h.size) hne).trans (h.block k hk hne)⟩
theorem grownBy_below {a b : World} (h : Below a.heap.size a b) (row : Option Nat) : a.grownBy b row := ⟨h.os, h.tape, h.output, h.size, fun k hk _ => h.block k hk⟩
end Go.Proofs.Ytjfmjeffmnjilaa
namespace Go.Proofs.Ytjfmjeffmnjilaa
open Go.RowKit Fl Mem
set_option linter.unusedVariables false
set_option maxRecDepth 100000

set_option maxHeartbeats 1000000 in
theorem take_calls {T a n : Nat} {s : ByteArray} {sh : Bool} {w : World} (hT : Blk w T 107 #[.string s, .int .i64 (a : Int), .bool sh]) (ha : a ≤ s.size) (hs : s.size ≤ 1048576) (hn : n ≤ 1048576) :
    Calls Try.prog 90 #[.pointer (some ⟨T, 0, none⟩), .int .i64 (n : Int)] w fun e w' => e = .returned (.string (tkS s a n)) ∧ Blk w' T 107 #[.string s, .int .i64 (tkA s a n : Int), .bool (tkH s a n sh)] ∧ w.grownBy w' (some T) := by
  have c0 : w.cell? ⟨T, 0, none⟩ = some (.string s) := hT.cell 0
  have c1 : w.cell? ⟨T, 1, none⟩ = some (.int .i64 (a : Int)) := hT.cell 1
  have c2 : w.cell? ⟨T, 2, none⟩ = some (.bool sh) := hT.cell 2
  have f1 : w.frozen? ⟨T, 1, none⟩ = false := hT.frozen 1
  have f2 : w.frozen? ⟨T, 2, none⟩ = false := hT.frozen 2
  have e1 : wrap64 ((s.size : Int) - (a : Int)) = ((s.size - a : Nat) : Int) := by unfold wrap64; omega
  have HT := hide hT
  clear hT
  by_cases hk : s.size < a + n
  · have d1 : decide (((s.size - a : Nat) : Int) < (n : Int)) = true := decide_eq_true (by omega)
    have d1i : decide ((s.size : Int) - (a : Int) < (n : Int)) = true := decide_eq_true (by omega)
    have d1j : (s.size : Int) - (a : Int) < (n : Int) := by omega
    have HS : Hid (tkS s a n = ⟨(List.replicate n 0).toArray⟩) := hide (if_pos hk)
    have HA : Hid (tkA s a n = a) := hide (if_pos hk)
    have HH : Hid (tkH s a n sh = true) := hide (if_pos hk)
    have hk2 := hide hk
    clear hk
    go_enter Try.func90, Try.ntmps90
    go_wp2
    go_quiet ((fail))
    go_wp2_with fail
    refine (repeatZ _ hn).mono ?_
    rintro e w2 ⟨rfl, hb⟩
    go_wp2
    go_ret
    have hB := (Blk.drewN HT.out nq).set_ 2 (.bool true)
    have hlt : T < ((w.drewN nq).setCell ⟨T, 2, none⟩ (.bool true)).heap.size := hB.lt
    exact ⟨by rw [HS.out, List.toArray_replicate]; rfl, by rw [HA.out, HH.out]; exact hB.below hb hlt, grownBy_trans (grownBy_trans (grownBy_below (below_drewN (Below.refl _ _) nq) _) (grownBy_set _ _ _)) (grownBy_below hb _)⟩
  · have d1 : decide (((s.size - a : Nat) : Int) < (n : Int)) = false := decide_eq_false (by omega)
    have d1i : decide ((s.size : Int) - (a : Int) < (n : Int)) = false := decide_eq_false (by omega)
    have d1j : ¬ (s.size : Int) - (a : Int) < (n : Int) := by omega
    have HS : Hid (tkS s a n = s.extract a (a + n)) := hide (if_neg hk)
    have HA : Hid (tkA s a n = a + n) := hide (if_neg hk)
    have HH : Hid (tkH s a n sh = sh) := hide (if_neg hk)
    have e2 : wrap64 ((a : Int) + (n : Int)) = ((a + n : Nat) : Int) := by unfold wrap64; omega
    have e2' : IntKind.i64.wrap ((a : Int) + (n : Int)) = ((a + n : Nat) : Int) := by rw [IntKind.wrap_i64]; omega
    have e3 : wrap64 (((a + n : Nat) : Int) - (n : Int)) = (a : Int) := by unfold wrap64; omega
    have e3' : IntKind.i64.wrap (((a + n : Nat) : Int) - (n : Int)) = (a : Int) := by rw [IntKind.wrap_i64]; omega
    have g1 : (0 : Int) ≤ (a : Int) := by omega
    have g2 : (a : Int) ≤ ((a + n : Nat) : Int) := by omega
    have g3 : ((a + n : Nat) : Int) ≤ (s.size : Int) := by omega
    go_enter Try.func90, Try.ntmps90
    go_wp2
    go_quiet ((fail))
    go_wp2_with fail
    have hB := (Blk.drewN HT.out nq).set_ 1 (.int .i64 ((a : Int) + (n : Int)))
    have hG := grownBy_trans (grownBy_below (below_drewN (Below.refl _ _) nq) _) (grownBy_set (w.drewN nq) ⟨T, 1, none⟩ (.int .i64 ((a : Int) + (n : Int))))
    generalize hw2 : (w.drewN nq).setCell ⟨T, 1, none⟩ (.int .i64 ((a : Int) + (n : Int))) = w2 at *
    have b0 : w2.cell? ⟨T, 0, none⟩ = some (.string s) := hB.cell 0
    have b1 : w2.cell? ⟨T, 1, none⟩ = some (.int .i64 ((a : Int) + (n : Int))) := hB.cell 1
    have HB := hide hB
    clear hB c0 c1 c2 f1 f2 hw2
    go_quiet ((fail))
    go_wp2
    go_ret
    refine ⟨by rw [HS.out]; rfl, ?_, grownBy_trans hG (grownBy_below (below_drewN (Below.refl _ _) _) _)⟩
    rw [HA.out, HH.out]
    exact Blk.drewN HB.out _
end Go.Proofs.Ytjfmjeffmnjilaa
namespace Go.Proofs.Ytjfmjeffmnjilaa
open Go.RowKit Fl Mem
set_option linter.unusedVariables false
set_option maxRecDepth 100000

theorem or_add {q b i : Nat} (hq : q < 2 ^ i) (hb : b < 256) (hi : i ≤ 24) : bits .or .i64 (q : Int) ((b * 2 ^ i : Nat) : Int) = ((q + b * 2 ^ i : Nat) : Int) := by
  have h1 : b * 2 ^ i < 2 ^ 40 := by
    have h2 : 2 ^ i ≤ 2 ^ 24 := Nat.pow_le_pow_right (by decide) hi
    have h3 : b * 2 ^ i ≤ 255 * 2 ^ 24 := Nat.mul_le_mul (by omega) h2
    omega
  have h2 : q < 2 ^ 40 := Nat.lt_of_lt_of_le hq (Nat.pow_le_pow_right (by decide) (by omega))
  have h3 := (bits_nat .i64 40 (by decide) (fun n h0 h1 => by rw [IntKind.wrap_i64]; omega) q (b * 2 ^ i) h2 h1).2
  rw [h3]
  congr 1
  have h4 := Nat.shiftLeft_add_eq_or_of_lt hq b
  rw [Nat.shiftLeft_eq] at h4
  rw [Nat.or_comm, ← h4, Nat.add_comm]
theorem leN_step {L : List UInt8} {j : Nat} {b : UInt8} (h : L[j]? = some b) : leN (L.take (j + 1)) = leN (L.take j) + b.toNat * 256 ^ j := by
  have hj : j < L.length := (List.getElem?_eq_some_iff.1 h).1
  rw [take_eq h, leN_append, List.length_take, Nat.min_eq_left (by omega)]
theorem leN_take_lt (L : List UInt8) (j : Nat) : leN (L.take j) < 256 ^ j := by
  refine Nat.lt_of_lt_of_le (leN_lt _) (Nat.pow_le_pow_right (by decide) ?_)
  rw [List.length_take]
  omega
set_option maxHeartbeats 2000000 in
theorem number_calls {T a k : Nat} {s : ByteArray} {sh : Bool} {w : World} (hT : Blk w T 107 #[.string s, .int .i64 (a : Int), .bool sh]) (ha : a ≤ s.size) (hs : s.size ≤ 1048576) (hk : k ≤ 4) :
    Calls Try.prog 91 #[.pointer (some ⟨T, 0, none⟩), .int .i64 (k : Int)] w fun e w' => e = .returned (.int .i64 (leN (tkS s a k).data.toList : Int)) ∧ Blk w' T 107 #[.string s, .int .i64 (tkA s a k : Int), .bool (tkH s a k sh)] ∧ w.grownBy w' (some T) := by
  go_enter Try.func91, Try.ntmps91
  go_wp2_with fail
  refine (take_calls hT ha hs (by omega)).mono ?_
  rintro e w1 ⟨rfl, hB1, hG1⟩
  obtain ⟨cap, W2, hsb, hb2, hc2⟩ := bytes_of w1 (tkS s a k)
  have hlt := hB1.lt
  have HB := hide (hB1.below hb2 hlt)
  have HG := hide (grownBy_trans hG1 (grownBy_below hb2 _))
  have hsz := tkS_size s a k
  have hLl : (tkS s a k).data.toList.length = k := by rw [Array.length_toList]; exact hsz
  generalize hL : (tkS s a k).data.toList = L at *
  have HC := hide hc2
  have HL := hide hL
  clear hB1 hG1 hb2 hc2 hL hT
  rw [hsz] at hsb
  go_wp2
  go_loopw [5, 6, 7, 13] (fun s5 _ _ i wr => ∃ j q : Nat, j ≤ k ∧ i = .int .i64 j ∧ s5 = .int .i64 q ∧ Hid (q = leN (L.take j)) ∧ wr = W2) (fun _ _ _ i _ => k - (intOf i).toNat)
  case atStart => exact ⟨0, 0, Nat.zero_le _, rfl, rfl, hide rfl, rfl⟩
  case round =>
    obtain ⟨j, q, hj, rfl, rfl, hq, rfl⟩ := hrel
    by_cases hjk : j < k
    · obtain ⟨b9, hb9⟩ : ∃ b, L[j]? = some b := ⟨L[j]'(by omega), List.getElem?_eq_getElem _⟩
      have Hb := hide hb9
      have hc : wr.cell? ⟨w1.heap.size, j, none⟩ = some (.int .u8 (b9.toNat : Int)) := by
        have := HC.out j (.int .u8 (b9.toNat : Int)) (by rw [List.getElem?_map, hb9]; rfl)
        rwa [Addr.add_lit, Nat.zero_add] at this
      have jI : (j : Int) < (k : Int) := by omega
      have jI0 : (0 : Int) ≤ (j : Int) := by omega
      clear hb9
      have h4 : j = 0 ∨ j = 1 ∨ j = 2 ∨ j = 3 := by omega
      rcases h4 with rfl | rfl | rfl | rfl
      · have e1 := hide (leN_step Hb.out)
        have hq2 : q < 2 ^ 0 := by rw [hq.out]; exact leN_take_lt L _
        have hb9 : b9.toNat < 256 := UInt8.toNat_lt _
        have hor : bits .or .i64 (q : Int) ((b9.toNat : Int)) = (q : Int) + (b9.toNat : Int) := by
          have := or_add hq2 hb9 (show 0 ≤ 24 by omega)
          simpa using this
        go_wp2
        go_roundw
        case rel => exact ⟨0 + 1, q + b9.toNat * 256 ^ 0, by omega, by go_num, by go_num, hide (by rw [e1.out, hq.out]), trivial⟩
        case measure => (simp [intOf]; try omega)
      · have e1 := hide (leN_step Hb.out)
        have hq2 : q < 2 ^ 8 := by rw [hq.out]; exact leN_take_lt L _
        have hb9 : b9.toNat < 256 := UInt8.toNat_lt _
        have hor : bits .or .i64 (q : Int) ((b9.toNat : Int) * 256) = (q : Int) + (b9.toNat : Int) * 256 := by
          have := or_add hq2 hb9 (show 8 ≤ 24 by omega)
          simpa using this
        go_wp2
        go_roundw
        case rel => exact ⟨1 + 1, q + b9.toNat * 256 ^ 1, by omega, by go_num, by go_num, hide (by rw [e1.out, hq.out]), trivial⟩
        case measure => (simp [intOf]; try omega)
      · have e1 := hide (leN_step Hb.out)
        have hq2 : q < 2 ^ 16 := by rw [hq.out]; exact leN_take_lt L _
        have hb9 : b9.toNat < 256 := UInt8.toNat_lt _
        have hor : bits .or .i64 (q : Int) ((b9.toNat : Int) * 65536) = (q : Int) + (b9.toNat : Int) * 65536 := by
          have := or_add hq2 hb9 (show 16 ≤ 24 by omega)
          simpa using this
        go_wp2
        go_roundw
        case rel => exact ⟨2 + 1, q + b9.toNat * 256 ^ 2, by omega, by go_num, by go_num, hide (by rw [e1.out, hq.out]), trivial⟩
        case measure => (simp [intOf]; try omega)
      · have e1 := hide (leN_step Hb.out)
        have hq2 : q < 2 ^ 24 := by rw [hq.out]; exact leN_take_lt L _
        have hb9 : b9.toNat < 256 := UInt8.toNat_lt _
        have hor : bits .or .i64 (q : Int) ((b9.toNat : Int) * 16777216) = (q : Int) + (b9.toNat : Int) * 16777216 := by
          have := or_add hq2 hb9 (show 24 ≤ 24 by omega)
          simpa using this
        go_wp2
        go_roundw
        case rel => exact ⟨3 + 1, q + b9.toNat * 256 ^ 3, by omega, by go_num, by go_num, hide (by rw [e1.out, hq.out]), trivial⟩
        case measure => (simp [intOf]; try omega)
    · have jI : ¬ (j : Int) < (k : Int) := by omega
      obtain rfl : j = k := by omega
      have HF := hide (show q = leN L from by rw [hq.out, List.take_of_length_le (by omega)])
      go_wp2
      go_ret
      exact ⟨by rw [HL.out, ← HF.out]; rfl, HB.out, HG.out⟩
end Go.Proofs.Ytjfmjeffmnjilaa
namespace Go.Proofs.Ytjfmjeffmnjilaa
open Go.RowKit Fl Mem
set_option linter.unusedVariables false
set_option maxRecDepth 100000

section
variable {P : Program} {f : FuncId} {fn : Func}
theorem run_call_frombits32 (hf : P.funcs[f]? = some fn) (hname : (fn.name == "runtime.NumGoroutine") = false) (hb : fn.body.isNone = true) (hn : Extern.findNext fn = none) (he : Extern.find fn = some Extern.MathFloatBits.float32frombits) (y : Nat) (w : World) :
    (callFunc f #[.int .u32 (y : Int)]).run P w = .ok (.value (.float .f32 y)) w := by
  rw [run_callFunc_extern hf hname hb hn he]
  rfl
end
theorem s_l01From {m : Nat} {w : World} (hm : m < 4294967296) : Calls Try.prog 116 #[.int .i64 (m : Int)] w fun e w' => e = .returned (.float .f32 m) ∧ w = w' := by
  have hs := fun (y : Nat) (w : World) => run_call_frombits32 (P := Try.prog) (f := 114) Try.func114 (by kernel_rfl) (by kernel_rfl) (by kernel_rfl) (by rfl) y w
  have mI : (m : Int) < 4294967296 := by omega
  go_enter Try.func116, Try.ntmps116
  go_wp2
  go_ret
  exact ⟨rfl, rfl⟩
set_option maxHeartbeats 1000000 in
theorem i_FromBits {m : Nat} {w : World} (hm : m < 4294967296) : Calls Try.prog 92 #[.int .i64 (m : Int)] w fun e w' => e = .returned (.tuple #[.float .f32 m, .bool true]) ∧ w = w' := by
  have hs := fun (y : Nat) (w : World) => run_call_frombits32 (P := Try.prog) (f := 114) Try.func114 (by kernel_rfl) (by kernel_rfl) (by kernel_rfl) (by rfl) y w
  have hin : inB (m : Int) 0 4294967295 = true := inB_iff.2 ⟨by omega, by omega⟩
  have hmi : (m : Int) % 4294967296 = (m : Int) := by omega
  go_enter Try.func92, Try.ntmps92
  go_wp2_with (go_at_call 89; refine (calls_bool (i_within _ _ _ _) hin).mono ?_; rintro e w' ⟨rfl, rfl⟩)
  go_ret2
  exact ⟨rfl, rfl⟩
set_option maxHeartbeats 1000000 in
theorem s_FromBits {m : Nat} {w : World} (hm : m < 4294967296) : Calls Try.prog 96 #[.int .i64 (m : Int)] w fun e w' => e = .returned (.tuple #[.float .f32 m, .bool true]) ∧ w = w' := by
  have hin : inB (m : Int) 0 4294967295 = true := inB_iff.2 ⟨by omega, by omega⟩
  go_enter Try.func96, Try.ntmps96
  go_wp2_with (first | (go_at_call 99; refine (calls_bool (s_l00In _ _ _ _) hin).mono ?_; rintro e w' ⟨rfl, rfl⟩) | (go_at_call 116; refine (s_l01From hm).mono ?_; rintro e w' ⟨rfl, rfl⟩))
  go_ret2
  exact ⟨rfl, rfl⟩
end Go.Proofs.Ytjfmjeffmnjilaa
namespace Go.Proofs.Ytjfmjeffmnjilaa
open Go.RowKit Fl Mem
set_option linter.unusedVariables false
set_option maxRecDepth 100000

/-- The taker stands where it should, or it has marked that too little was left. -/
def St (l : List UInt8) (N off a : Nat) (sh : Bool) : Prop := a ≤ N ∧ ((sh = false ∧ a = off) ∨ (sh = true ∧ N < dE l))
theorem St.step {s : ByteArray} {l : List UInt8} {N off a n m : Nat} {sh : Bool} (hl : s.data.toList = l) (hN : s.size = N) (h : St l N off a sh) (hn : sh = false → n = m) (hE : sh = false → off + m ≤ dE l) :
    St l N (off + m) (tkA s a n) (tkH s a n sh) ∧ (tkH s a n sh = false → sh = false ∧ (tkS s a n).data.toList = (l.drop off).take m) := by
  obtain ⟨h1, h2⟩ := h
  by_cases hk : s.size < a + n
  · have e1 : tkA s a n = a := if_pos hk
    have e2 : tkH s a n sh = true := if_pos hk
    rw [e1, e2]
    refine ⟨⟨h1, .inr ⟨rfl, ?_⟩⟩, fun e => by cases e⟩
    rcases h2 with ⟨e, rfl⟩ | ⟨_, h2⟩
    · have := hn e; have := hE e; omega
    · exact h2
  · have e1 : tkA s a n = a + n := if_neg hk
    have e2 : tkH s a n sh = sh := if_neg hk
    rw [e1, e2]
    refine ⟨⟨by omega, ?_⟩, fun e => ⟨e, ?_⟩⟩
    · rcases h2 with ⟨e, rfl⟩ | h2
      · exact .inl ⟨e, by rw [hn e]⟩
      · exact .inr h2
    · rcases h2 with ⟨_, rfl⟩ | ⟨e', _⟩
      · rw [tkS_yes (by omega), hl, hn e]
      · rw [e] at e'; cases e'
theorem St.num {s : ByteArray} {l : List UInt8} {N off a m : Nat} {sh : Bool} (hl : s.data.toList = l) (hN : s.size = N) (h : St l N off a sh) (hE : sh = false → off + m ≤ dE l) :
    St l N (off + m) (tkA s a m) (tkH s a m sh) ∧ (tkH s a m sh = false → sh = false ∧ leN (tkS s a m).data.toList = rd l off m) := by
  obtain ⟨h1, h2⟩ := h.step hl hN (n := m) (fun _ => rfl) hE
  exact ⟨h1, fun e => ⟨(h2 e).1, by unfold rd; rw [(h2 e).2]⟩⟩
theorem tk_lt (s : ByteArray) (a k : Nat) : leN (tkS s a k).data.toList < 256 ^ k := by
  have := leN_lt (tkS s a k).data.toList
  rwa [show (tkS s a k).data.toList.length = k from by rw [Array.length_toList]; exact tkS_size s a k] at this
theorem begB_short {l : List UInt8} (h : l.length < dE l) : begB l = false := by
  unfold begB
  rw [decide_eq_false (by omega)]; rfl
theorem stBT_mark (q : ByteArray × Int × List Int × List Nat) : ∃ r, stBT q = ⟨([76, 73, 86, 49] ++ r).toArray⟩ := ⟨_, by
  unfold stBT stored stL st4 st3 st2 st1 st0
  simp only [List.append_assoc]
  rfl⟩
theorem begB_mark {l : List UInt8} (h : l.take 4 ≠ [76, 73, 86, 49]) : begB l = false := by
  cases hb : begB l with
  | false => rfl
  | true =>
    unfold begB at hb
    rw [Bool.and_eq_true, Bool.and_eq_true, decide_eq_true_iff, decide_eq_true_iff] at hb
    obtain ⟨r, hr⟩ := stBT_mark (dQ l)
    rw [hr] at hb
    have h1 := congrArg (fun x : ByteArray => x.data.toList) hb.2.2
    simp only at h1
    have h2 := congrArg (List.take 4) h1
    rw [List.take_take] at h2
    have h3 : min 4 (dE l) = 4 := by unfold dE dO; omega
    rw [h3] at h2
    exact absurd h2.symm h
theorem begB_end {l : List UInt8} (h : dE l ≤ l.length) : begB l = (svBT (dQ l) && decide (stBT (dQ l) = ⟨(l.take (dE l)).toArray⟩)) := by
  unfold begB
  rw [decide_eq_true h, Bool.true_and]
theorem rd_lt (l : List UInt8) (a k : Nat) : rd l a k < 256 ^ k := by
  unfold rd
  refine Nat.lt_of_lt_of_le (leN_lt _) (Nat.pow_le_pow_right (by decide) ?_)
  rw [List.length_take]
  omega
theorem step_append1c {P : Program} {ops : Array Oper} {o : Oper} {a : Act} {w0 w : World} {K : Act → World → Prop} {Q : Exit → Act → World → Prop} {E : Prop} (hg : o.guard = none) (s x : Operand) (t : TypeId)
    (hop : o.op = .call { callee := .builtin .append, args := #[s, x], argTypes := #[t, t] })
    (base : Nat) (e : TypeId) (z u1 : Value) (by_ : Nat) (hI : (P.info? e).map (fun i => (i.zero, i.size, i.bytes)) = some (some z, 1, by_)) (ht : P.underlying t = some (.slice e)) (hz : z.cells.size = 1)
    (hw : w = w0.alloc (.cells #[u1] e)) (v : Value) (n : Nat) (xs : List Value) (hs : a.eval s = v) (hown : w0.ownsRow base e 1 v n xs)
    (hx : a.eval x = .slice (some ⟨w0.heap.size, 0, none⟩) 1 1) (h1 : u1.oneCell' = true)
    (hn : n + 1 < 1099511627776) (hby : by_ ≤ 64) (hbase : base ≤ w0.heap.size)
    (hK : ∀ v' w', w'.ownsRow base e 1 v' (n + 1) (xs ++ [u1]) → Below base w0 w' → K (a.put o.dst v') w') :
    if Region.wanted o (yielded ops a.tmps) = true then Oper.wp P o a w K Q else E := by
  subst hw
  exact step_appendN hg s x t hop base e z by_ hI ht hz v n xs hs (hown.alloc _) ⟨w0.heap.size, 0, none⟩ 1 1 [u1] hx rfl (cell_one_new _ _ _) (fun u hu => by
    obtain rfl := List.mem_singleton.1 hu
    exact h1) hn hby (by rw [World.size_alloc]; omega) (fun v' w' k1 k2 => hK v' w' k1 (((Below.refl _ _).alloc hbase _).grown k2 (by rw [World.size_alloc]; omega) (fun g hgg => (hown.lt g hgg).1)))
theorem own_kept_T {w w' : World} {base T : Nat} {e : TypeId} {size n : Nat} {v : Value} {xs : List Value} (h : w.ownsRow base e size v n xs) (hg : w.grownBy w' (some T)) (hT : T < base) : w'.ownsRow base e size v n xs :=
  h.kept hg (by
    cases hv : v.ownBlock with
    | none => exact .inl rfl
    | some g => exact .inr (fun e => by injection e with e; have := (h.lt g hv).1; omega))
end Go.Proofs.Ytjfmjeffmnjilaa
