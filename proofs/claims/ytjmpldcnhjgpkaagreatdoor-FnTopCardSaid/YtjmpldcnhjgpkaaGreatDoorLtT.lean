/-
  Hexadecimal digits: the plain law. The fewest digits of a number, filled up with noughts, are its digits at a fixed width.
-/
import Derived.Test.YtjmpldcnhjgpkaaGreatDoorPlanT
import Derived.Test.YtjmpldcnhjgpkaaGreatDoorBrg
import Derived.Test.YtjmpldcnhjgpkaaGreatDoorProg
import Derived.Test.YtjmpldcnhjgpkaaGreatDoorLayIndexByte
import Derived.Test.YtjmpldcnhjgpkaaGreatDoorReadP
import Derived.Test.YtjmpldcnhjgpkaaGreatDoorVal
import Derived.Clock
import Derived.Lib.EndianBits
import Derived.Shelf.Lays
import Derived.Shelf.Strings.Repeat
import Derived.KernelRfl
import Derived.Shelf.Strings.OnBuilder
import Derived.Lib.Repeat
import Derived.Lib.Join
namespace Go.Proofs.YtjmpldcnhjgpkaaGreatDoor
open Go.RowKit Mem
set_option linter.unusedVariables false

def hexDig (d : Nat) : UInt8 := if d < 10 then UInt8.ofNat (48 + d) else UInt8.ofNat (87 + d)
def hexMin (n : Nat) : List UInt8 := if h : n < 16 then [hexDig n] else hexMin (n / 16) ++ [hexDig (n % 16)]
def hexPad : Nat → Nat → List UInt8
  | 0, _ => []
  | k + 1, n => hexPad k (n / 16) ++ [hexDig (n % 16)]

theorem hexMin_small {n : Nat} (h : n < 16) : hexMin n = [hexDig n] := by rw [hexMin, dif_pos h]
theorem hexMin_big {n : Nat} (h : ¬ n < 16) : hexMin n = hexMin (n / 16) ++ [hexDig (n % 16)] := by rw [hexMin, dif_neg h]
theorem hexPad_len : ∀ k n, (hexPad k n).length = k := by
  intro k
  induction k with
  | zero => intro n; rfl
  | succ k ih => intro n; simp [hexPad, ih]
theorem hexPad_zero : ∀ k, hexPad k 0 = List.replicate k 48 := by
  intro k
  induction k with
  | zero => rfl
  | succ k ih =>
    rw [hexPad, Nat.zero_div, ih, Nat.zero_mod, List.replicate_succ']
    rfl
theorem hexMin_pos (n : Nat) : 1 ≤ (hexMin n).length := by
  by_cases h : n < 16
  · rw [hexMin_small h]; simp
  · rw [hexMin_big h]; simp
theorem hexMin_len : ∀ k n, n < 16 ^ (k + 1) → (hexMin n).length ≤ k + 1 := by
  intro k
  induction k with
  | zero => intro n h; rw [hexMin_small (by simpa using h)]; simp
  | succ k ih =>
    intro n h
    by_cases h16 : n < 16
    · rw [hexMin_small h16]; simp
    · rw [hexMin_big h16]
      have := ih (n / 16) (by rw [Nat.pow_succ] at h; exact Nat.div_lt_of_lt_mul (by rw [Nat.mul_comm]; exact h))
      simp; omega
theorem hexMin_pad : ∀ k n, n < 16 ^ (k + 1) → List.replicate (k + 1 - (hexMin n).length) 48 ++ hexMin n = hexPad (k + 1) n := by
  intro k
  induction k with
  | zero =>
    intro n h
    have h16 : n < 16 := by simpa using h
    rw [hexMin_small h16]
    simp [hexPad, Nat.mod_eq_of_lt h16]
  | succ k ih =>
    intro n h
    have hd : n / 16 < 16 ^ (k + 1) := by rw [Nat.pow_succ] at h; exact Nat.div_lt_of_lt_mul (by rw [Nat.mul_comm]; exact h)
    by_cases h16 : n < 16
    · rw [hexMin_small h16, hexPad, Nat.div_eq_of_lt h16, hexPad_zero, Nat.mod_eq_of_lt h16]
      simp
    · rw [hexMin_big h16, hexPad, ← ih (n / 16) hd]
      have hl := hexMin_len k (n / 16) hd
      rw [List.length_append, List.length_singleton, show k + 1 + 1 - ((hexMin (n / 16)).length + 1) = k + 1 - (hexMin (n / 16)).length by omega, List.append_assoc]
/-- So many digits told, and what is left. -/
def HexAt (n : Nat) (L : List UInt8) (u : Nat) : Prop := hexMin n = hexMin u ++ L
theorem hexAt_start (n : Nat) : HexAt n [] n := by unfold HexAt; simp
theorem hexAt_step {n u : Nat} {L : List UInt8} (h : HexAt n L u) (hu : ¬ u < 16) : HexAt n (hexDig (u % 16) :: L) (u / 16) := by
  unfold HexAt at *
  rw [h, hexMin_big hu, List.append_assoc]; rfl
theorem hexAt_done {n u : Nat} {L : List UInt8} (h : HexAt n L u) (hu : u < 16) : hexMin n = hexDig u :: L := by
  unfold HexAt at h
  rw [h, hexMin_small hu]; rfl
theorem hexAt_len {n u : Nat} {L : List UInt8} (h : HexAt n L u) : L.length + 1 ≤ (hexMin n).length := by
  unfold HexAt at h
  rw [h, List.length_append]
  have := hexMin_pos u
  omega
theorem hexDig_byte : ∀ d : Nat, d < 16 → (hexDig d).toNat = if d < 10 then 48 + d else 87 + d := by decide
end Go.Proofs.YtjmpldcnhjgpkaaGreatDoor

/-
  strconv.FormatInt at base 16 of numbers below 2^32, and the texts of 32-bit numbers: both sides' digits.
-/
namespace Go.Proofs.YtjmpldcnhjgpkaaGreatDoor
open Go.RowKit Mem Fl
set_option linter.unusedVariables false
set_option maxRecDepth 100000

theorem zeros16 {w : World} (ht : w.cell? ⟨4, 15, none⟩ = some (.int .u8 4)) : Calls Tryz.prog 136 #[.int .u64 16] w fun e w' => e = .returned (.int .i64 4) ∧ w' = w := by
  have h15 : IntKind.u64.wrap (bits BinOp.and IntKind.u64 16 (IntKind.u64.wrap (-16)) * 285870213051353865) / 288230376151711744 = 15 := by kernel_rfl
  go_enter Tryz.func136, Tryz.ntmps136
  go_wp2
  go_ret
  exact ⟨rfl, rfl⟩
end Go.Proofs.YtjmpldcnhjgpkaaGreatDoor

/-
  strconv.formatBits at base 16: its loop.
-/
namespace Go.Proofs.YtjmpldcnhjgpkaaGreatDoor
open Go.RowKit Mem Fl
set_option linter.unusedVariables false
set_option maxRecDepth 100000

/-- The bytes at the end of a row. -/
def Tail8 (w : World) (g k : Nat) (L : List UInt8) : Prop := ∀ j (hj : j < L.length), w.cell? ⟨g, k + j, none⟩ = some (.int .u8 (L[j].toNat : Int))
theorem zeroCells65 : Tryz.zeroCells184 = Array.replicate 65 (.int .u8 0) := by kernel_rfl
theorem and15 (u : Nat) (h : u < 4294967296) : bits .and .u64 (u : Int) 15 = ((u % 16 : Nat) : Int) := by
  have := bits_mask .u64 64 (by decide) wraps_u64 4 (by decide) (u : Int) (by omega) (by omega)
  simpa using this
theorem dig36 : ∀ i : Fin 36, i.val < 16 → (⟨#[48, 49, 50, 51, 52, 53, 54, 55, 56, 57, 97, 98, 99, 100, 101, 102, 103, 104, 105, 106, 107, 108, 109, 110, 111, 112, 113, 114, 115, 116, 117, 118, 119, 120, 121, 122]⟩ : ByteArray)[i.val]'(i.isLt) = hexDig i.val := by decide +kernel
theorem dig36n (i : Nat) (h : i < (⟨#[48, 49, 50, 51, 52, 53, 54, 55, 56, 57, 97, 98, 99, 100, 101, 102, 103, 104, 105, 106, 107, 108, 109, 110, 111, 112, 113, 114, 115, 116, 117, 118, 119, 120, 121, 122]⟩ : ByteArray).size) (h16 : i < 16) : (((⟨#[48, 49, 50, 51, 52, 53, 54, 55, 56, 57, 97, 98, 99, 100, 101, 102, 103, 104, 105, 106, 107, 108, 109, 110, 111, 112, 113, 114, 115, 116, 117, 118, 119, 120, 121, 122]⟩ : ByteArray)[i]'h).toNat : Int) = ((hexDig i).toNat : Int) :=
  congrArg (fun b : UInt8 => (b.toNat : Int)) (dig36 ⟨i, h⟩ h16)
theorem tail8_set {w : World} {g k : Nat} {L : List UInt8} {b : UInt8} {c0 : Value} (hk : 1 ≤ k) (h0 : w.cell? ⟨g, k - 1, none⟩ = some c0) (h : Tail8 w g k L) : Tail8 (w.setCell ⟨g, k - 1, none⟩ (.int .u8 (b.toNat : Int))) g (k - 1) (b :: L) := by
  intro j hj
  cases j with
  | zero => exact World.cell?_setCell_same _ _ _ h0
  | succ j =>
    rw [World.cell?_setCell_other _ _ _ _ (by intro e; injection e; omega)]
    rw [show k - 1 + (j + 1) = k + j by omega]
    exact h j (by simpa using hj)
set_option maxHeartbeats 1000000 in
theorem formatBits16 {n : Nat} {w : World} (hn : n < 4294967296) (ht : w.cell? ⟨4, 15, none⟩ = some (.int .u8 4)) :
    Calls Tryz.prog 115 #[.slice none 0 0, .int .u64 n, .int .i64 16, .bool false, .bool false] w fun e w' => e = .returned (.tuple #[.slice none 0 0, .string ⟨(hexMin n).toArray⟩]) ∧ Below w.heap.size w w' := by
  go_enter Tryz.func115, Tryz.ntmps115
  have hlt := Go.Clock.block_lt ht
  have ht1 := fun (o : Obj) => (World.cell?_alloc_lt w o ⟨4, 15, none⟩ hlt).trans ht
  have hp : bits BinOp.and IntKind.i64 16 15 = 0 := by kernel_rfl
  go_wp2_with (first | (go_at_call 135; go_in) | (go_at_call 136; refine (zeros16 (ht1 _)).mono ?_; rintro e w' ⟨rfl, rfl⟩))
  clear ht1 hp ht hlt
  go_loopw [1, 13] (fun u i wr => ∃ (uu k : Nat) (L : List UInt8), u = .int .u64 uu ∧ i = .int .i64 k ∧ k + L.length = 65 ∧ L.length ≤ 7 ∧ uu ≤ n ∧ Hid (HexAt n L uu) ∧ Hid (Tail8 wr w.heap.size k L) ∧ (∃ cs, Blk wr w.heap.size 184 cs ∧ cs.size = 65) ∧ Below w.heap.size w wr) (fun u _ _ => (intOf u).toNat)
  case atStart =>
    exact ⟨n, 65, [], rfl, rfl, rfl, by simp, Nat.le_refl _, hide (hexAt_start n), hide (fun j hj => by simp at hj), ⟨_, Blk.new _ _ _, by rw [zeroCells65]; simp⟩, (Below.refl _ _).alloc (Nat.le_refl _) _⟩
  case round =>
    obtain ⟨uu, k, L, rfl, rfl, hk, hl7, hun, hat, htl, ⟨cs, hblk, hcs⟩, hbel⟩ := hrel
    have hand := and15 uu (by omega)
    have hfz := hblk.frozen (k - 1)
    obtain ⟨c0, hc0⟩ : ∃ c0, wr.cell? ⟨w.heap.size, k - 1, none⟩ = some c0 := by rw [hblk.cell]; exact ⟨_, Array.getElem?_eq_getElem (by omega)⟩
    by_cases hu : uu < 16
    · have hdg := dig36n uu (Nat.lt_trans hu (by decide)) hu
      have hn0 := hide (hexAt_done hat.out hu)
      have hal : Tryz.prog.arrayLen 184 = 65 := by kernel_rfl
      have hsl : ∀ W, (Instr.sliceAt 184 (.pointer (some ⟨w.heap.size, 0, none⟩)) (some (.int .i64 ((k : Int) - 1))) none none).run Tryz.prog W = .ok (.slice (some ⟨w.heap.size, k - 1, none⟩) (66 - k) (66 - k)) W := fun W => by
        rw [run_sliceAt_array_l W 184 ⟨w.heap.size, 0, none⟩ (by simp [Program.arrayLen, Program.elem, Tryz.underlying184]) .i64 ((k : Int) - 1) (by omega) (by rw [hal]; omega), hal]
        go_simp
        omega
      have hcv := run_convert_bytes_back (P := Tryz.prog) (wr.setCell ⟨w.heap.size, k - 1, none⟩ (.int .u8 ((hexDig uu).toNat : Int))) 22 9 5 ⟨w.heap.size, k - 1, none⟩ (66 - k) (hexDig uu :: L) Tryz.underlying22 Tryz.underlying5 Tryz.underlying9 (fun j hj => by
        rw [show (⟨w.heap.size, k - 1, none⟩ : Addr).add j = ⟨w.heap.size, k - 1 + j, none⟩ by by_cases h0 : j = 0 <;> simp [Addr.add, h0]]
        exact tail8_set (by omega) hc0 htl.out j hj)
      rw [show (hexDig uu :: L).length = 66 - k by simp; omega] at hcv
      go_wp2
      go_ret2
      exact ⟨congrArg (fun l : List UInt8 => Ending.returned (.tuple #[.slice none 0 0, .string ⟨l.toArray⟩])) hn0.out.symm, hbel.setCell (Nat.le_refl _) _⟩
    · have hdg := dig36n (uu % 16) (Nat.lt_trans (Nat.mod_lt _ (by omega)) (by decide)) (Nat.mod_lt _ (by omega))
      have hst := hide (hexAt_step hat.out hu)
      have hlen := hexAt_len hst.out
      have hle8 := hexMin_len 7 n (by omega)
      simp only [List.length_cons] at hlen
      go_wp2
      refine ⟨⟨uu / 16, k - 1, hexDig (uu % 16) :: L, by go_num, by go_num, by simp; omega, by simp; omega, Nat.le_trans (Nat.div_le_self _ _) hun, hst, hide (tail8_set (by omega) hc0 htl.out), ⟨_, hblk.set_ _ _, by simpa using hcs⟩, hbel.setCell (Nat.le_refl _) _⟩, by simp [intOf]; omega⟩
end Go.Proofs.YtjmpldcnhjgpkaaGreatDoor

/-
  The reference's hexadecimal digits of a number.
-/
namespace Go.Proofs.YtjmpldcnhjgpkaaGreatDoor
open Go.RowKit Mem Fl
set_option linter.unusedVariables false
set_option maxRecDepth 100000

theorem dig16 : ∀ i : Fin 16, (⟨#[48, 49, 50, 51, 52, 53, 54, 55, 56, 57, 97, 98, 99, 100, 101, 102]⟩ : ByteArray)[i.val]'(i.isLt) = hexDig i.val := by decide +kernel
theorem dig16n (i : Nat) (h : i < (⟨#[48, 49, 50, 51, 52, 53, 54, 55, 56, 57, 97, 98, 99, 100, 101, 102]⟩ : ByteArray).size) : (((⟨#[48, 49, 50, 51, 52, 53, 54, 55, 56, 57, 97, 98, 99, 100, 101, 102]⟩ : ByteArray)[i]'h).toNat : Int) = ((hexDig i).toNat : Int) :=
  congrArg (fun b : UInt8 => (b.toNat : Int)) (dig16 ⟨i, h⟩)
theorem dig16k {k : Int} {i : Nat} (e : k.toNat = i) (h : k.toNat < (⟨#[48, 49, 50, 51, 52, 53, 54, 55, 56, 57, 97, 98, 99, 100, 101, 102]⟩ : ByteArray).size) : (((⟨#[48, 49, 50, 51, 52, 53, 54, 55, 56, 57, 97, 98, 99, 100, 101, 102]⟩ : ByteArray)[k.toNat]'h).toNat : Int) = ((hexDig i).toNat : Int) := by
  subst e; exact dig16n _ h
theorem and15i (x : Nat) (h : x < 4294967296) : bits .and .i64 (x : Int) 15 = ((x % 16 : Nat) : Int) := by
  have h15 : (BitVec.ofInt 64 15).toNat = 2 ^ 4 - 1 := by decide
  have key : (BitVec.ofInt 64 (x : Int) &&& BitVec.ofInt 64 15).toNat = ((x : Int) % ((2 ^ 64 : Nat) : Int)).toNat % 2 ^ 4 := by
    rw [BitVec.toNat_and, BitVec.toNat_ofInt, h15, Nat.and_two_pow_sub_one_eq_mod]
  show IntKind.i64.wrap ((BitVec.ofInt 64 (x : Int) &&& BitVec.ofInt 64 15).toNat : Nat) = _
  rw [key, IntKind.wrap_i64]
  omega
theorem hexPad_step (n j kk : Nat) (h : kk + 4 * j = 28) : hexPad (j + 1) (n / 2 ^ kk) = hexPad j (n / 2 ^ (kk + 4)) ++ [hexDig (n / 2 ^ kk % 16)] := by
  rw [hexPad, Nat.div_div_eq_div_mul, show 2 ^ kk * 16 = 2 ^ (kk + 4) by rw [Nat.pow_add]]
theorem cn_lt {a : Nat} (wa : Wf .f32 a) : cn .f32 a < 4294967296 := by
  have h : a < 4294967296 := by
    unfold Wf at wa
    rwa [show 2 ^ FloatKind.f32.format.width = 4294967296 by decide +kernel] at wa
  unfold cn
  split
  · decide
  · exact h
end Go.Proofs.YtjmpldcnhjgpkaaGreatDoor

/-
  A structure of the shelf, laid at this program: Lays.n105.
-/
namespace Go.Proofs.YtjmpldcnhjgpkaaGreatDoor
open Go Go.Proofs Go.Shelf
set_option maxRecDepth 100000

def renRepeat : Go.Shelf.Ren :=
{
  f := fun x ↦
    match x with
    | 105 => 75
    | 212 => 89
    | 99 => 109
    | 165 => 110
    | 166 => 39
    | 170 => 111
    | 169 => 41
    | 263 => 123
    | 264 => 124
    | 206 => 130
    | 240 => 80
    | 241 => 131
    | 276 => 120
    | 277 => 166
    | n => n,
  t := fun x ↦
    match x with
    | 9 => 9
    | 3 => 3
    | 4 => 4
    | 20 => 20
    | 0 => 0
    | 46 => 139
    | 109 => 140
    | 5 => 5
    | 72 => 82
    | 76 => 87
    | 51 => 154
    | 146 => 174
    | 53 => 115
    | 148 => 176
    | 70 => 80
    | 37 => 22
    | 75 => 86
    | 127 => 133
    | 164 => 170
    | 80 => 90
    | n => n,
  g := fun x ↦
    have n := x;
    n }
theorem laysRepeat : Go.Proofs.Lays.n105 Tryz.prog renRepeat :=
{ mixed := Eq.refl Bool.true,
  f99 :=
    Eq.trans Tryz.func109 (congrArg Option.some (Eq.refl (Go.Proofs.Body.n99 renRepeat))),
  f105 :=
    Eq.trans Tryz.func75 (congrArg Option.some (Eq.refl (Go.Proofs.Body.n105 renRepeat))),
  f165 :=
    Eq.trans Tryz.func110
      (congrArg Option.some (Eq.refl (Go.Proofs.Body.n165 renRepeat))),
  f166 :=
    Eq.trans Tryz.func39 (congrArg Option.some (Eq.refl (Go.Proofs.Body.n166 renRepeat))),
  f169 :=
    Eq.trans Tryz.func41 (congrArg Option.some (Eq.refl (Go.Proofs.Body.n169 renRepeat))),
  f170 :=
    Eq.trans Tryz.func111
      (congrArg Option.some (Eq.refl (Go.Proofs.Body.n170 renRepeat))),
  f206 :=
    Eq.trans Tryz.func130
      (congrArg Option.some (Eq.refl (Go.Proofs.Body.n206 renRepeat))),
  f212 :=
    Eq.trans Tryz.func89 (congrArg Option.some (Eq.refl (Go.Proofs.Body.n212 renRepeat))),
  f240 :=
    Eq.trans Tryz.func80 (congrArg Option.some (Eq.refl (Go.Proofs.Body.n240 renRepeat))),
  f241 :=
    Eq.trans Tryz.func131
      (congrArg Option.some (Eq.refl (Go.Proofs.Body.n241 renRepeat))),
  f263 :=
    Eq.trans Tryz.func123
      (congrArg Option.some (Eq.refl (Go.Proofs.Body.n263 renRepeat))),
  f264 :=
    Eq.trans Tryz.func124
      (congrArg Option.some (Eq.refl (Go.Proofs.Body.n264 renRepeat))),
  f276 :=
    Eq.trans Tryz.func120
      (congrArg Option.some (Eq.refl (Go.Proofs.Body.n276 renRepeat))),
  f277 :=
    Eq.trans Tryz.func166
      (congrArg Option.some (Eq.refl (Go.Proofs.Body.n277 renRepeat))),
  t0 := Tryz.underlying0, a0 := Tryz.isAgg0, z0 := Tryz.sizeOf0,
  v0 := Tryz.zeroValue0, t3 := Tryz.underlying3, a3 := Tryz.isAgg3,
  z3 := Tryz.sizeOf3, v3 := Tryz.zeroValue3, t4 := Tryz.underlying4,
  a4 := Tryz.isAgg4, z4 := Tryz.sizeOf4, v4 := Tryz.zeroValue4,
  t5 := Tryz.underlying5, a5 := Tryz.isAgg5, z5 := Tryz.sizeOf5,
  v5 := Tryz.zeroValue5, t9 := Tryz.underlying9, a9 := Tryz.isAgg9,
  z9 := Tryz.sizeOf9, v9 := Tryz.zeroValue9, t20 := Tryz.underlying20,
  a20 := Tryz.isAgg20, z20 := Tryz.sizeOf20, v20 := Tryz.zeroValue20,
  t37 := Tryz.underlying22, a37 := Tryz.isAgg22, z37 := Tryz.sizeOf22,
  v37 := Tryz.zeroValue22, t46 := Tryz.underlying139, a46 := Tryz.isAgg139,
  z46 := Tryz.sizeOf139, v46 := Tryz.zeroValue139, t51 := Tryz.underlying154,
  a51 := Tryz.isAgg154, z51 := Tryz.sizeOf154, v51 := Tryz.zeroValue154,
  t53 := Tryz.underlying115, a53 := Tryz.isAgg115, z53 := Tryz.sizeOf115,
  v53 := Tryz.zeroValue115, t70 := Tryz.underlying80, a70 := Tryz.isAgg80,
  z70 := Tryz.sizeOf80, v70 := Tryz.zeroValue80, t72 := Tryz.underlying82,
  a72 := Tryz.isAgg82, z72 := Tryz.sizeOf82, v72 := Tryz.zeroValue82,
  t75 := Tryz.underlying86, a75 := Tryz.isAgg86, z75 := Tryz.sizeOf86,
  v75 := Tryz.zeroValue86, t76 := Tryz.underlying87, a76 := Tryz.isAgg87,
  z76 := Tryz.sizeOf87, v76 := Tryz.zeroValue87, t109 := Tryz.underlying140,
  a109 := Tryz.isAgg140, z109 := Tryz.sizeOf140, v109 := Tryz.zeroValue140,
  t127 := Tryz.underlying133, a127 := Tryz.isAgg133, z127 := Tryz.sizeOf133,
  v127 := Tryz.zeroValue133, t146 := Tryz.underlying174, a146 := Tryz.isAgg174,
  z146 := Tryz.sizeOf174, v146 := Tryz.zeroValue174, t148 := Tryz.underlying176,
  a148 := Tryz.isAgg176, z148 := Tryz.sizeOf176, v148 := Tryz.zeroValue176,
  t164 := Tryz.underlying170, a164 := Tryz.isAgg170, z164 := Tryz.sizeOf170,
  v164 := Tryz.zeroValue170 }
end Go.Proofs.YtjmpldcnhjgpkaaGreatDoor

/-
  A structure of the shelf, laid at this program: Lays.n156.
-/
namespace Go.Proofs.YtjmpldcnhjgpkaaGreatDoor
open Go Go.Proofs Go.Shelf
set_option maxRecDepth 100000

def renJoin : Go.Shelf.Ren :=
{
  f := fun x ↦
    match x with
    | 156 => 76
    | 165 => 110
    | 166 => 39
    | 169 => 41
    | 240 => 80
    | 241 => 131
    | 276 => 120
    | 277 => 166
    | n => n,
  t := fun x ↦
    match x with
    | 31 => 74
    | 9 => 9
    | 3 => 3
    | 4 => 4
    | 0 => 0
    | 20 => 20
    | 72 => 82
    | 76 => 87
    | 70 => 80
    | 37 => 22
    | 75 => 86
    | 127 => 133
    | 164 => 170
    | 5 => 5
    | 80 => 90
    | n => n,
  g := fun x ↦
    have n := x;
    n }
theorem laysJoin : Go.Proofs.Lays.n156 Tryz.prog renJoin :=
{ mixed := Eq.refl Bool.true,
  f156 :=
    Eq.trans Tryz.func76 (congrArg Option.some (Eq.refl (Go.Proofs.Body.n156 renJoin))),
  f165 :=
    Eq.trans Tryz.func110 (congrArg Option.some (Eq.refl (Go.Proofs.Body.n165 renJoin))),
  f166 :=
    Eq.trans Tryz.func39 (congrArg Option.some (Eq.refl (Go.Proofs.Body.n166 renJoin))),
  f169 :=
    Eq.trans Tryz.func41 (congrArg Option.some (Eq.refl (Go.Proofs.Body.n169 renJoin))),
  f240 :=
    Eq.trans Tryz.func80 (congrArg Option.some (Eq.refl (Go.Proofs.Body.n240 renJoin))),
  f241 :=
    Eq.trans Tryz.func131 (congrArg Option.some (Eq.refl (Go.Proofs.Body.n241 renJoin))),
  f276 :=
    Eq.trans Tryz.func120 (congrArg Option.some (Eq.refl (Go.Proofs.Body.n276 renJoin))),
  f277 :=
    Eq.trans Tryz.func166 (congrArg Option.some (Eq.refl (Go.Proofs.Body.n277 renJoin))),
  t0 := Tryz.underlying0, a0 := Tryz.isAgg0, z0 := Tryz.sizeOf0,
  v0 := Tryz.zeroValue0, t3 := Tryz.underlying3, a3 := Tryz.isAgg3,
  z3 := Tryz.sizeOf3, v3 := Tryz.zeroValue3, t4 := Tryz.underlying4,
  a4 := Tryz.isAgg4, z4 := Tryz.sizeOf4, v4 := Tryz.zeroValue4,
  t9 := Tryz.underlying9, a9 := Tryz.isAgg9, z9 := Tryz.sizeOf9,
  v9 := Tryz.zeroValue9, t20 := Tryz.underlying20, a20 := Tryz.isAgg20,
  z20 := Tryz.sizeOf20, v20 := Tryz.zeroValue20, t31 := Tryz.underlying74,
  a31 := Tryz.isAgg74, z31 := Tryz.sizeOf74, v31 := Tryz.zeroValue74,
  t37 := Tryz.underlying22, a37 := Tryz.isAgg22, z37 := Tryz.sizeOf22,
  v37 := Tryz.zeroValue22, t70 := Tryz.underlying80, a70 := Tryz.isAgg80,
  z70 := Tryz.sizeOf80, v70 := Tryz.zeroValue80, t72 := Tryz.underlying82,
  a72 := Tryz.isAgg82, z72 := Tryz.sizeOf82, v72 := Tryz.zeroValue82,
  t75 := Tryz.underlying86, a75 := Tryz.isAgg86, z75 := Tryz.sizeOf86,
  v75 := Tryz.zeroValue86, t76 := Tryz.underlying87, a76 := Tryz.isAgg87,
  z76 := Tryz.sizeOf87, v76 := Tryz.zeroValue87, t127 := Tryz.underlying133,
  a127 := Tryz.isAgg133, z127 := Tryz.sizeOf133, v127 := Tryz.zeroValue133,
  t164 := Tryz.underlying170, a164 := Tryz.isAgg170, z164 := Tryz.sizeOf170,
  v164 := Tryz.zeroValue170 }
end Go.Proofs.YtjmpldcnhjgpkaaGreatDoor

/-
  The program's text of a 32-bit number: 8 hexadecimal digits.
-/
namespace Go.Proofs.YtjmpldcnhjgpkaaGreatDoor
open Go.RowKit Mem Fl Go.Shelf
set_option linter.unusedVariables false
set_option maxRecDepth 100000

theorem extraRepeat : Builder.Extra Tryz.prog renRepeat where
  sizeBuilder := by kernel_rfl
  liesBuilder := by kernel_rfl
  t5 := Tryz.underlying5
  a5 := Tryz.isAgg5
  z5 := Tryz.sizeOf5
  v5 := Tryz.zeroValue5
  infoByte := by kernel_rfl
  cellsByte := by kernel_rfl
  sizeByte := by kernel_rfl
  neB5 := by decide
theorem extraJoin : Builder.Extra Tryz.prog renJoin where
  sizeBuilder := by kernel_rfl
  liesBuilder := by kernel_rfl
  t5 := Tryz.underlying5
  a5 := Tryz.isAgg5
  z5 := Tryz.sizeOf5
  v5 := Tryz.zeroValue5
  infoByte := by kernel_rfl
  cellsByte := by kernel_rfl
  sizeByte := by kernel_rfl
  neB5 := by decide

def zerosB (c : Nat) : ByteArray := ⟨(List.replicate c 48).toArray⟩
def hexMinB (n : Nat) : ByteArray := ⟨(hexMin n).toArray⟩
theorem zerosB_size (c : Nat) : (zerosB c).size = c := by show (List.replicate c (48 : UInt8)).toArray.size = c; simp
theorem hexMinB_size (n : Nat) : (hexMinB n).size = (hexMin n).length := by show (hexMin n).toArray.size = _; simp
theorem repeat0 {x : Int} {c : Nat} (w : World) (hx : x = (c : Int)) (hc : c ≤ 8) :
    Calls Tryz.prog 75 #[.string ⟨#[48]⟩, .int .i64 x] w fun e w' => e = .returned (.string (zerosB c)) ∧ Below w.heap.size w w' := by
  subst hx
  refine (Any.strings_Repeat laysRepeat extraRepeat ⟨#[48]⟩ c w (by omega) (by have : ByteArray.size ⟨#[48]⟩ = 1 := rfl; rw [this]; omega)).mono ?_
  rintro e w' ⟨rfl, h⟩
  refine ⟨?_, h⟩
  have := Lib.repeatL_replicate 48 1 c
  simp only [Nat.mul_one] at this
  unfold zerosB; rw [← this]; rfl
theorem join_calls (g c : Nat) (xs : List ByteArray) (w : World) (hcells : ∀ (j : Nat) x, xs[j]? = some x → w.cell? ⟨g, j, none⟩ = some (.string x))
    (hg : g < w.heap.size) (hcap : xs.length ≤ c) (hlen : (Lib.join (xs.map (·.data.toList)) [44]).length ≤ 140737488355328) (hN : xs.length ≤ 140737488355328) :
    Calls Tryz.prog 76 #[.slice (some ⟨g, 0, none⟩) xs.length c, .string ⟨#[44]⟩] w fun e w' => e = .returned (.string ⟨(Lib.join (xs.map (·.data.toList)) [44]).toArray⟩) ∧ Below w.heap.size w w' :=
  Any.strings_Join laysJoin extraJoin g 0 c xs ⟨#[44]⟩ w (fun j x h => by rw [Nat.zero_add]; exact hcells j x h) hg hN hcap hlen

theorem i_BitsOf {a : Nat} {w : World} (wa : Wf .f32 a) : Calls Tryz.prog 74 #[.float .f32 a] w fun e w' => e = .returned (.int .i64 (cn .f32 a : Int)) ∧ w = w' := by
  have hlt : a < 4294967296 := by
    unfold Wf at wa
    have hw : 2 ^ FloatKind.f32.format.width = 4294967296 := by decide +kernel
    rw [hw] at wa; exact wa
  have hs := fun (y : Nat) (w : World) => run_call_bits32 (P := Tryz.prog) (f := 108) Tryz.func108 (by kernel_rfl) (by kernel_rfl) (by kernel_rfl) (by rfl) y w
  have hnn := nan_iff a
  cases ha : isNan .f32 a with
  | true =>
    rw [ha] at hnn
    have Ha := hide ha
    clear ha
    go_enter Tryz.func74, Tryz.ntmps74
    go_wp2
    go_ret
    exact ⟨ret_int (by rw [cn_nan Ha.out]; rfl), rfl⟩
  | false =>
    rw [ha] at hnn
    have Ha := hide ha
    clear ha
    go_enter Tryz.func74, Tryz.ntmps74
    go_wp2
    go_ret
    exact ⟨ret_int (by rw [cn_num Ha.out]), rfl⟩
theorem formatInt16 {n : Nat} {w : World} (hn : n < 4294967296) (ht : w.cell? ⟨4, 15, none⟩ = some (.int .u8 4)) :
    Calls Tryz.prog 36 #[.int .i64 n, .int .i64 16] w fun e w' => e = .returned (.string (hexMinB n)) ∧ Below w.heap.size w w' := by
  go_enter Tryz.func36, Tryz.ntmps36
  go_wp2_with (first | (go_at_call 77; go_in) | (go_at_call 115; refine (formatBits16 hn ht).mono ?_; rintro e w' ⟨rfl, hb⟩))
  go_ret
  exact ⟨rfl, hb⟩
/-- The text of a number. -/
def hexB (n : Nat) : ByteArray := ⟨(hexPad 8 n).toArray⟩
theorem hexB_size (n : Nat) : (hexB n).size = 8 := by show (hexPad 8 n).toArray.size = 8; rw [List.size_toArray, hexPad_len]
theorem i_hexOf {a : Nat} {w : World} (wa : Wf .f32 a) (ht : w.cell? ⟨4, 15, none⟩ = some (.int .u8 4)) :
    Calls Tryz.prog 34 #[.float .f32 a] w fun e w' => e = .returned (.string (hexB (cn .f32 a))) ∧ Below w.heap.size w w' := by
  have hlt := cn_lt wa
  have hp := hexMin_pad 7 (cn .f32 a) (by omega)
  have hl := hexMin_len 7 (cn .f32 a) (by omega)
  obtain ⟨c, hc⟩ : ∃ c, c + (hexMin (cn .f32 a)).length = 8 := ⟨8 - (hexMin (cn .f32 a)).length, by omega⟩
  rw [show 7 + 1 - (hexMin (cn .f32 a)).length = c by omega] at hp
  have hs1 := fun w => run_string_add_sum (P := Tryz.prog) w (zerosB c) (hexMinB (cn .f32 a)) (by rw [zerosB_size, hexMinB_size]; omega)
  have hz : ((hexMinB (cn .f32 a)).size : Int) = ((hexMin (cn .f32 a)).length : Int) := by rw [hexMinB_size]
  have HP : Hid (zerosB c ++ hexMinB (cn .f32 a) = hexB (cn .f32 a)) := hide (by
    apply ba_ext
    unfold hexB zerosB hexMinB
    rw [← hp]
    simp)
  clear hp
  go_enter Tryz.func34, Tryz.ntmps34
  go_wp2_with fail
  refine (i_BitsOf wa).mono ?_
  rintro e w' ⟨rfl, rfl⟩
  go_wp2_with fail
  refine (formatInt16 hlt ht).mono ?_
  rintro e w1 ⟨rfl, hb⟩
  go_wp2_with fail
  refine (repeat0 (c := c) _ (by omega) (by omega)).mono ?_
  rintro e w2 ⟨rfl, hb2⟩
  go_wp2
  go_ret
  exact ⟨by rw [HP.out]; rfl, hb.trans (hb2.mono hb.size)⟩
end Go.Proofs.YtjmpldcnhjgpkaaGreatDoor

/-
  The texts of lists of 32-bit numbers: both sides.
-/
namespace Go.Proofs.YtjmpldcnhjgpkaaGreatDoor
open Go.RowKit Mem Fl Go.Shelf
set_option linter.unusedVariables false
set_option maxRecDepth 100000

/-- Texts with commas between them, 'none' if there are none. -/
def joinedB (L : List ByteArray) : ByteArray := if L.isEmpty then ⟨#[110, 111, 110, 101]⟩ else ⟨(Lib.join (L.map (·.data.toList)) [44]).toArray⟩
theorem i_joined {L : List ByteArray} {v : Value} {base n : Nat} {w : World} (hown : w.ownsRow base 9 1 v n (L.map Value.string)) (hlen : (Lib.join (L.map (·.data.toList)) [44]).length ≤ 140737488355328) (hn : n ≤ 100000) :
    Calls Tryz.prog 35 #[v] w fun e w' => e = .returned (.string (joinedB L)) ∧ Below w.heap.size w w' := by
  have hl : L.length = n := by have := hown.1; simpa using this
  cases L with
  | nil =>
    obtain rfl : n = 0 := by simpa using hl.symm
    obtain ⟨A, c, rfl⟩ := own_shape hown
    clear hown hl hlen
    go_enter Tryz.func35, Tryz.ntmps35
    go_wp2_with fail
    go_ret
    exact ⟨rfl, Below.refl _ _⟩
  | cons x L =>
    obtain ⟨g, cap, rfl, hg, hgl, hcap, hcell⟩ := row_of_own (by simp at hl; omega) hown
    have hj := join_calls g cap (x :: L) w (fun j y hy => hcell j _ (by rw [List.getElem?_map, hy]; rfl)) hgl (by omega) hlen (by omega)
    rw [hl] at hj
    have hn0 : ¬ (n : Int) = 0 := by simp at hl; omega
    clear hown hcell
    go_enter Tryz.func35, Tryz.ntmps35
    go_wp2_with fail
    refine hj.mono ?_
    rintro e w1 ⟨rfl, hb⟩
    go_wp2
    go_ret
    exact ⟨rfl, hb⟩
def tx (xs : List Nat) : List ByteArray := xs.map fun x => hexB (cn .f32 x)
theorem tx_len (xs : List Nat) : (tx xs).length = xs.length := by simp [tx]
theorem lens_tx (xs : List Nat) : Lib.lens ((tx xs).map (·.data.toList)) = 8 * xs.length := by
  induction xs with
  | nil => rfl
  | cons x xs ih =>
    simp only [tx, List.map_cons, Lib.lens, List.length_cons] at ih ⊢
    rw [List.sum_cons, ih]
    have : (hexB (cn .f32 x)).data.toList.length = 8 := by rw [Array.length_toList]; exact hexB_size _
    omega
theorem join_tx (xs : List Nat) : (Lib.join ((tx xs).map (·.data.toList)) [44]).length ≤ 9 * xs.length := by
  cases xs with
  | nil => simp [tx, Lib.join_nil]
  | cons x xs =>
    have h1 := lens_tx (x :: xs)
    have h2 := Lib.join_length (hexB (cn .f32 x)).data.toList ((tx xs).map (·.data.toList)) [44]
    have h3 : (tx (x :: xs)).map (·.data.toList) = (hexB (cn .f32 x)).data.toList :: (tx xs).map (·.data.toList) := rfl
    rw [h3] at h1 ⊢
    rw [h2, h1]
    simp [tx_len]
    omega
theorem take_tx {xs : List Nat} {k x : Nat} (h : xs[k]? = some x) : tx (xs.take (k + 1)) = tx (xs.take k) ++ [hexB (cn .f32 x)] := by
  rw [take_eq h]; simp [tx]
set_option maxHeartbeats 1000000 in
theorem i_NumbersText {A : Option Addr} {n c : Nat} {xs : List Nat} {w : World} (h : Reads w w.heap.size 1 A n (fl .f32 xs)) (wx : ∀ x ∈ xs, Wf .f32 x) (hn : n ≤ 256) (ht : w.cell? ⟨4, 15, none⟩ = some (.int .u8 4)) :
    Calls Tryz.prog 11 #[.slice A n c] w fun e w' => e = .returned (.tuple #[.string (joinedB (tx xs)), .bool true]) ∧ Below w.heap.size w w' := by
  have Hl := hide h.map_len
  have hlt := Go.Clock.block_lt ht
  go_enter Tryz.func11, Tryz.ntmps11
  go_wp2
  go_loopw [4, 13] (fun v i wr => ∃ k : Nat, k ≤ n ∧ i = .int .i64 k ∧ Hid (wr.ownsRow w.heap.size 9 1 v k ((tx (xs.take k)).map .string)) ∧ Below w.heap.size w wr) (fun _ i _ => n - (intOf i).toNat)
  case atStart => exact ⟨0, Nat.zero_le _, rfl, hide (World.ownsRow_made _ _ _ (Nat.le_refl _) (by simp [maxLen]) (by simp)), (Below.refl _ _).alloc (Nat.le_refl _) _⟩
  case round =>
    obtain ⟨k, hk, rfl, hown, hbel⟩ := hrel
    by_cases hk2 : k < n
    · obtain ⟨ad, x, rfl, _, hx, hc⟩ := (h.below hbel).map_at hk2
      have wfx := wx x (List.mem_of_getElem? hx)
      have HT := hide (take_tx hx)
      have ht1 := (hbel.cell (p := ⟨4, 15, none⟩) hlt).trans ht
      have hkI : (k : Int) < (n : Int) := by omega
      go_wp2_with fail
      refine (i_hexOf wfx ht1).mono ?_
      rintro e w1 ⟨rfl, hb1⟩
      have hown1 := hide (own_below hown.out hb1)
      have hbel1 := hbel.trans (hb1.mono hbel.size)
      clear ht1 hc hx hown
      go_wp2_with (at_builtin; refine wpList_append1 rfl (.tmp 17) (.tmp 20) 74 rfl w.heap.size 9 (.string ByteArray.empty) _ 16 info_str Tryz.underlying74 rfl rfl _ _ _ rfl hown1.out rfl rfl (by omega) (by omega) hbel1.size ?_)
      intro v' w' hown' hb'
      have hbel' := hbel1.trans hb'
      have HO : Hid (w'.ownsRow w.heap.size 9 1 v' (k + 1) ((tx (xs.take (k + 1))).map .string)) := hide (by rw [HT.out]; simpa using hown')
      clear hown'
      go_wp2
      go_roundw
      case rel => exact ⟨k + 1, by omega, by go_num, HO, hbel'⟩
      case measure => (simp [intOf]; try omega)
    · obtain rfl : k = n := by omega
      have hown2 : wr.ownsRow w.heap.size 9 1 u4 k ((tx xs).map .string) := by
        have := hown.out
        rwa [show xs.take k = xs from List.take_of_length_le (by rw [Hl.out]; omega)] at this
      have hjl := join_tx xs
      have hkI : ¬ (k : Int) < (k : Int) := by omega
      rw [Hl.out] at hjl
      have HJ := hide (i_joined hown2 (by omega) (by omega))
      clear hown hown2 hjl
      go_wp2_with fail
      refine HJ.out.mono ?_
      rintro e w1 ⟨rfl, hb1⟩
      go_wp2
      go_ret2
      exact ⟨rfl, hbel.trans (hb1.mono hbel.size)⟩
/-- What is told of the first k numbers, k at least 1. -/
def nt (xs : List Nat) (k : Nat) : ByteArray := ⟨(Lib.join ((tx (xs.take k)).map (·.data.toList)) [44]).toArray⟩
theorem nt_one {xs : List Nat} {x : Nat} (h : xs[0]? = some x) : nt xs 1 = hexB (cn .f32 x) := by
  apply ba_ext
  unfold nt
  cases xs with
  | nil => cases h
  | cons y ys => simp at h; subst h; simp [tx, Lib.join_one]
theorem nt_succ {xs : List Nat} {k x : Nat} (hk : 1 ≤ k) (h : xs[k]? = some x) : nt xs (k + 1) = nt xs k ++ (⟨#[44]⟩ ++ hexB (cn .f32 x)) := by
  apply ba_ext
  unfold nt
  cases xs with
  | nil => cases h
  | cons y ys =>
    obtain ⟨j, rfl⟩ : ∃ j, k = j + 1 := ⟨k - 1, by omega⟩
    have h' : ((ys.map fun x => hexB (cn .f32 x)).map (·.data.toList))[j]? = some (hexB (cn .f32 x)).data.toList := by
      simp at h
      simp [h]
    have hs := Lib.joinTail_take_succ [44] ((ys.map fun x => hexB (cn .f32 x)).map (·.data.toList)) j _ h'
    simp only [tx, List.take_succ_cons, List.map_cons, Lib.join_cons, List.map_take]
    rw [hs]
    simp
theorem nt_size (xs : List Nat) (k : Nat) : (nt xs k).size ≤ 9 * k := by
  have h1 := join_tx (xs.take k)
  have h2 : (xs.take k).length ≤ k := List.length_take_le k xs
  show (Lib.join ((tx (xs.take k)).map (·.data.toList)) [44]).toArray.size ≤ _
  rw [List.size_toArray]
  omega
theorem nt_all {xs : List Nat} (h : xs ≠ []) : nt xs xs.length = joinedB (tx xs) := by
  unfold nt joinedB
  rw [List.take_length, if_neg]
  cases xs with
  | nil => exact absurd rfl h
  | cons => simp [tx]
end Go.Proofs.YtjmpldcnhjgpkaaGreatDoor

/-
  ListText: the program's walk.
-/
namespace Go.Proofs.YtjmpldcnhjgpkaaGreatDoor
open Go.RowKit Mem Fl Go.Shelf
set_option linter.unusedVariables false
set_option maxRecDepth 100000

def valIn (n : Int) : Bool := inB n (-1000000000000000) 1000000000000000
def iv64 (xs : List Int) : List Value := xs.map (Value.int .i64)
def dx (xs : List Int) : List ByteArray := xs.map numS
theorem dx_len (xs : List Int) : (dx xs).length = xs.length := by simp [dx]
theorem valIn_rng {n : Int} (h : valIn n = true) : n.natAbs ≤ 1000000000000000 := by
  unfold valIn inB at h; simp at h; omega
theorem numS_le17 {n : Int} (h : valIn n = true) : (numS n).size ≤ 17 := (valV_len (valV_iff.2 ⟨valIn_rng h, rfl⟩)).2
theorem lens_dx : ∀ {xs : List Int}, (∀ x ∈ xs, valIn x = true) → Lib.lens ((dx xs).map (·.data.toList)) ≤ 17 * xs.length
  | [], _ => by simp [dx, Lib.lens]
  | x :: xs, h => by
    have ih := lens_dx (xs := xs) (fun y hy => h y (List.mem_cons_of_mem _ hy))
    have hx := numS_le17 (h x (by simp))
    simp only [dx, List.map_cons, Lib.lens, List.length_cons] at ih ⊢
    rw [List.sum_cons]
    have : (numS x).data.toList.length = (numS x).size := Array.length_toList
    omega
theorem join_dx {xs : List Int} (h : ∀ x ∈ xs, valIn x = true) : (Lib.join ((dx xs).map (·.data.toList)) [44]).length ≤ 18 * xs.length := by
  cases xs with
  | nil => simp [dx, Lib.join_nil]
  | cons x xs =>
    have h1 := lens_dx h
    have h2 := Lib.join_length (numS x).data.toList ((dx xs).map (·.data.toList)) [44]
    have h3 : (dx (x :: xs)).map (·.data.toList) = (numS x).data.toList :: (dx xs).map (·.data.toList) := rfl
    rw [h3] at h1 ⊢
    rw [h2]
    simp [dx_len]
    simp only [List.length_cons] at h1
    omega
theorem take_dx {xs : List Int} {k : Nat} {x : Int} (h : xs[k]? = some x) : dx (xs.take (k + 1)) = dx (xs.take k) ++ [numS x] := by
  rw [take_eq h]; simp [dx]
set_option maxHeartbeats 1000000 in
theorem i_areValues {A : Option Addr} {n c : Nat} {xs : List Int} {w : World} (h : Reads w w.heap.size 1 A n (iv64 xs)) (hn : n ≤ 64) :
    Calls Tryz.prog 58 #[.slice A n c] w fun e w' => e = .returned (.bool (xs.all valIn)) ∧ w' = w := by
  have Hl := hide h.map_len
  go_enter Tryz.func58, Tryz.ntmps58
  go_wp2
  go_loopw [7] (fun i wr => ∃ k : Nat, k ≤ n ∧ i = .int .i64 k ∧ Hid ((xs.take k).all valIn = true) ∧ wr = w) (fun i _ => n - (intOf i).toNat)
  case atStart => exact ⟨0, Nat.zero_le _, rfl, hide rfl, rfl⟩
  case round =>
    obtain ⟨k, hk, rfl, HA, rfl⟩ := hrel
    by_cases hk2 : k < n
    · obtain ⟨ad, x, rfl, _, hx, hc⟩ := h.map_at hk2
      have hkI : (k : Int) < (n : Int) := by omega
      cases hv : valIn x with
      | true =>
        have HA' : Hid ((xs.take (k + 1)).all valIn = true) := hide (by rw [take_eq hx, List.all_append, HA.out]; simp [hv])
        clear hx
        go_wp2_with (go_at_call 92; refine i_isValue.mono ?_; rw [show inB x (-1000000000000000) 1000000000000000 = true from hv]; rintro e w' ⟨rfl, rfl⟩)
        go_roundw
        case rel => exact ⟨k + 1, by omega, by go_num, HA', trivial⟩
        case measure => (simp [intOf]; try omega)
      | false =>
        have HA' : Hid (xs.all valIn = false) := hide (by
          cases ha : xs.all valIn with
          | false => rfl
          | true =>
            have := List.all_eq_true.1 ha x (List.mem_of_getElem? hx)
            rw [hv] at this; cases this)
        clear hx
        go_wp2_with (go_at_call 92; refine i_isValue.mono ?_; rw [show inB x (-1000000000000000) 1000000000000000 = false from hv]; rintro e w' ⟨rfl, rfl⟩)
        go_ret
        exact ⟨by rw [HA'.out]; rfl, rfl⟩
    · obtain rfl : k = n := by omega
      have HA' : Hid (xs.all valIn = true) := hide (by
        have := HA.out
        rwa [List.take_of_length_le (by rw [Hl.out]; omega)] at this)
      have hkI : ¬ (k : Int) < (k : Int) := by omega
      have hk64 : (k : Int) ≤ 64 := by omega
      go_wp2
      go_ret
      exact ⟨by rw [HA'.out]; rfl, rfl⟩
set_option maxHeartbeats 1000000 in
theorem i_listText {A : Option Addr} {n c : Nat} {xs : List Int} {w : World} (h : Reads w w.heap.size 1 A n (iv64 xs)) (hn : n ≤ 64) (hv : ∀ x ∈ xs, valIn x = true) (htab : Lib.TabIs Tryz.prog w "internal/strconv.uint64pow10" .u64 Lib.pow10Tab) :
    Calls Tryz.prog 59 #[.slice A n c] w fun e w' => e = .returned (.string (joinedB (dx xs))) ∧ Below w.heap.size w w' := by
  have Hl := hide h.map_len
  have HT0 := hide htab
  have HV := hide hv
  clear htab hv
  go_enter Tryz.func59, Tryz.ntmps59
  go_wp2
  go_loopw [3, 9] (fun v i wr => ∃ k : Nat, k ≤ n ∧ i = .int .i64 k ∧ Hid (wr.ownsRow w.heap.size 9 1 v k ((dx (xs.take k)).map .string)) ∧ Below w.heap.size w wr) (fun _ i _ => n - (intOf i).toNat)
  case atStart => exact ⟨0, Nat.zero_le _, rfl, hide (World.ownsRow_made _ _ _ (Nat.le_refl _) (by simp [maxLen]) (by simp)), (Below.refl _ _).alloc (Nat.le_refl _) _⟩
  case round =>
    obtain ⟨k, hk, rfl, hown, hbel⟩ := hrel
    by_cases hk2 : k < n
    · obtain ⟨ad, x, rfl, _, hx, hc⟩ := (h.below hbel).map_at hk2
      have hr := valIn_rng (HV.out x (List.mem_of_getElem? hx))
      have HT := hide (take_dx hx)
      have HD := hide (fun W (hb : Below w.heap.size w W) => i_DecimalA (n := x) (w := W) (by omega) (by omega) (pow_kept HT0.out hb))
      have hkI : (k : Int) < (n : Int) := by omega
      clear hr hx
      go_wp2_with fail
      refine (HD.out _ hbel).mono ?_
      rintro e w1 ⟨rfl, hb1⟩
      have hown1 := hide (own_below hown.out hb1)
      have hbel1 := hbel.trans (hb1.mono hbel.size)
      clear hc hown HD
      go_wp2_with (at_builtin; refine wpList_append1 rfl (.tmp 13) (.tmp 16) 74 rfl w.heap.size 9 (.string ByteArray.empty) _ 16 info_str Tryz.underlying74 rfl rfl _ _ _ rfl hown1.out rfl rfl (by omega) (by omega) hbel1.size ?_)
      intro v' w' hown' hb'
      have hbel' := hbel1.trans hb'
      have HO : Hid (w'.ownsRow w.heap.size 9 1 v' (k + 1) ((dx (xs.take (k + 1))).map .string)) := hide (by rw [HT.out]; simpa using hown')
      clear hown'
      go_wp2
      go_roundw
      case rel => exact ⟨k + 1, by omega, by go_num, HO, hbel'⟩
      case measure => (simp [intOf]; try omega)
    · obtain rfl : k = n := by omega
      have hown2 : wr.ownsRow w.heap.size 9 1 u3 k ((dx xs).map .string) := by
        have := hown.out
        rwa [show xs.take k = xs from List.take_of_length_le (by rw [Hl.out]; omega)] at this
      have hjl := join_dx HV.out
      have hkI : ¬ (k : Int) < (k : Int) := by omega
      rw [Hl.out] at hjl
      have HJ := hide (i_joined hown2 (by omega) (by omega))
      clear hown hown2 hjl
      go_wp2_with fail
      refine HJ.out.mono ?_
      rintro e w1 ⟨rfl, hb1⟩
      go_wp2
      go_ret
      exact ⟨rfl, hbel.trans (hb1.mono hbel.size)⟩
/-- What ListText gives. -/
def listS (xs : List Int) : ByteArray := if xs.all valIn = true then joinedB (dx xs) else ⟨#[]⟩
theorem i_ListText {A : Option Addr} {n c : Nat} {xs : List Int} {w : World} (h : Reads w w.heap.size 1 A n (iv64 xs)) (hn : n ≤ 64) (htab : Lib.TabIs Tryz.prog w "internal/strconv.uint64pow10" .u64 Lib.pow10Tab) :
    Calls Tryz.prog 22 #[.slice A n c] w fun e w' => e = .returned (.tuple #[.string (listS xs), .bool (xs.all valIn)]) ∧ Below w.heap.size w w' := by
  have HV := hide (i_areValues (c := c) h hn)
  cases hv : xs.all valIn with
  | true =>
    have HL := hide (i_listText (c := c) h hn (fun x hx => List.all_eq_true.1 hv x hx) htab)
    have HS : Hid (listS xs = joinedB (dx xs)) := hide (if_pos hv)
    rw [hv] at HV
    clear hv h htab
    go_enter Tryz.func22, Tryz.ntmps22
    go_wp2_with (first | (go_at_call 58; refine HV.out.mono ?_; rintro e w' ⟨rfl, rfl⟩) | (go_at_call 59; refine HL.out.mono ?_; rintro e w1 ⟨rfl, hb⟩))
    go_ret2
    exact ⟨by rw [HS.out]; rfl, hb⟩
  | false =>
    have HS : Hid (listS xs = ⟨#[]⟩) := hide (if_neg (by rw [hv]; decide))
    rw [hv] at HV
    clear hv h htab
    go_enter Tryz.func22, Tryz.ntmps22
    go_wp2_with (go_at_call 58; refine HV.out.mono ?_; rintro e w' ⟨rfl, rfl⟩)
    go_ret2
    exact ⟨by rw [HS.out]; rfl, Below.refl _ _⟩
end Go.Proofs.YtjmpldcnhjgpkaaGreatDoor
