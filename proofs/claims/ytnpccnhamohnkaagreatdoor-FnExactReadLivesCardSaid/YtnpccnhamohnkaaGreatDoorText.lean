/-
  The program's text of a 32-bit number: 8 hexadecimal digits.
-/
import Derived.Test.YtnpccnhamohnkaaGreatDoorHexS
import Derived.Test.YtnpccnhamohnkaaGreatDoorCutL
import Derived.Test.YtnpccnhamohnkaaGreatDoorLayRepeat
import Derived.Test.YtnpccnhamohnkaaGreatDoorLayJoin
import Derived.Lib.Repeat
import Derived.Lib.Join
namespace Go.Proofs.YtnpccnhamohnkaaGreatDoor
open Go.RowKit Mem Fl Go.Shelf
set_option linter.unusedVariables false
set_option maxRecDepth 100000

theorem extraRepeat : Builder.Extra Tryz.prog renRepeat where
  sizeBuilder := by kernel_rfl
  liesBuilder := by kernel_rfl
  t5 := Tryz.underlying5
  a5 := Tryz.isAgg5
  z5 := Tryz.sizeOf5
  v5 := Tryz.zeroValue5
  infoByte := by kernel_rfl
  cellsByte := by kernel_rfl
  sizeByte := by kernel_rfl
  neB5 := by decide
theorem extraJoin : Builder.Extra Tryz.prog renJoin where
  sizeBuilder := by kernel_rfl
  liesBuilder := by kernel_rfl
  t5 := Tryz.underlying5
  a5 := Tryz.isAgg5
  z5 := Tryz.sizeOf5
  v5 := Tryz.zeroValue5
  infoByte := by kernel_rfl
  cellsByte := by kernel_rfl
  sizeByte := by kernel_rfl
  neB5 := by decide

def zerosB (c : Nat) : ByteArray := ⟨(List.replicate c 48).toArray⟩
def hexMinB (n : Nat) : ByteArray := ⟨(hexMin n).toArray⟩
theorem zerosB_size (c : Nat) : (zerosB c).size = c := by show (List.replicate c (48 : UInt8)).toArray.size = c; simp
theorem hexMinB_size (n : Nat) : (hexMinB n).size = (hexMin n).length := by show (hexMin n).toArray.size = _; simp
theorem repeat0 {x : Int} {c : Nat} (w : World) (hx : x = (c : Int)) (hc : c ≤ 8) :
    Calls Tryz.prog 128 #[.string ⟨#[48]⟩, .int .i64 x] w fun e w' => e = .returned (.string (zerosB c)) ∧ Below w.heap.size w w' := by
  subst hx
  refine (Any.strings_Repeat laysRepeat extraRepeat ⟨#[48]⟩ c w (by omega) (by have : ByteArray.size ⟨#[48]⟩ = 1 := rfl; rw [this]; omega)).mono ?_
  rintro e w' ⟨rfl, h⟩
  refine ⟨?_, h⟩
  have := Lib.repeatL_replicate 48 1 c
  simp only [Nat.mul_one] at this
  unfold zerosB; rw [← this]; rfl
theorem join_calls (g c : Nat) (xs : List ByteArray) (w : World) (hcells : ∀ (j : Nat) x, xs[j]? = some x → w.cell? ⟨g, j, none⟩ = some (.string x))
    (hg : g < w.heap.size) (hcap : xs.length ≤ c) (hlen : (Lib.join (xs.map (·.data.toList)) [44]).length ≤ 140737488355328) (hN : xs.length ≤ 140737488355328) :
    Calls Tryz.prog 129 #[.slice (some ⟨g, 0, none⟩) xs.length c, .string ⟨#[44]⟩] w fun e w' => e = .returned (.string ⟨(Lib.join (xs.map (·.data.toList)) [44]).toArray⟩) ∧ Below w.heap.size w w' :=
  Any.strings_Join laysJoin extraJoin g 0 c xs ⟨#[44]⟩ w (fun j x h => by rw [Nat.zero_add]; exact hcells j x h) hg hN hcap hlen

theorem i_BitsOf {a : Nat} {w : World} (wa : Wf .f32 a) : Calls Tryz.prog 127 #[.float .f32 a] w fun e w' => e = .returned (.int .i64 (cn .f32 a : Int)) ∧ w = w' := by
  have hlt : a < 4294967296 := by
    unfold Wf at wa
    have hw : 2 ^ FloatKind.f32.format.width = 4294967296 := by decide +kernel
    rw [hw] at wa; exact wa
  have hs := fun (y : Nat) (w : World) => run_call_bits32 (P := Tryz.prog) (f := 184) Tryz.func184 (by kernel_rfl) (by kernel_rfl) (by kernel_rfl) (by rfl) y w
  have hnn := nan_iff a
  cases ha : isNan .f32 a with
  | true =>
    rw [ha] at hnn
    have Ha := hide ha
    clear ha
    go_enter Tryz.func127, Tryz.ntmps127
    go_wp2
    go_ret
    exact ⟨ret_int (by rw [cn_nan Ha.out]; rfl), rfl⟩
  | false =>
    rw [ha] at hnn
    have Ha := hide ha
    clear ha
    go_enter Tryz.func127, Tryz.ntmps127
    go_wp2
    go_ret
    exact ⟨ret_int (by rw [cn_num Ha.out]), rfl⟩
theorem formatInt16 {n : Nat} {w : World} (hn : n < 4294967296) (ht : w.cell? ⟨8, 15, none⟩ = some (.int .u8 4)) :
    Calls Tryz.prog 66 #[.int .i64 n, .int .i64 16] w fun e w' => e = .returned (.string (hexMinB n)) ∧ Below w.heap.size w w' := by
  go_enter Tryz.func66, Tryz.ntmps66
  go_wp2_with (first | (go_at_call 130; go_in) | (go_at_call 190; refine (formatBits16 hn ht).mono ?_; rintro e w' ⟨rfl, hb⟩))
  go_ret
  exact ⟨rfl, hb⟩
/-- The text of a number. -/
def hexB (n : Nat) : ByteArray := ⟨(hexPad 8 n).toArray⟩
theorem hexB_size (n : Nat) : (hexB n).size = 8 := by show (hexPad 8 n).toArray.size = 8; rw [List.size_toArray, hexPad_len]
theorem s_l01HexB {a : Nat} {w : World} (wa : Wf .f32 a) : Calls Tryz.prog 204 #[.float .f32 a] w fun e w' => e = .returned (.string (hexB (cn .f32 a))) ∧ Below w.heap.size w w' := s_l01Hex wa
theorem i_hexOf {a : Nat} {w : World} (wa : Wf .f32 a) (ht : w.cell? ⟨8, 15, none⟩ = some (.int .u8 4)) :
    Calls Tryz.prog 64 #[.float .f32 a] w fun e w' => e = .returned (.string (hexB (cn .f32 a))) ∧ Below w.heap.size w w' := by
  have hlt := cn_lt wa
  have hp := hexMin_pad 7 (cn .f32 a) (by omega)
  have hl := hexMin_len 7 (cn .f32 a) (by omega)
  obtain ⟨c, hc⟩ : ∃ c, c + (hexMin (cn .f32 a)).length = 8 := ⟨8 - (hexMin (cn .f32 a)).length, by omega⟩
  rw [show 7 + 1 - (hexMin (cn .f32 a)).length = c by omega] at hp
  have hs1 := fun w => run_string_add_sum (P := Tryz.prog) w (zerosB c) (hexMinB (cn .f32 a)) (by rw [zerosB_size, hexMinB_size]; omega)
  have hz : ((hexMinB (cn .f32 a)).size : Int) = ((hexMin (cn .f32 a)).length : Int) := by rw [hexMinB_size]
  have HP : Hid (zerosB c ++ hexMinB (cn .f32 a) = hexB (cn .f32 a)) := hide (by
    apply ba_ext
    unfold hexB zerosB hexMinB
    rw [← hp]
    simp)
  clear hp
  go_enter Tryz.func64, Tryz.ntmps64
  go_wp2_with fail
  refine (i_BitsOf wa).mono ?_
  rintro e w' ⟨rfl, rfl⟩
  go_wp2_with fail
  refine (formatInt16 hlt ht).mono ?_
  rintro e w1 ⟨rfl, hb⟩
  go_wp2_with fail
  refine (repeat0 (c := c) _ (by omega) (by omega)).mono ?_
  rintro e w2 ⟨rfl, hb2⟩
  go_wp2
  go_ret
  exact ⟨by rw [HP.out]; rfl, hb.trans (hb2.mono hb.size)⟩
end Go.Proofs.YtnpccnhamohnkaaGreatDoor
