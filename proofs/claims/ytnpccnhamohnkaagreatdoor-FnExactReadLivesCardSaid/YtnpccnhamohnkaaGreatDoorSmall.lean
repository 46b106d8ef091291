/-
  strconv.FormatInt of small numbers: the program's Decimal, by the shelf's contract of 'small'.
-/
import Derived.Test.YtnpccnhamohnkaaGreatDoorDecS
import Derived.Shelf.Lays
import Derived.Shelf.Strconv.Itoa1
namespace Go.Proofs.YtnpccnhamohnkaaGreatDoor
open Go.RowKit Mem Go.Shelf
set_option linter.unusedVariables false
set_option maxRecDepth 100000

def renSmall : Ren := ⟨fun _ => 187, fun x => if x = 3 then 3 else if x = 4 then 4 else 9, fun x => x⟩
theorem laysSmall : Lays.n283 Tryz.prog renSmall :=
  { mixed := by kernel_rfl, f283 := by kernel_rfl,
    t3 := by kernel_rfl, a3 := fun w => by rfl, z3 := fun w => by rfl, v3 := fun w => by rfl,
    t4 := by kernel_rfl, a4 := fun w => by rfl, z4 := fun w => by rfl, v4 := fun w => by rfl,
    t9 := by kernel_rfl, a9 := fun w => by rfl, z9 := fun w => by rfl, v9 := fun w => by rfl }
theorem small_calls (i : Nat) (h : i < 100) (w : World) : Calls Tryz.prog 187 #[.int .i64 i] w fun e w' => e = .returned (.string ⟨(Lib.decDigits i).toArray⟩) ∧ w' = w :=
  Any.internal_strconv_small laysSmall i h w
theorem formatInt_in (i : Int) (h0 : 0 ≤ i) (h1 : i < 100) (w : World) : Calls Tryz.prog 130 #[.int .i64 i, .int .i64 10] w fun e w' => e = .returned (.string ⟨(Lib.itoa i).toArray⟩) ∧ w' = w := by
  obtain ⟨n, rfl⟩ := Int.eq_ofNat_of_zero_le h0
  have Hs : Hid (Lib.itoa (n : Int) = Lib.decDigits n) := hide (by rw [itoa_of, if_neg (by omega)]; rfl)
  go_enter Tryz.func130, Tryz.ntmps130
  go_wp2_with (go_at_call 187; refine (small_calls n (by omega) _).mono ?_; rintro e w' ⟨rfl, rfl⟩)
  go_ret
  exact ⟨congrArg (fun l : List UInt8 => Ending.returned (.string ⟨l.toArray⟩)) Hs.out.symm, rfl⟩
theorem formatInt_small (i : Int) (h0 : 0 ≤ i) (h1 : i < 100) (w : World) : Calls Tryz.prog 66 #[.int .i64 i, .int .i64 10] w fun e w' => e = .returned (.string ⟨(Lib.itoa i).toArray⟩) ∧ w' = w := by
  go_enter Tryz.func66, Tryz.ntmps66
  go_wp2_with (go_at_call 130; refine (formatInt_in i h0 h1 _).mono ?_; rintro e w' ⟨rfl, rfl⟩)
  go_ret
  exact ⟨rfl, rfl⟩
theorem i_Decimal (i : Int) (h0 : 0 ≤ i) (h1 : i < 100) (w : World) : Calls Tryz.prog 26 #[.int .i64 i] w fun e w' => e = .returned (.string ⟨(Lib.itoa i).toArray⟩) ∧ w' = w := by
  go_enter Tryz.func26, Tryz.ntmps26
  go_wp2_with (go_at_call 66; refine (formatInt_small i h0 h1 _).mono ?_; rintro e w' ⟨rfl, rfl⟩)
  go_ret
  exact ⟨rfl, rfl⟩
end Go.Proofs.YtnpccnhamohnkaaGreatDoor
