/-
  A region that draws its order, whose operations only read and whose callees leave what was there: walked once. The class of worlds: those in which what was there still lies.
-/
import Derived.Test.YtjfmjeffmnjilaaMem
import Derived.BigQuiet
namespace Go.Proofs.Ytjfmjeffmnjilaa
open Go.RowKit Mem
set_option linter.unusedVariables false

structure BelW (w : World) where
  v : World
  h : Below w.heap.size w v
instance (w : World) : Inhabited (BelW w) := ⟨⟨w, Below.refl _ _⟩⟩
theorem wp_region_quiet_bel {P : Program} {id : Nat} {Q : Exit → Act → World → Prop} {a : Act} {w : World} {l : List Oper} (hm : P.follows .mixedOrders = true) (hB : Region.lexB .any l.toArray = true)
    (h : wpQuiet P l.toArray (fun w' => ∃ p : BelW w, w' = p.v) (fun a' => ∀ w', (∃ p : BelW w, w' = p.v) → Q .normal a' w') l a) : (Code.region id l.toArray true).wp P Q a w :=
  wp_region_quiet (C := fun w' => ∃ p : BelW w, w' = p.v) hm hB ⟨⟨w.drew, (Below.refl _ _).drew⟩, rfl⟩ (by simpa using h)
theorem cell_bel {w : World} {a : Addr} {v : Value} (hb : a.block < w.heap.size) (h : w.cell? a = some v) (p : BelW w) : p.v.cell? a = some v := (p.h.cell hb).trans h
theorem Calls.bel_of {P : Program} {f : FuncId} {args : Array Value} {w : World} {p : BelW w} {v : Value}
    (h : Calls P f args p.v fun e w' => e = .returned v ∧ Below p.v.heap.size p.v w') : Calls P f args p.v fun e w'' => e = .returned v ∧ ∃ q : BelW w, w'' = q.v :=
  h.mono fun _ w' ⟨he, hb⟩ => ⟨he, ⟨w', p.h.trans (hb.mono p.h.size)⟩, rfl⟩
theorem Calls.bel_same {P : Program} {f : FuncId} {args : Array Value} {w : World} {p : BelW w} {v : Value}
    (h : Calls P f args p.v fun e w' => e = .returned v ∧ w' = p.v) : Calls P f args p.v fun e w'' => e = .returned v ∧ ∃ q : BelW w, w'' = q.v :=
  h.mono fun _ w' ⟨he, hb⟩ => ⟨he, p, hb⟩
theorem Calls.bel_drew {P : Program} {f : FuncId} {args : Array Value} {w : World} {p : BelW w} {v : Value}
    (h : Calls P f args p.v fun e w' => e = .returned v ∧ ∃ m, w' = p.v.drewN m) : Calls P f args p.v fun e w'' => e = .returned v ∧ ∃ q : BelW w, w'' = q.v :=
  h.mono fun _ w' ⟨he, m, hb⟩ => ⟨he, ⟨p.v.drewN m, below_drewN p.h m⟩, hb⟩
theorem quiet_plus {P : Program} {f : FuncId} {args : Array Value} {w : World} {a n : Nat} {v : Value}
    (h : Calls P f args (w.drewN (a + n)) fun e w' => e = .returned v ∧ ∃ m, w' = (w.drewN (a + n)).drewN m) :
    Calls P f args (w.drewN (a + n)) fun e w'' => e = .returned v ∧ ∃ m, w'' = w.drewN (a + m) :=
  h.mono fun _ _ ⟨he, m, hm⟩ => ⟨he, n + m, by rw [hm, World.drewN_drewN, Nat.add_assoc]⟩
theorem calls_draw0 {P : Program} {f : FuncId} {args : Array Value} {w : World} {v : Value} (h : Calls P f args w fun e w' => e = .returned v ∧ w' = w) : Calls P f args w fun e w' => e = .returned v ∧ ∃ m, w' = w.drewN m := h.mono fun _ _ ⟨he, hw⟩ => ⟨he, 0, hw⟩
/-- A contract whose Bool is told. -/
theorem calls_bool {P : Program} {f : FuncId} {args : Array Value} {w : World} {b b' : Bool} {R : World → Prop} (h : Calls P f args w fun e w' => e = .returned (.bool b) ∧ R w') (hb : b = b') : Calls P f args w fun e w' => e = .returned (.bool b') ∧ R w' := hb ▸ h
theorem reads_bel {w : World} {B size n : Nat} {A : Option Addr} {xs : List Value} (h : Reads w B size A n xs) (hB : B ≤ w.heap.size) (p : BelW w) : Reads p.v B size A n xs := h.keep fun q hq => p.h.cell (by omega)
end Go.Proofs.Ytjfmjeffmnjilaa
