/-
  DERIVED. GIVEN WITH THE SEED: THE CARDS: each row of YtnpccnhamohnkaaDoorRows.lean that lists a variable, with what it lists TIED to the program's text (the seventh form; the later family's looks); each row that meets fmt, with fmt's text TOLD by the authors' own Lean function (tested against real Go, not proved from fmt's source: count such statements apart). THE CARD IS WHAT COUNTS. Prove the row's statement (the work); the ties are given (YtnpccnhamohnkaaDoorTie.lean); close each card by the builder's one call (the guide's Derived/Test/ToyasCard.lean, 'card_holds'). Laid BY PROGRAM, IN A SANDBOX (cutbox-door.mjs). By AI agents, Wed Nov 11 2026. No macro, syntax, notation, axiom, sorry.
-/
import Derived.Test.YtnpccnhamohnkaaDoorRows
import GoSem.ClaimSeven
namespace Go.Proofs.YtnpccnhamohnkaaDoor
namespace Rows

/-- THE TIED CARD OF 'laws.FnExactReadLaw'. -/
def fnExactReadLawCard : Claim7 := { stood := { row := fnExactReadLawRow, standIns := [], harness := (true, "c5315ea48de6f61ffb8f01cfcf9427bc23afb9da325c5e72d11bdc52340eca19"), looks := true }, kinds := [], alts := [], laidByText := true, laidKinds := [.data, .data, .data, .data, .sentinel, .sentinel, .pinned], laidTests := true, laidLooks := .later }
def FnExactReadLawCardSaid : Prop := Claim7.holds Tryd.pinned (.plain (OpenSpec.ofChange fnExactReadLawSpec)) fnExactReadLawCard

/-- THE SECOND FORM's CARD OF 'laws.FnExactReadLaw'. -/
def fnExactReadLawUptoCard : Claim7 := { stood := { row := fnExactReadLawUptoRow, standIns := [], harness := (true, "c5315ea48de6f61ffb8f01cfcf9427bc23afb9da325c5e72d11bdc52340eca19"), looks := true }, kinds := [], alts := [], laidByText := true, laidKinds := [.data, .data, .data, .data, .sentinel, .sentinel, .pinned], laidTests := true, laidLooks := .later }
def FnExactReadLawUptoCardSaid : Prop := Claim7.holds Tryd.pinned (.plain (OpenSpec.upto fnExactReadLawSpec)) fnExactReadLawUptoCard
end Rows
end Go.Proofs.YtnpccnhamohnkaaDoor
