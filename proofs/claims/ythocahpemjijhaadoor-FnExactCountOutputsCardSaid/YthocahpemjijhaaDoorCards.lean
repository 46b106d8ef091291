/-
  DERIVED. GIVEN WITH THE SEED: THE CARDS: each row of YthocahpemjijhaaDoorRows.lean that lists a variable, with what it lists TIED to the program's text (the seventh form; the later family's looks); each row that meets fmt, with fmt's text TOLD by the authors' own Lean function (tested against real Go, not proved from fmt's source: count such statements apart). THE CARD IS WHAT COUNTS. Prove the row's statement (the work); the ties are given (YthocahpemjijhaaDoorTie.lean); close each card by the builder's one call (the guide's Derived/Test/ToyasCard.lean, 'card_holds'). Laid BY PROGRAM, IN A SANDBOX (cutbox-door.mjs). By AI agents, Wed Nov 11 2026. No macro, syntax, notation, axiom, sorry.
-/
import Derived.Test.YthocahpemjijhaaDoorRows
import GoSem.ClaimSeven
namespace Go.Proofs.YthocahpemjijhaaDoor
namespace Rows

/-- THE TIED CARD OF 'laws.FnPlans'. -/
def fnPlansCard : Claim7 := { stood := { row := fnPlansRow, standIns := [], harness := (true, "bcc9c0378a5f7d55f8e23f1031b0fb94ac1975fa7bfd29678d9d7c3164fe6b0b"), looks := true }, kinds := [], alts := [], laidByText := true, laidKinds := [.data, .data, .data, .sentinel, .sentinel], laidTests := true, laidLooks := .later }
def FnPlansCardSaid : Prop := Claim7.holds Tryd.pinned (.plain (OpenSpec.ofChange fnPlansSpec)) fnPlansCard

/-- THE TIED CARD OF 'laws.FnExactPlanText'. -/
def fnExactPlanTextCard : Claim7 := { stood := { row := fnExactPlanTextRow, standIns := [], harness := (true, "bcc9c0378a5f7d55f8e23f1031b0fb94ac1975fa7bfd29678d9d7c3164fe6b0b"), looks := true }, kinds := [], alts := [], laidByText := true, laidKinds := [.data, .data, .data], laidTests := true, laidLooks := .later }
def FnExactPlanTextCardSaid : Prop := Claim7.holds Tryd.pinned (.plain (OpenSpec.ofChange fnExactPlanTextSpec)) fnExactPlanTextCard

/-- THE TIED CARD OF 'laws.FnExactCountOutputs'. -/
def fnExactCountOutputsCard : Claim7 := { stood := { row := fnExactCountOutputsRow, standIns := [], harness := (true, "bcc9c0378a5f7d55f8e23f1031b0fb94ac1975fa7bfd29678d9d7c3164fe6b0b"), looks := true }, kinds := [], alts := [], laidByText := true, laidKinds := [.data, .pinned], laidTests := true, laidLooks := .later }
def FnExactCountOutputsCardSaid : Prop := Claim7.holds Tryd.pinned (.plain (OpenSpec.ofChange fnExactCountOutputsSpec)) fnExactCountOutputsCard

/-- THE SECOND FORM's CARD OF 'laws.FnPlans'. -/
def fnPlansUptoCard : Claim7 := { stood := { row := fnPlansUptoRow, standIns := [], harness := (true, "bcc9c0378a5f7d55f8e23f1031b0fb94ac1975fa7bfd29678d9d7c3164fe6b0b"), looks := true }, kinds := [], alts := [], laidByText := true, laidKinds := [.data, .data, .data, .sentinel, .sentinel], laidTests := true, laidLooks := .later }
def FnPlansUptoCardSaid : Prop := Claim7.holds Tryd.pinned (.plain (OpenSpec.upto fnPlansSpec)) fnPlansUptoCard

/-- THE SECOND FORM's CARD OF 'laws.FnExactPlanText'. -/
def fnExactPlanTextUptoCard : Claim7 := { stood := { row := fnExactPlanTextUptoRow, standIns := [], harness := (true, "bcc9c0378a5f7d55f8e23f1031b0fb94ac1975fa7bfd29678d9d7c3164fe6b0b"), looks := true }, kinds := [], alts := [], laidByText := true, laidKinds := [.data, .data, .data], laidTests := true, laidLooks := .later }
def FnExactPlanTextUptoCardSaid : Prop := Claim7.holds Tryd.pinned (.plain (OpenSpec.upto fnExactPlanTextSpec)) fnExactPlanTextUptoCard

/-- THE SECOND FORM's CARD OF 'laws.FnExactCountOutputs'. -/
def fnExactCountOutputsUptoCard : Claim7 := { stood := { row := fnExactCountOutputsUptoRow, standIns := [], harness := (true, "bcc9c0378a5f7d55f8e23f1031b0fb94ac1975fa7bfd29678d9d7c3164fe6b0b"), looks := true }, kinds := [], alts := [], laidByText := true, laidKinds := [.data, .pinned], laidTests := true, laidLooks := .later }
def FnExactCountOutputsUptoCardSaid : Prop := Claim7.holds Tryd.pinned (.plain (OpenSpec.upto fnExactCountOutputsSpec)) fnExactCountOutputsUptoCard
end Rows
end Go.Proofs.YthocahpemjijhaaDoor
