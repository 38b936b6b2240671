/-
  DERIVED. GIVEN WITH THE SEED: THE CARDS: each row of YtknbgbeepachgaaDoorRows.lean that lists a variable, with what it lists TIED to the program's text (the seventh form; the later family's looks); each row that meets fmt, with fmt's text TOLD by the authors' own Lean function (tested against real Go, not proved from fmt's source: count such statements apart). THE CARD IS WHAT COUNTS. Prove the row's statement (the work); the ties are given (YtknbgbeepachgaaDoorTie.lean); close each card by the builder's one call (the guide's Derived/Test/ToyasCard.lean, 'card_holds'). Laid BY PROGRAM, IN A SANDBOX (cutbox-door.mjs). By AI agents, Wed Nov 11 2026. No macro, syntax, notation, axiom, sorry.
-/
import Derived.Test.YtknbgbeepachgaaDoorRows
import GoSem.ClaimSeven
namespace Go.Proofs.YtknbgbeepachgaaDoor
namespace Rows

/-- THE TIED CARD OF 'pavanelaw16.CheckCodes'. -/
def checkCodesCard : Claim7 := { stood := { row := checkCodesRow, standIns := [], harness := (true, "72a0404f6f7ce825784a6b465100e2d12f4111f23be2f42d49b86904453a3363"), looks := true }, kinds := [], alts := [], laidByText := true, laidKinds := [.data, .data], laidTests := true, laidLooks := .later }
def CheckCodesCardSaid : Prop := Claim7.holds Tryd.pinned (.plain (OpenSpec.ofChange checkCodesSpec)) checkCodesCard

/-- THE TIED CARD OF 'pavanelaw16.CheckFlows'. -/
def checkFlowsCard : Claim7 := { stood := { row := checkFlowsRow, standIns := [], harness := (true, "72a0404f6f7ce825784a6b465100e2d12f4111f23be2f42d49b86904453a3363"), looks := true }, kinds := [], alts := [], laidByText := true, laidKinds := [.data, .data], laidTests := true, laidLooks := .later }
def CheckFlowsCardSaid : Prop := Claim7.holds Tryd.pinned (.plain (OpenSpec.ofChange checkFlowsSpec)) checkFlowsCard

/-- THE TIED CARD OF 'pavanelaw16.CheckBreaks'. -/
def checkBreaksCard : Claim7 := { stood := { row := checkBreaksRow, standIns := [], harness := (true, "72a0404f6f7ce825784a6b465100e2d12f4111f23be2f42d49b86904453a3363"), looks := true }, kinds := [], alts := [], laidByText := true, laidKinds := [.data, .data], laidTests := true, laidLooks := .later }
def CheckBreaksCardSaid : Prop := Claim7.holds Tryd.pinned (.plain (OpenSpec.ofChange checkBreaksSpec)) checkBreaksCard

/-- THE SECOND FORM's CARD OF 'pavanelaw16.CheckCodes'. -/
def checkCodesUptoCard : Claim7 := { stood := { row := checkCodesUptoRow, standIns := [], harness := (true, "72a0404f6f7ce825784a6b465100e2d12f4111f23be2f42d49b86904453a3363"), looks := true }, kinds := [], alts := [], laidByText := true, laidKinds := [.data, .data], laidTests := true, laidLooks := .later }
def CheckCodesUptoCardSaid : Prop := Claim7.holds Tryd.pinned (.plain (OpenSpec.upto checkCodesSpec)) checkCodesUptoCard

/-- THE SECOND FORM's CARD OF 'pavanelaw16.CheckFlows'. -/
def checkFlowsUptoCard : Claim7 := { stood := { row := checkFlowsUptoRow, standIns := [], harness := (true, "72a0404f6f7ce825784a6b465100e2d12f4111f23be2f42d49b86904453a3363"), looks := true }, kinds := [], alts := [], laidByText := true, laidKinds := [.data, .data], laidTests := true, laidLooks := .later }
def CheckFlowsUptoCardSaid : Prop := Claim7.holds Tryd.pinned (.plain (OpenSpec.upto checkFlowsSpec)) checkFlowsUptoCard

/-- THE SECOND FORM's CARD OF 'pavanelaw16.CheckBreaks'. -/
def checkBreaksUptoCard : Claim7 := { stood := { row := checkBreaksUptoRow, standIns := [], harness := (true, "72a0404f6f7ce825784a6b465100e2d12f4111f23be2f42d49b86904453a3363"), looks := true }, kinds := [], alts := [], laidByText := true, laidKinds := [.data, .data], laidTests := true, laidLooks := .later }
def CheckBreaksUptoCardSaid : Prop := Claim7.holds Tryd.pinned (.plain (OpenSpec.upto checkBreaksSpec)) checkBreaksUptoCard
end Rows
end Go.Proofs.YtknbgbeepachgaaDoor
