/-
  DERIVED. GIVEN WITH THE SEED: THE CARDS: each row of YtohdldlagkmcnaaDoorRows.lean that lists a variable, with what it lists TIED to the program's text (the seventh form; the later family's looks); each row that meets fmt, with fmt's text TOLD by the authors' own Lean function (tested against real Go, not proved from fmt's source: count such statements apart). THE CARD IS WHAT COUNTS. Prove the row's statement (the work); the ties are given (YtohdldlagkmcnaaDoorTie.lean); close each card by the builder's one call (the guide's Derived/Test/ToyasCard.lean, 'card_holds'). Laid BY PROGRAM, IN A SANDBOX (cutbox-door.mjs). By AI agents, Wed Nov 11 2026. No macro, syntax, notation, axiom, sorry.
-/
import Derived.Test.YtohdldlagkmcnaaDoorRows
import GoSem.ClaimSeven
namespace Go.Proofs.YtohdldlagkmcnaaDoor
namespace Rows

/-- THE TIED CARD OF 'forepeaklaw30.MoveMay'. -/
def moveMayCard : Claim7 := { stood := { row := moveMayRow, standIns := [], harness := (true, "7eb5b1f4009df56f492532f2a2f2e5324153276a667d0f3f7808390cd51f3430"), looks := false }, kinds := [], alts := [], laidByText := true, laidKinds := [.data], laidTests := true, laidLooks := .later }
def MoveMayCardSaid : Prop := Claim7.holds Tryd.pinned (.plain (OpenSpec.ofChange moveMaySpec)) moveMayCard

/-- THE TIED CARD OF 'forepeaklaw30.MoveBoth'. -/
def moveBothCard : Claim7 := { stood := { row := moveBothRow, standIns := [], harness := (true, "7eb5b1f4009df56f492532f2a2f2e5324153276a667d0f3f7808390cd51f3430"), looks := false }, kinds := [], alts := [], laidByText := true, laidKinds := [.data], laidTests := true, laidLooks := .later }
def MoveBothCardSaid : Prop := Claim7.holds Tryd.pinned (.plain (OpenSpec.ofChange moveBothSpec)) moveBothCard

/-- THE TIED CARD OF 'forepeaklaw30.MoveFlows'. -/
def moveFlowsCard : Claim7 := { stood := { row := moveFlowsRow, standIns := [], harness := (true, "7eb5b1f4009df56f492532f2a2f2e5324153276a667d0f3f7808390cd51f3430"), looks := false }, kinds := [], alts := [], laidByText := true, laidKinds := [.data], laidTests := true, laidLooks := .later }
def MoveFlowsCardSaid : Prop := Claim7.holds Tryd.pinned (.plain (OpenSpec.ofChange moveFlowsSpec)) moveFlowsCard

/-- THE SECOND FORM's CARD OF 'forepeaklaw30.MoveMay'. -/
def moveMayUptoCard : Claim7 := { stood := { row := moveMayUptoRow, standIns := [], harness := (true, "7eb5b1f4009df56f492532f2a2f2e5324153276a667d0f3f7808390cd51f3430"), looks := false }, kinds := [], alts := [], laidByText := true, laidKinds := [.data], laidTests := true, laidLooks := .later }
def MoveMayUptoCardSaid : Prop := Claim7.holds Tryd.pinned (.plain (OpenSpec.upto moveMaySpec)) moveMayUptoCard

/-- THE SECOND FORM's CARD OF 'forepeaklaw30.MoveBoth'. -/
def moveBothUptoCard : Claim7 := { stood := { row := moveBothUptoRow, standIns := [], harness := (true, "7eb5b1f4009df56f492532f2a2f2e5324153276a667d0f3f7808390cd51f3430"), looks := false }, kinds := [], alts := [], laidByText := true, laidKinds := [.data], laidTests := true, laidLooks := .later }
def MoveBothUptoCardSaid : Prop := Claim7.holds Tryd.pinned (.plain (OpenSpec.upto moveBothSpec)) moveBothUptoCard

/-- THE SECOND FORM's CARD OF 'forepeaklaw30.MoveFlows'. -/
def moveFlowsUptoCard : Claim7 := { stood := { row := moveFlowsUptoRow, standIns := [], harness := (true, "7eb5b1f4009df56f492532f2a2f2e5324153276a667d0f3f7808390cd51f3430"), looks := false }, kinds := [], alts := [], laidByText := true, laidKinds := [.data], laidTests := true, laidLooks := .later }
def MoveFlowsUptoCardSaid : Prop := Claim7.holds Tryd.pinned (.plain (OpenSpec.upto moveFlowsSpec)) moveFlowsUptoCard
end Rows
end Go.Proofs.YtohdldlagkmcnaaDoor
