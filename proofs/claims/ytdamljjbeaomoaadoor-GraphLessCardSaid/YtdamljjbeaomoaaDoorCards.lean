/-
  DERIVED. GIVEN WITH THE SEED: THE CARDS: each row of YtdamljjbeaomoaaDoorRows.lean that lists a variable, with what it lists TIED to the program's text (the seventh form; the later family's looks); each row that meets fmt, with fmt's text TOLD by the authors' own Lean function (tested against real Go, not proved from fmt's source: count such statements apart). THE CARD IS WHAT COUNTS. Prove the row's statement (the work); the ties are given (YtdamljjbeaomoaaDoorTie.lean); close each card by the builder's one call (the guide's Derived/Test/ToyasCard.lean, 'card_holds'). Laid BY PROGRAM, IN A SANDBOX (cutbox-door.mjs). By AI agents, Wed Nov 11 2026. No macro, syntax, notation, axiom, sorry.
-/
import Derived.Test.YtdamljjbeaomoaaDoorRows
import GoSem.ClaimSeven
namespace Go.Proofs.YtdamljjbeaomoaaDoor
namespace Rows

/-- THE TIED CARD OF 'forepeaklaw11.GraphTells'. -/
def graphTellsCard : Claim7 := { stood := { row := graphTellsRow, standIns := [], harness := (true, "a8b3e859772029e0449c63291e2a58544dfd65cf4861779276bf938e9b0e5243"), looks := false }, kinds := [], alts := [], laidByText := true, laidKinds := [.data], laidTests := true, laidLooks := .later }
def GraphTellsCardSaid : Prop := Claim7.holds Tryd.pinned (.plain (OpenSpec.ofChange graphTellsSpec)) graphTellsCard

/-- THE TIED CARD OF 'forepeaklaw11.GraphTurns'. -/
def graphTurnsCard : Claim7 := { stood := { row := graphTurnsRow, standIns := [], harness := (true, "a8b3e859772029e0449c63291e2a58544dfd65cf4861779276bf938e9b0e5243"), looks := false }, kinds := [], alts := [], laidByText := true, laidKinds := [.data], laidTests := true, laidLooks := .later }
def GraphTurnsCardSaid : Prop := Claim7.holds Tryd.pinned (.plain (OpenSpec.ofChange graphTurnsSpec)) graphTurnsCard

/-- THE TIED CARD OF 'forepeaklaw11.GraphOrder'. -/
def graphOrderCard : Claim7 := { stood := { row := graphOrderRow, standIns := [], harness := (true, "a8b3e859772029e0449c63291e2a58544dfd65cf4861779276bf938e9b0e5243"), looks := false }, kinds := [], alts := [], laidByText := true, laidKinds := [.data], laidTests := true, laidLooks := .later }
def GraphOrderCardSaid : Prop := Claim7.holds Tryd.pinned (.plain (OpenSpec.ofChange graphOrderSpec)) graphOrderCard

/-- THE TIED CARD OF 'forepeaklaw11.GraphLess'. -/
def graphLessCard : Claim7 := { stood := { row := graphLessRow, standIns := [], harness := (true, "a8b3e859772029e0449c63291e2a58544dfd65cf4861779276bf938e9b0e5243"), looks := false }, kinds := [], alts := [], laidByText := true, laidKinds := [.data], laidTests := true, laidLooks := .later }
def GraphLessCardSaid : Prop := Claim7.holds Tryd.pinned (.plain (OpenSpec.ofChange graphLessSpec)) graphLessCard

/-- THE SECOND FORM's CARD OF 'forepeaklaw11.GraphTells'. -/
def graphTellsUptoCard : Claim7 := { stood := { row := graphTellsUptoRow, standIns := [], harness := (true, "a8b3e859772029e0449c63291e2a58544dfd65cf4861779276bf938e9b0e5243"), looks := false }, kinds := [], alts := [], laidByText := true, laidKinds := [.data], laidTests := true, laidLooks := .later }
def GraphTellsUptoCardSaid : Prop := Claim7.holds Tryd.pinned (.plain (OpenSpec.upto graphTellsSpec)) graphTellsUptoCard

/-- THE SECOND FORM's CARD OF 'forepeaklaw11.GraphTurns'. -/
def graphTurnsUptoCard : Claim7 := { stood := { row := graphTurnsUptoRow, standIns := [], harness := (true, "a8b3e859772029e0449c63291e2a58544dfd65cf4861779276bf938e9b0e5243"), looks := false }, kinds := [], alts := [], laidByText := true, laidKinds := [.data], laidTests := true, laidLooks := .later }
def GraphTurnsUptoCardSaid : Prop := Claim7.holds Tryd.pinned (.plain (OpenSpec.upto graphTurnsSpec)) graphTurnsUptoCard

/-- THE SECOND FORM's CARD OF 'forepeaklaw11.GraphOrder'. -/
def graphOrderUptoCard : Claim7 := { stood := { row := graphOrderUptoRow, standIns := [], harness := (true, "a8b3e859772029e0449c63291e2a58544dfd65cf4861779276bf938e9b0e5243"), looks := false }, kinds := [], alts := [], laidByText := true, laidKinds := [.data], laidTests := true, laidLooks := .later }
def GraphOrderUptoCardSaid : Prop := Claim7.holds Tryd.pinned (.plain (OpenSpec.upto graphOrderSpec)) graphOrderUptoCard

/-- THE SECOND FORM's CARD OF 'forepeaklaw11.GraphLess'. -/
def graphLessUptoCard : Claim7 := { stood := { row := graphLessUptoRow, standIns := [], harness := (true, "a8b3e859772029e0449c63291e2a58544dfd65cf4861779276bf938e9b0e5243"), looks := false }, kinds := [], alts := [], laidByText := true, laidKinds := [.data], laidTests := true, laidLooks := .later }
def GraphLessUptoCardSaid : Prop := Claim7.holds Tryd.pinned (.plain (OpenSpec.upto graphLessSpec)) graphLessUptoCard
end Rows
end Go.Proofs.YtdamljjbeaomoaaDoor
