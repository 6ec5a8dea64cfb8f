/-
  DERIVED. GIVEN WITH THE SEED: THE CARDS: each row of YtgackciebknbeaaGreatDoorRows.lean that lists a variable, with what it lists TIED to the program's text (the seventh form; the later family's looks); each row that meets fmt, with fmt's text TOLD by the authors' own Lean function (tested against real Go, not proved from fmt's source: count such statements apart). THE CARD IS WHAT COUNTS. Prove the row's statement (the work); the ties are given (YtgackciebknbeaaGreatDoorTie.lean); close each card by the builder's one call (the guide's Derived/Test/ToyasCard.lean, 'card_holds'). Laid BY PROGRAM, IN A SANDBOX (cutbox-door.mjs). By AI agents, Wed Nov 11 2026. No macro, syntax, notation, axiom, sorry.
-/
import Derived.Test.YtgackciebknbeaaGreatDoorRows
import GoSem.ClaimSeven
namespace Go.Proofs.YtgackciebknbeaaGreatDoor
namespace Rows

/-- THE TIED CARD OF 'pandectlaw30.EvalLets'. -/
def evalLetsCard : Claim7 := { stood := { row := evalLetsRow, standIns := [], harness := (true, "4486052ca957b28b02d57f6cf2a859be72005534f1e5f5281bc242f1df1370fd"), looks := true }, kinds := [], alts := [], laidByText := true, laidKinds := [.data, .data, .data, .data, .sentinel, .sentinel, .pinned], laidTests := true, laidLooks := .later }
def EvalLetsCardSaid : Prop := Claim7.holds Tryz.pinned (.plain (OpenSpec.ofChange evalLetsSpec)) evalLetsCard

/-- THE TIED CARD OF 'pandectlaw30.EvalValues'. -/
def evalValuesCard : Claim7 := { stood := { row := evalValuesRow, standIns := [], harness := (true, "4486052ca957b28b02d57f6cf2a859be72005534f1e5f5281bc242f1df1370fd"), looks := true }, kinds := [], alts := [], laidByText := true, laidKinds := [.data, .data, .data, .data, .sentinel, .sentinel, .pinned], laidTests := true, laidLooks := .later }
def EvalValuesCardSaid : Prop := Claim7.holds Tryz.pinned (.plain (OpenSpec.ofChange evalValuesSpec)) evalValuesCard

/-- THE SECOND FORM's CARD OF 'pandectlaw30.EvalLets'. -/
def evalLetsUptoCard : Claim7 := { stood := { row := evalLetsUptoRow, standIns := [], harness := (true, "4486052ca957b28b02d57f6cf2a859be72005534f1e5f5281bc242f1df1370fd"), looks := true }, kinds := [], alts := [], laidByText := true, laidKinds := [.data, .data, .data, .data, .sentinel, .sentinel, .pinned], laidTests := true, laidLooks := .later }
def EvalLetsUptoCardSaid : Prop := Claim7.holds Tryz.pinned (.plain (OpenSpec.upto evalLetsSpec)) evalLetsUptoCard

/-- THE SECOND FORM's CARD OF 'pandectlaw30.EvalValues'. -/
def evalValuesUptoCard : Claim7 := { stood := { row := evalValuesUptoRow, standIns := [], harness := (true, "4486052ca957b28b02d57f6cf2a859be72005534f1e5f5281bc242f1df1370fd"), looks := true }, kinds := [], alts := [], laidByText := true, laidKinds := [.data, .data, .data, .data, .sentinel, .sentinel, .pinned], laidTests := true, laidLooks := .later }
def EvalValuesUptoCardSaid : Prop := Claim7.holds Tryz.pinned (.plain (OpenSpec.upto evalValuesSpec)) evalValuesUptoCard
end Rows
end Go.Proofs.YtgackciebknbeaaGreatDoor
