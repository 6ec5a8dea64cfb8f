/-
  DERIVED. GIVEN WITH THE SEED: THE CARDS: each row of YtalkpiobgooadaaGreatDoorRows.lean that lists a variable, with what it lists TIED to the program's text (the seventh form; the later family's looks); each row that meets fmt, with fmt's text TOLD by the authors' own Lean function (tested against real Go, not proved from fmt's source: count such statements apart). THE CARD IS WHAT COUNTS. Prove the row's statement (the work); the ties are given (YtalkpiobgooadaaGreatDoorTie.lean); close each card by the builder's one call (the guide's Derived/Test/ToyasCard.lean, 'card_holds'). Laid BY PROGRAM, IN A SANDBOX (cutbox-door.mjs). By AI agents, Wed Nov 11 2026. No macro, syntax, notation, axiom, sorry.
-/
import Derived.Test.YtalkpiobgooadaaGreatDoorRows
import GoSem.ClaimSeven
namespace Go.Proofs.YtalkpiobgooadaaGreatDoor
namespace Rows

/-- THE TIED CARD OF 'pandectlaw30.EvalPrograms'. -/
def evalProgramsCard : Claim7 := { stood := { row := evalProgramsRow, standIns := [], harness := (true, "6f1781c50bd8d6db8881f89fee3997cac1ec1d9f1555bd7fef985ce6a5af5680"), looks := true }, kinds := [], alts := [], laidByText := true, laidKinds := [.data, .data, .data, .data, .sentinel, .sentinel, .pinned], laidTests := true, laidLooks := .later }
def EvalProgramsCardSaid : Prop := Claim7.holds Tryz.pinned (.plain (OpenSpec.ofChange evalProgramsSpec)) evalProgramsCard

/-- THE TIED CARD OF 'pandectlaw30.EvalSteps'. -/
def evalStepsCard : Claim7 := { stood := { row := evalStepsRow, standIns := [], harness := (true, "6f1781c50bd8d6db8881f89fee3997cac1ec1d9f1555bd7fef985ce6a5af5680"), looks := true }, kinds := [], alts := [], laidByText := true, laidKinds := [.data, .data, .data, .data, .sentinel, .sentinel, .pinned], laidTests := true, laidLooks := .later }
def EvalStepsCardSaid : Prop := Claim7.holds Tryz.pinned (.plain (OpenSpec.ofChange evalStepsSpec)) evalStepsCard

/-- THE TIED CARD OF 'pandectlaw30.EvalMore'. -/
def evalMoreCard : Claim7 := { stood := { row := evalMoreRow, standIns := [], harness := (true, "6f1781c50bd8d6db8881f89fee3997cac1ec1d9f1555bd7fef985ce6a5af5680"), looks := true }, kinds := [], alts := [], laidByText := true, laidKinds := [.data, .data, .data, .data, .sentinel, .sentinel, .pinned], laidTests := true, laidLooks := .later }
def EvalMoreCardSaid : Prop := Claim7.holds Tryz.pinned (.plain (OpenSpec.ofChange evalMoreSpec)) evalMoreCard

/-- THE SECOND FORM's CARD OF 'pandectlaw30.EvalPrograms'. -/
def evalProgramsUptoCard : Claim7 := { stood := { row := evalProgramsUptoRow, standIns := [], harness := (true, "6f1781c50bd8d6db8881f89fee3997cac1ec1d9f1555bd7fef985ce6a5af5680"), looks := true }, kinds := [], alts := [], laidByText := true, laidKinds := [.data, .data, .data, .data, .sentinel, .sentinel, .pinned], laidTests := true, laidLooks := .later }
def EvalProgramsUptoCardSaid : Prop := Claim7.holds Tryz.pinned (.plain (OpenSpec.upto evalProgramsSpec)) evalProgramsUptoCard

/-- THE SECOND FORM's CARD OF 'pandectlaw30.EvalSteps'. -/
def evalStepsUptoCard : Claim7 := { stood := { row := evalStepsUptoRow, standIns := [], harness := (true, "6f1781c50bd8d6db8881f89fee3997cac1ec1d9f1555bd7fef985ce6a5af5680"), looks := true }, kinds := [], alts := [], laidByText := true, laidKinds := [.data, .data, .data, .data, .sentinel, .sentinel, .pinned], laidTests := true, laidLooks := .later }
def EvalStepsUptoCardSaid : Prop := Claim7.holds Tryz.pinned (.plain (OpenSpec.upto evalStepsSpec)) evalStepsUptoCard

/-- THE SECOND FORM's CARD OF 'pandectlaw30.EvalMore'. -/
def evalMoreUptoCard : Claim7 := { stood := { row := evalMoreUptoRow, standIns := [], harness := (true, "6f1781c50bd8d6db8881f89fee3997cac1ec1d9f1555bd7fef985ce6a5af5680"), looks := true }, kinds := [], alts := [], laidByText := true, laidKinds := [.data, .data, .data, .data, .sentinel, .sentinel, .pinned], laidTests := true, laidLooks := .later }
def EvalMoreUptoCardSaid : Prop := Claim7.holds Tryz.pinned (.plain (OpenSpec.upto evalMoreSpec)) evalMoreUptoCard
end Rows
end Go.Proofs.YtalkpiobgooadaaGreatDoor
