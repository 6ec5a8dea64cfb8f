/-
  DERIVED. GIVEN WITH THE SEED: THE CARDS: each row of YtlhofbjllomgiaaGreatDoorRows.lean that lists a variable, with what it lists TIED to the program's text (the seventh form; the later family's looks); each row that meets fmt, with fmt's text TOLD by the authors' own Lean function (tested against real Go, not proved from fmt's source: count such statements apart). THE CARD IS WHAT COUNTS. Prove the row's statement (the work); the ties are given (YtlhofbjllomgiaaGreatDoorTie.lean); close each card by the builder's one call (the guide's Derived/Test/ToyasCard.lean, 'card_holds'). Laid BY PROGRAM, IN A SANDBOX (cutbox-door.mjs). By AI agents, Wed Nov 11 2026. No macro, syntax, notation, axiom, sorry.
-/
import Derived.Test.YtlhofbjllomgiaaGreatDoorRows
import GoSem.ClaimSeven
namespace Go.Proofs.YtlhofbjllomgiaaGreatDoor
namespace Rows

/-- THE TIED CARD OF 'pandectlaw15.CheckOrder'. -/
def checkOrderCard : Claim7 := { stood := { row := checkOrderRow, standIns := [], harness := (true, "2834c69a86fd993b9f8c20f1e69764e3511d702f6554e6b823e53b2497f7fa77"), looks := true }, kinds := [], alts := [], laidByText := true, laidKinds := [.data, .data, .data, .data, .sentinel, .sentinel, .pinned], laidTests := true, laidLooks := .later }
def CheckOrderCardSaid : Prop := Claim7.holds Tryz.pinned (.plain (OpenSpec.ofChange checkOrderSpec)) checkOrderCard

/-- THE TIED CARD OF 'pandectlaw34.UsageEnough'. -/
def usageEnoughCard : Claim7 := { stood := { row := usageEnoughRow, standIns := [], harness := (true, "2834c69a86fd993b9f8c20f1e69764e3511d702f6554e6b823e53b2497f7fa77"), looks := true }, kinds := [], alts := [], laidByText := true, laidKinds := [.data, .data, .data, .data, .sentinel, .sentinel, .pinned], laidTests := true, laidLooks := .later }
def UsageEnoughCardSaid : Prop := Claim7.holds Tryz.pinned (.plain (OpenSpec.ofChange usageEnoughSpec)) usageEnoughCard

/-- THE TIED CARD OF 'pandectlaw34.UsageIdle'. -/
def usageIdleCard : Claim7 := { stood := { row := usageIdleRow, standIns := [], harness := (true, "2834c69a86fd993b9f8c20f1e69764e3511d702f6554e6b823e53b2497f7fa77"), looks := true }, kinds := [], alts := [], laidByText := true, laidKinds := [.data, .data, .data, .data, .sentinel, .sentinel, .pinned], laidTests := true, laidLooks := .later }
def UsageIdleCardSaid : Prop := Claim7.holds Tryz.pinned (.plain (OpenSpec.ofChange usageIdleSpec)) usageIdleCard

/-- THE SECOND FORM's CARD OF 'pandectlaw15.CheckOrder'. -/
def checkOrderUptoCard : Claim7 := { stood := { row := checkOrderUptoRow, standIns := [], harness := (true, "2834c69a86fd993b9f8c20f1e69764e3511d702f6554e6b823e53b2497f7fa77"), looks := true }, kinds := [], alts := [], laidByText := true, laidKinds := [.data, .data, .data, .data, .sentinel, .sentinel, .pinned], laidTests := true, laidLooks := .later }
def CheckOrderUptoCardSaid : Prop := Claim7.holds Tryz.pinned (.plain (OpenSpec.upto checkOrderSpec)) checkOrderUptoCard

/-- THE SECOND FORM's CARD OF 'pandectlaw34.UsageEnough'. -/
def usageEnoughUptoCard : Claim7 := { stood := { row := usageEnoughUptoRow, standIns := [], harness := (true, "2834c69a86fd993b9f8c20f1e69764e3511d702f6554e6b823e53b2497f7fa77"), looks := true }, kinds := [], alts := [], laidByText := true, laidKinds := [.data, .data, .data, .data, .sentinel, .sentinel, .pinned], laidTests := true, laidLooks := .later }
def UsageEnoughUptoCardSaid : Prop := Claim7.holds Tryz.pinned (.plain (OpenSpec.upto usageEnoughSpec)) usageEnoughUptoCard

/-- THE SECOND FORM's CARD OF 'pandectlaw34.UsageIdle'. -/
def usageIdleUptoCard : Claim7 := { stood := { row := usageIdleUptoRow, standIns := [], harness := (true, "2834c69a86fd993b9f8c20f1e69764e3511d702f6554e6b823e53b2497f7fa77"), looks := true }, kinds := [], alts := [], laidByText := true, laidKinds := [.data, .data, .data, .data, .sentinel, .sentinel, .pinned], laidTests := true, laidLooks := .later }
def UsageIdleUptoCardSaid : Prop := Claim7.holds Tryz.pinned (.plain (OpenSpec.upto usageIdleSpec)) usageIdleUptoCard
end Rows
end Go.Proofs.YtlhofbjllomgiaaGreatDoor
