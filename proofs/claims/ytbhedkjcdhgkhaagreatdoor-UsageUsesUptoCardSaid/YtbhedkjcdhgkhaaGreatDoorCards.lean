/-
  DERIVED. GIVEN WITH THE SEED: THE CARDS: each row of YtbhedkjcdhgkhaaGreatDoorRows.lean that lists a variable, with what it lists TIED to the program's text (the seventh form; the later family's looks); each row that meets fmt, with fmt's text TOLD by the authors' own Lean function (tested against real Go, not proved from fmt's source: count such statements apart). THE CARD IS WHAT COUNTS. Prove the row's statement (the work); the ties are given (YtbhedkjcdhgkhaaGreatDoorTie.lean); close each card by the builder's one call (the guide's Derived/Test/ToyasCard.lean, 'card_holds'). Laid BY PROGRAM, IN A SANDBOX (cutbox-door.mjs). By AI agents, Wed Nov 11 2026. No macro, syntax, notation, axiom, sorry.
-/
import Derived.Test.YtbhedkjcdhgkhaaGreatDoorRows
import GoSem.ClaimSeven
namespace Go.Proofs.YtbhedkjcdhgkhaaGreatDoor
namespace Rows

/-- THE TIED CARD OF 'pandectlaw34.UsageUses'. -/
def usageUsesCard : Claim7 := { stood := { row := usageUsesRow, standIns := [], harness := (true, "769eb8c22e43a425535afa011d3b7baeef20cac9cf02fb0bfa12838d2c3f6b30"), looks := true }, kinds := [], alts := [], laidByText := true, laidKinds := [.data, .data, .data, .data, .sentinel, .sentinel, .pinned], laidTests := true, laidLooks := .later }
def UsageUsesCardSaid : Prop := Claim7.holds Tryz.pinned (.plain (OpenSpec.ofChange usageUsesSpec)) usageUsesCard

/-- THE TIED CARD OF 'pandectlaw34.UsageNeeds'. -/
def usageNeedsCard : Claim7 := { stood := { row := usageNeedsRow, standIns := [], harness := (true, "769eb8c22e43a425535afa011d3b7baeef20cac9cf02fb0bfa12838d2c3f6b30"), looks := true }, kinds := [], alts := [], laidByText := true, laidKinds := [.data, .data, .data, .data, .sentinel, .sentinel, .pinned], laidTests := true, laidLooks := .later }
def UsageNeedsCardSaid : Prop := Claim7.holds Tryz.pinned (.plain (OpenSpec.ofChange usageNeedsSpec)) usageNeedsCard

/-- THE TIED CARD OF 'pandectlaw34.UsageFinds'. -/
def usageFindsCard : Claim7 := { stood := { row := usageFindsRow, standIns := [], harness := (true, "769eb8c22e43a425535afa011d3b7baeef20cac9cf02fb0bfa12838d2c3f6b30"), looks := true }, kinds := [], alts := [], laidByText := true, laidKinds := [.data, .data, .data, .data, .sentinel, .sentinel, .pinned], laidTests := true, laidLooks := .later }
def UsageFindsCardSaid : Prop := Claim7.holds Tryz.pinned (.plain (OpenSpec.ofChange usageFindsSpec)) usageFindsCard

/-- THE SECOND FORM's CARD OF 'pandectlaw34.UsageUses'. -/
def usageUsesUptoCard : Claim7 := { stood := { row := usageUsesUptoRow, standIns := [], harness := (true, "769eb8c22e43a425535afa011d3b7baeef20cac9cf02fb0bfa12838d2c3f6b30"), looks := true }, kinds := [], alts := [], laidByText := true, laidKinds := [.data, .data, .data, .data, .sentinel, .sentinel, .pinned], laidTests := true, laidLooks := .later }
def UsageUsesUptoCardSaid : Prop := Claim7.holds Tryz.pinned (.plain (OpenSpec.upto usageUsesSpec)) usageUsesUptoCard

/-- THE SECOND FORM's CARD OF 'pandectlaw34.UsageNeeds'. -/
def usageNeedsUptoCard : Claim7 := { stood := { row := usageNeedsUptoRow, standIns := [], harness := (true, "769eb8c22e43a425535afa011d3b7baeef20cac9cf02fb0bfa12838d2c3f6b30"), looks := true }, kinds := [], alts := [], laidByText := true, laidKinds := [.data, .data, .data, .data, .sentinel, .sentinel, .pinned], laidTests := true, laidLooks := .later }
def UsageNeedsUptoCardSaid : Prop := Claim7.holds Tryz.pinned (.plain (OpenSpec.upto usageNeedsSpec)) usageNeedsUptoCard

/-- THE SECOND FORM's CARD OF 'pandectlaw34.UsageFinds'. -/
def usageFindsUptoCard : Claim7 := { stood := { row := usageFindsUptoRow, standIns := [], harness := (true, "769eb8c22e43a425535afa011d3b7baeef20cac9cf02fb0bfa12838d2c3f6b30"), looks := true }, kinds := [], alts := [], laidByText := true, laidKinds := [.data, .data, .data, .data, .sentinel, .sentinel, .pinned], laidTests := true, laidLooks := .later }
def UsageFindsUptoCardSaid : Prop := Claim7.holds Tryz.pinned (.plain (OpenSpec.upto usageFindsSpec)) usageFindsUptoCard
end Rows
end Go.Proofs.YtbhedkjcdhgkhaaGreatDoor
