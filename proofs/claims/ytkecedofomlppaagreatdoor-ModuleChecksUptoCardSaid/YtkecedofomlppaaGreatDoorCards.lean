/-
  DERIVED. GIVEN WITH THE SEED: THE CARDS: each row of YtkecedofomlppaaGreatDoorRows.lean that lists a variable, with what it lists TIED to the program's text (the seventh form; the later family's looks); each row that meets fmt, with fmt's text TOLD by the authors' own Lean function (tested against real Go, not proved from fmt's source: count such statements apart). THE CARD IS WHAT COUNTS. Prove the row's statement (the work); the ties are given (YtkecedofomlppaaGreatDoorTie.lean); close each card by the builder's one call (the guide's Derived/Test/ToyasCard.lean, 'card_holds'). Laid BY PROGRAM, IN A SANDBOX (cutbox-door.mjs). By AI agents, Wed Nov 11 2026. No macro, syntax, notation, axiom, sorry.
-/
import Derived.Test.YtkecedofomlppaaGreatDoorRows
import GoSem.ClaimSeven
namespace Go.Proofs.YtkecedofomlppaaGreatDoor
namespace Rows

/-- THE TIED CARD OF 'pandectlaw10.ModuleParses'. -/
def moduleParsesCard : Claim7 := { stood := { row := moduleParsesRow, standIns := [], harness := (true, "1927d9ecc4876661dbec9d347015258de53ee9fa9b5cd63d81aa3d776e0450c7"), looks := true }, kinds := [], alts := [], laidByText := true, laidKinds := [.data, .data, .data, .data, .sentinel, .sentinel, .pinned], laidTests := true, laidLooks := .later }
def ModuleParsesCardSaid : Prop := Claim7.holds Tryz.pinned (.plain (OpenSpec.ofChange moduleParsesSpec)) moduleParsesCard

/-- THE TIED CARD OF 'pandectlaw10.ModuleChecks'. -/
def moduleChecksCard : Claim7 := { stood := { row := moduleChecksRow, standIns := [], harness := (true, "1927d9ecc4876661dbec9d347015258de53ee9fa9b5cd63d81aa3d776e0450c7"), looks := true }, kinds := [], alts := [], laidByText := true, laidKinds := [.data, .data, .data, .data, .sentinel, .sentinel, .pinned], laidTests := true, laidLooks := .later }
def ModuleChecksCardSaid : Prop := Claim7.holds Tryz.pinned (.plain (OpenSpec.ofChange moduleChecksSpec)) moduleChecksCard

/-- THE TIED CARD OF 'pandectlaw10.ModuleWritten'. -/
def moduleWrittenCard : Claim7 := { stood := { row := moduleWrittenRow, standIns := [], harness := (true, "1927d9ecc4876661dbec9d347015258de53ee9fa9b5cd63d81aa3d776e0450c7"), looks := true }, kinds := [], alts := [], laidByText := true, laidKinds := [.data, .data, .data, .data, .sentinel, .sentinel, .pinned], laidTests := true, laidLooks := .later }
def ModuleWrittenCardSaid : Prop := Claim7.holds Tryz.pinned (.plain (OpenSpec.ofChange moduleWrittenSpec)) moduleWrittenCard

/-- THE TIED CARD OF 'pandectlaw10.ModuleMore'. -/
def moduleMoreCard : Claim7 := { stood := { row := moduleMoreRow, standIns := [], harness := (true, "1927d9ecc4876661dbec9d347015258de53ee9fa9b5cd63d81aa3d776e0450c7"), looks := true }, kinds := [], alts := [], laidByText := true, laidKinds := [.data, .data, .data, .data, .sentinel, .sentinel, .pinned], laidTests := true, laidLooks := .later }
def ModuleMoreCardSaid : Prop := Claim7.holds Tryz.pinned (.plain (OpenSpec.ofChange moduleMoreSpec)) moduleMoreCard

/-- THE TIED CARD OF 'pandectlaw34.UsageUses'. -/
def usageUsesCard : Claim7 := { stood := { row := usageUsesRow, standIns := [], harness := (true, "1927d9ecc4876661dbec9d347015258de53ee9fa9b5cd63d81aa3d776e0450c7"), looks := true }, kinds := [], alts := [], laidByText := true, laidKinds := [.data, .data, .data, .data, .sentinel, .sentinel, .pinned], laidTests := true, laidLooks := .later }
def UsageUsesCardSaid : Prop := Claim7.holds Tryz.pinned (.plain (OpenSpec.ofChange usageUsesSpec)) usageUsesCard

/-- THE TIED CARD OF 'pandectlaw34.UsageNeeds'. -/
def usageNeedsCard : Claim7 := { stood := { row := usageNeedsRow, standIns := [], harness := (true, "1927d9ecc4876661dbec9d347015258de53ee9fa9b5cd63d81aa3d776e0450c7"), looks := true }, kinds := [], alts := [], laidByText := true, laidKinds := [.data, .data, .data, .data, .sentinel, .sentinel, .pinned], laidTests := true, laidLooks := .later }
def UsageNeedsCardSaid : Prop := Claim7.holds Tryz.pinned (.plain (OpenSpec.ofChange usageNeedsSpec)) usageNeedsCard

/-- THE TIED CARD OF 'pandectlaw34.UsageFinds'. -/
def usageFindsCard : Claim7 := { stood := { row := usageFindsRow, standIns := [], harness := (true, "1927d9ecc4876661dbec9d347015258de53ee9fa9b5cd63d81aa3d776e0450c7"), looks := true }, kinds := [], alts := [], laidByText := true, laidKinds := [.data, .data, .data, .data, .sentinel, .sentinel, .pinned], laidTests := true, laidLooks := .later }
def UsageFindsCardSaid : Prop := Claim7.holds Tryz.pinned (.plain (OpenSpec.ofChange usageFindsSpec)) usageFindsCard

/-- THE SECOND FORM's CARD OF 'pandectlaw10.ModuleParses'. -/
def moduleParsesUptoCard : Claim7 := { stood := { row := moduleParsesUptoRow, standIns := [], harness := (true, "1927d9ecc4876661dbec9d347015258de53ee9fa9b5cd63d81aa3d776e0450c7"), looks := true }, kinds := [], alts := [], laidByText := true, laidKinds := [.data, .data, .data, .data, .sentinel, .sentinel, .pinned], laidTests := true, laidLooks := .later }
def ModuleParsesUptoCardSaid : Prop := Claim7.holds Tryz.pinned (.plain (OpenSpec.upto moduleParsesSpec)) moduleParsesUptoCard

/-- THE SECOND FORM's CARD OF 'pandectlaw10.ModuleChecks'. -/
def moduleChecksUptoCard : Claim7 := { stood := { row := moduleChecksUptoRow, standIns := [], harness := (true, "1927d9ecc4876661dbec9d347015258de53ee9fa9b5cd63d81aa3d776e0450c7"), looks := true }, kinds := [], alts := [], laidByText := true, laidKinds := [.data, .data, .data, .data, .sentinel, .sentinel, .pinned], laidTests := true, laidLooks := .later }
def ModuleChecksUptoCardSaid : Prop := Claim7.holds Tryz.pinned (.plain (OpenSpec.upto moduleChecksSpec)) moduleChecksUptoCard

/-- THE SECOND FORM's CARD OF 'pandectlaw10.ModuleWritten'. -/
def moduleWrittenUptoCard : Claim7 := { stood := { row := moduleWrittenUptoRow, standIns := [], harness := (true, "1927d9ecc4876661dbec9d347015258de53ee9fa9b5cd63d81aa3d776e0450c7"), looks := true }, kinds := [], alts := [], laidByText := true, laidKinds := [.data, .data, .data, .data, .sentinel, .sentinel, .pinned], laidTests := true, laidLooks := .later }
def ModuleWrittenUptoCardSaid : Prop := Claim7.holds Tryz.pinned (.plain (OpenSpec.upto moduleWrittenSpec)) moduleWrittenUptoCard

/-- THE SECOND FORM's CARD OF 'pandectlaw10.ModuleMore'. -/
def moduleMoreUptoCard : Claim7 := { stood := { row := moduleMoreUptoRow, standIns := [], harness := (true, "1927d9ecc4876661dbec9d347015258de53ee9fa9b5cd63d81aa3d776e0450c7"), looks := true }, kinds := [], alts := [], laidByText := true, laidKinds := [.data, .data, .data, .data, .sentinel, .sentinel, .pinned], laidTests := true, laidLooks := .later }
def ModuleMoreUptoCardSaid : Prop := Claim7.holds Tryz.pinned (.plain (OpenSpec.upto moduleMoreSpec)) moduleMoreUptoCard

/-- THE SECOND FORM's CARD OF 'pandectlaw34.UsageUses'. -/
def usageUsesUptoCard : Claim7 := { stood := { row := usageUsesUptoRow, standIns := [], harness := (true, "1927d9ecc4876661dbec9d347015258de53ee9fa9b5cd63d81aa3d776e0450c7"), looks := true }, kinds := [], alts := [], laidByText := true, laidKinds := [.data, .data, .data, .data, .sentinel, .sentinel, .pinned], laidTests := true, laidLooks := .later }
def UsageUsesUptoCardSaid : Prop := Claim7.holds Tryz.pinned (.plain (OpenSpec.upto usageUsesSpec)) usageUsesUptoCard

/-- THE SECOND FORM's CARD OF 'pandectlaw34.UsageNeeds'. -/
def usageNeedsUptoCard : Claim7 := { stood := { row := usageNeedsUptoRow, standIns := [], harness := (true, "1927d9ecc4876661dbec9d347015258de53ee9fa9b5cd63d81aa3d776e0450c7"), looks := true }, kinds := [], alts := [], laidByText := true, laidKinds := [.data, .data, .data, .data, .sentinel, .sentinel, .pinned], laidTests := true, laidLooks := .later }
def UsageNeedsUptoCardSaid : Prop := Claim7.holds Tryz.pinned (.plain (OpenSpec.upto usageNeedsSpec)) usageNeedsUptoCard

/-- THE SECOND FORM's CARD OF 'pandectlaw34.UsageFinds'. -/
def usageFindsUptoCard : Claim7 := { stood := { row := usageFindsUptoRow, standIns := [], harness := (true, "1927d9ecc4876661dbec9d347015258de53ee9fa9b5cd63d81aa3d776e0450c7"), looks := true }, kinds := [], alts := [], laidByText := true, laidKinds := [.data, .data, .data, .data, .sentinel, .sentinel, .pinned], laidTests := true, laidLooks := .later }
def UsageFindsUptoCardSaid : Prop := Claim7.holds Tryz.pinned (.plain (OpenSpec.upto usageFindsSpec)) usageFindsUptoCard
end Rows
end Go.Proofs.YtkecedofomlppaaGreatDoor
