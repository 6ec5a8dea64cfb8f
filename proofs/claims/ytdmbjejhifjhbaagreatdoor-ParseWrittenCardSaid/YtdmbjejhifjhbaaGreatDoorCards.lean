/-
  DERIVED. GIVEN WITH THE SEED: THE CARDS: each row of YtdmbjejhifjhbaaGreatDoorRows.lean that lists a variable, with what it lists TIED to the program's text (the seventh form; the later family's looks); each row that meets fmt, with fmt's text TOLD by the authors' own Lean function (tested against real Go, not proved from fmt's source: count such statements apart). THE CARD IS WHAT COUNTS. Prove the row's statement (the work); the ties are given (YtdmbjejhifjhbaaGreatDoorTie.lean); close each card by the builder's one call (the guide's Derived/Test/ToyasCard.lean, 'card_holds'). Laid BY PROGRAM, IN A SANDBOX (cutbox-door.mjs). By AI agents, Wed Nov 11 2026. No macro, syntax, notation, axiom, sorry.
-/
import Derived.Test.YtdmbjejhifjhbaaGreatDoorRows
import GoSem.ClaimSeven
namespace Go.Proofs.YtdmbjejhifjhbaaGreatDoor
namespace Rows

/-- THE TIED CARD OF 'pandectlaw09.ParseTypes'. -/
def parseTypesCard : Claim7 := { stood := { row := parseTypesRow, standIns := [], harness := (true, "10c8fbed2ec77c0c0f875dcdcf56a963afc4f44a41f43bf561d509a89c653f7c"), looks := true }, kinds := [], alts := [], laidByText := true, laidKinds := [.data, .data, .data, .data, .sentinel, .sentinel, .pinned], laidTests := true, laidLooks := .later }
def ParseTypesCardSaid : Prop := Claim7.holds Tryz.pinned (.plain (OpenSpec.ofChange parseTypesSpec)) parseTypesCard

/-- THE TIED CARD OF 'pandectlaw09.ParseTerms'. -/
def parseTermsCard : Claim7 := { stood := { row := parseTermsRow, standIns := [], harness := (true, "10c8fbed2ec77c0c0f875dcdcf56a963afc4f44a41f43bf561d509a89c653f7c"), looks := true }, kinds := [], alts := [], laidByText := true, laidKinds := [.data, .data, .data, .data, .sentinel, .sentinel, .pinned], laidTests := true, laidLooks := .later }
def ParseTermsCardSaid : Prop := Claim7.holds Tryz.pinned (.plain (OpenSpec.ofChange parseTermsSpec)) parseTermsCard

/-- THE TIED CARD OF 'pandectlaw09.ParseTexts'. -/
def parseTextsCard : Claim7 := { stood := { row := parseTextsRow, standIns := [], harness := (true, "10c8fbed2ec77c0c0f875dcdcf56a963afc4f44a41f43bf561d509a89c653f7c"), looks := true }, kinds := [], alts := [], laidByText := true, laidKinds := [.data, .data, .data, .data, .sentinel, .sentinel, .pinned], laidTests := true, laidLooks := .later }
def ParseTextsCardSaid : Prop := Claim7.holds Tryz.pinned (.plain (OpenSpec.ofChange parseTextsSpec)) parseTextsCard

/-- THE TIED CARD OF 'pandectlaw09.ParsePlaces'. -/
def parsePlacesCard : Claim7 := { stood := { row := parsePlacesRow, standIns := [], harness := (true, "10c8fbed2ec77c0c0f875dcdcf56a963afc4f44a41f43bf561d509a89c653f7c"), looks := true }, kinds := [], alts := [], laidByText := true, laidKinds := [.data, .data, .data, .data, .sentinel, .sentinel, .pinned], laidTests := true, laidLooks := .later }
def ParsePlacesCardSaid : Prop := Claim7.holds Tryz.pinned (.plain (OpenSpec.ofChange parsePlacesSpec)) parsePlacesCard

/-- THE TIED CARD OF 'pandectlaw09.ParseAround'. -/
def parseAroundCard : Claim7 := { stood := { row := parseAroundRow, standIns := [], harness := (true, "10c8fbed2ec77c0c0f875dcdcf56a963afc4f44a41f43bf561d509a89c653f7c"), looks := true }, kinds := [], alts := [], laidByText := true, laidKinds := [.data, .data, .data, .data, .sentinel, .sentinel, .pinned], laidTests := true, laidLooks := .later }
def ParseAroundCardSaid : Prop := Claim7.holds Tryz.pinned (.plain (OpenSpec.ofChange parseAroundSpec)) parseAroundCard

/-- THE TIED CARD OF 'pandectlaw09.ParseWritten'. -/
def parseWrittenCard : Claim7 := { stood := { row := parseWrittenRow, standIns := [], harness := (true, "10c8fbed2ec77c0c0f875dcdcf56a963afc4f44a41f43bf561d509a89c653f7c"), looks := true }, kinds := [], alts := [], laidByText := true, laidKinds := [.data, .data, .data, .data, .sentinel, .sentinel, .pinned], laidTests := true, laidLooks := .later }
def ParseWrittenCardSaid : Prop := Claim7.holds Tryz.pinned (.plain (OpenSpec.ofChange parseWrittenSpec)) parseWrittenCard

/-- THE SECOND FORM's CARD OF 'pandectlaw09.ParseTypes'. -/
def parseTypesUptoCard : Claim7 := { stood := { row := parseTypesUptoRow, standIns := [], harness := (true, "10c8fbed2ec77c0c0f875dcdcf56a963afc4f44a41f43bf561d509a89c653f7c"), looks := true }, kinds := [], alts := [], laidByText := true, laidKinds := [.data, .data, .data, .data, .sentinel, .sentinel, .pinned], laidTests := true, laidLooks := .later }
def ParseTypesUptoCardSaid : Prop := Claim7.holds Tryz.pinned (.plain (OpenSpec.upto parseTypesSpec)) parseTypesUptoCard

/-- THE SECOND FORM's CARD OF 'pandectlaw09.ParseTerms'. -/
def parseTermsUptoCard : Claim7 := { stood := { row := parseTermsUptoRow, standIns := [], harness := (true, "10c8fbed2ec77c0c0f875dcdcf56a963afc4f44a41f43bf561d509a89c653f7c"), looks := true }, kinds := [], alts := [], laidByText := true, laidKinds := [.data, .data, .data, .data, .sentinel, .sentinel, .pinned], laidTests := true, laidLooks := .later }
def ParseTermsUptoCardSaid : Prop := Claim7.holds Tryz.pinned (.plain (OpenSpec.upto parseTermsSpec)) parseTermsUptoCard

/-- THE SECOND FORM's CARD OF 'pandectlaw09.ParseTexts'. -/
def parseTextsUptoCard : Claim7 := { stood := { row := parseTextsUptoRow, standIns := [], harness := (true, "10c8fbed2ec77c0c0f875dcdcf56a963afc4f44a41f43bf561d509a89c653f7c"), looks := true }, kinds := [], alts := [], laidByText := true, laidKinds := [.data, .data, .data, .data, .sentinel, .sentinel, .pinned], laidTests := true, laidLooks := .later }
def ParseTextsUptoCardSaid : Prop := Claim7.holds Tryz.pinned (.plain (OpenSpec.upto parseTextsSpec)) parseTextsUptoCard

/-- THE SECOND FORM's CARD OF 'pandectlaw09.ParsePlaces'. -/
def parsePlacesUptoCard : Claim7 := { stood := { row := parsePlacesUptoRow, standIns := [], harness := (true, "10c8fbed2ec77c0c0f875dcdcf56a963afc4f44a41f43bf561d509a89c653f7c"), looks := true }, kinds := [], alts := [], laidByText := true, laidKinds := [.data, .data, .data, .data, .sentinel, .sentinel, .pinned], laidTests := true, laidLooks := .later }
def ParsePlacesUptoCardSaid : Prop := Claim7.holds Tryz.pinned (.plain (OpenSpec.upto parsePlacesSpec)) parsePlacesUptoCard

/-- THE SECOND FORM's CARD OF 'pandectlaw09.ParseAround'. -/
def parseAroundUptoCard : Claim7 := { stood := { row := parseAroundUptoRow, standIns := [], harness := (true, "10c8fbed2ec77c0c0f875dcdcf56a963afc4f44a41f43bf561d509a89c653f7c"), looks := true }, kinds := [], alts := [], laidByText := true, laidKinds := [.data, .data, .data, .data, .sentinel, .sentinel, .pinned], laidTests := true, laidLooks := .later }
def ParseAroundUptoCardSaid : Prop := Claim7.holds Tryz.pinned (.plain (OpenSpec.upto parseAroundSpec)) parseAroundUptoCard

/-- THE SECOND FORM's CARD OF 'pandectlaw09.ParseWritten'. -/
def parseWrittenUptoCard : Claim7 := { stood := { row := parseWrittenUptoRow, standIns := [], harness := (true, "10c8fbed2ec77c0c0f875dcdcf56a963afc4f44a41f43bf561d509a89c653f7c"), looks := true }, kinds := [], alts := [], laidByText := true, laidKinds := [.data, .data, .data, .data, .sentinel, .sentinel, .pinned], laidTests := true, laidLooks := .later }
def ParseWrittenUptoCardSaid : Prop := Claim7.holds Tryz.pinned (.plain (OpenSpec.upto parseWrittenSpec)) parseWrittenUptoCard
end Rows
end Go.Proofs.YtdmbjejhifjhbaaGreatDoor
