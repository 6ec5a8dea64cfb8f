/-
  DERIVED. GIVEN WITH THE SEED: THE CARDS: each row of YtpiedfeneggkmaaGreatDoorRows.lean that lists a variable, with what it lists TIED to the program's text (the seventh form; the later family's looks); each row that meets fmt, with fmt's text TOLD by the authors' own Lean function (tested against real Go, not proved from fmt's source: count such statements apart). THE CARD IS WHAT COUNTS. Prove the row's statement (the work); the ties are given (YtpiedfeneggkmaaGreatDoorTie.lean); close each card by the builder's one call (the guide's Derived/Test/ToyasCard.lean, 'card_holds'). Laid BY PROGRAM, IN A SANDBOX (cutbox-door.mjs). By AI agents, Wed Nov 11 2026. No macro, syntax, notation, axiom, sorry.
-/
import Derived.Test.YtpiedfeneggkmaaGreatDoorRows
import GoSem.ClaimSeven
namespace Go.Proofs.YtpiedfeneggkmaaGreatDoor
namespace Rows

/-- THE TIED CARD OF 'pandectlaw14.SynthTypes'. -/
def synthTypesCard : Claim7 := { stood := { row := synthTypesRow, standIns := [], harness := (true, "d9d02ede6f17fd42c701daaf494983bebf38d12b170a6644b3e517e5d60dbb66"), looks := true }, kinds := [], alts := [], laidByText := true, laidKinds := [.data, .data, .data, .data, .sentinel, .sentinel, .pinned], laidTests := true, laidLooks := .later }
def SynthTypesCardSaid : Prop := Claim7.holds Tryz.pinned (.plain (OpenSpec.ofChange synthTypesSpec)) synthTypesCard

/-- THE TIED CARD OF 'pandectlaw14.SynthBases'. -/
def synthBasesCard : Claim7 := { stood := { row := synthBasesRow, standIns := [], harness := (true, "d9d02ede6f17fd42c701daaf494983bebf38d12b170a6644b3e517e5d60dbb66"), looks := true }, kinds := [], alts := [], laidByText := true, laidKinds := [.data, .data, .data, .data, .sentinel, .sentinel, .pinned], laidTests := true, laidLooks := .later }
def SynthBasesCardSaid : Prop := Claim7.holds Tryz.pinned (.plain (OpenSpec.ofChange synthBasesSpec)) synthBasesCard

/-- THE TIED CARD OF 'pandectlaw14.SynthMore'. -/
def synthMoreCard : Claim7 := { stood := { row := synthMoreRow, standIns := [], harness := (true, "d9d02ede6f17fd42c701daaf494983bebf38d12b170a6644b3e517e5d60dbb66"), looks := true }, kinds := [], alts := [], laidByText := true, laidKinds := [.data, .data, .data, .data, .sentinel, .sentinel, .pinned], laidTests := true, laidLooks := .later }
def SynthMoreCardSaid : Prop := Claim7.holds Tryz.pinned (.plain (OpenSpec.ofChange synthMoreSpec)) synthMoreCard

/-- THE TIED CARD OF 'pandectlaw14.SynthLets'. -/
def synthLetsCard : Claim7 := { stood := { row := synthLetsRow, standIns := [], harness := (true, "d9d02ede6f17fd42c701daaf494983bebf38d12b170a6644b3e517e5d60dbb66"), looks := true }, kinds := [], alts := [], laidByText := true, laidKinds := [.data, .data, .data, .data, .sentinel, .sentinel, .pinned], laidTests := true, laidLooks := .later }
def SynthLetsCardSaid : Prop := Claim7.holds Tryz.pinned (.plain (OpenSpec.ofChange synthLetsSpec)) synthLetsCard

/-- THE TIED CARD OF 'pandectlaw14.SynthClosed'. -/
def synthClosedCard : Claim7 := { stood := { row := synthClosedRow, standIns := [], harness := (true, "d9d02ede6f17fd42c701daaf494983bebf38d12b170a6644b3e517e5d60dbb66"), looks := true }, kinds := [], alts := [], laidByText := true, laidKinds := [.data, .data, .data, .data, .sentinel, .sentinel, .pinned], laidTests := true, laidLooks := .later }
def SynthClosedCardSaid : Prop := Claim7.holds Tryz.pinned (.plain (OpenSpec.ofChange synthClosedSpec)) synthClosedCard

/-- THE TIED CARD OF 'pandectlaw14.SynthPlaces'. -/
def synthPlacesCard : Claim7 := { stood := { row := synthPlacesRow, standIns := [], harness := (true, "d9d02ede6f17fd42c701daaf494983bebf38d12b170a6644b3e517e5d60dbb66"), looks := true }, kinds := [], alts := [], laidByText := true, laidKinds := [.data, .data, .data, .data, .sentinel, .sentinel, .pinned], laidTests := true, laidLooks := .later }
def SynthPlacesCardSaid : Prop := Claim7.holds Tryz.pinned (.plain (OpenSpec.ofChange synthPlacesSpec)) synthPlacesCard

/-- THE SECOND FORM's CARD OF 'pandectlaw14.SynthTypes'. -/
def synthTypesUptoCard : Claim7 := { stood := { row := synthTypesUptoRow, standIns := [], harness := (true, "d9d02ede6f17fd42c701daaf494983bebf38d12b170a6644b3e517e5d60dbb66"), looks := true }, kinds := [], alts := [], laidByText := true, laidKinds := [.data, .data, .data, .data, .sentinel, .sentinel, .pinned], laidTests := true, laidLooks := .later }
def SynthTypesUptoCardSaid : Prop := Claim7.holds Tryz.pinned (.plain (OpenSpec.upto synthTypesSpec)) synthTypesUptoCard

/-- THE SECOND FORM's CARD OF 'pandectlaw14.SynthBases'. -/
def synthBasesUptoCard : Claim7 := { stood := { row := synthBasesUptoRow, standIns := [], harness := (true, "d9d02ede6f17fd42c701daaf494983bebf38d12b170a6644b3e517e5d60dbb66"), looks := true }, kinds := [], alts := [], laidByText := true, laidKinds := [.data, .data, .data, .data, .sentinel, .sentinel, .pinned], laidTests := true, laidLooks := .later }
def SynthBasesUptoCardSaid : Prop := Claim7.holds Tryz.pinned (.plain (OpenSpec.upto synthBasesSpec)) synthBasesUptoCard

/-- THE SECOND FORM's CARD OF 'pandectlaw14.SynthMore'. -/
def synthMoreUptoCard : Claim7 := { stood := { row := synthMoreUptoRow, standIns := [], harness := (true, "d9d02ede6f17fd42c701daaf494983bebf38d12b170a6644b3e517e5d60dbb66"), looks := true }, kinds := [], alts := [], laidByText := true, laidKinds := [.data, .data, .data, .data, .sentinel, .sentinel, .pinned], laidTests := true, laidLooks := .later }
def SynthMoreUptoCardSaid : Prop := Claim7.holds Tryz.pinned (.plain (OpenSpec.upto synthMoreSpec)) synthMoreUptoCard

/-- THE SECOND FORM's CARD OF 'pandectlaw14.SynthLets'. -/
def synthLetsUptoCard : Claim7 := { stood := { row := synthLetsUptoRow, standIns := [], harness := (true, "d9d02ede6f17fd42c701daaf494983bebf38d12b170a6644b3e517e5d60dbb66"), looks := true }, kinds := [], alts := [], laidByText := true, laidKinds := [.data, .data, .data, .data, .sentinel, .sentinel, .pinned], laidTests := true, laidLooks := .later }
def SynthLetsUptoCardSaid : Prop := Claim7.holds Tryz.pinned (.plain (OpenSpec.upto synthLetsSpec)) synthLetsUptoCard

/-- THE SECOND FORM's CARD OF 'pandectlaw14.SynthClosed'. -/
def synthClosedUptoCard : Claim7 := { stood := { row := synthClosedUptoRow, standIns := [], harness := (true, "d9d02ede6f17fd42c701daaf494983bebf38d12b170a6644b3e517e5d60dbb66"), looks := true }, kinds := [], alts := [], laidByText := true, laidKinds := [.data, .data, .data, .data, .sentinel, .sentinel, .pinned], laidTests := true, laidLooks := .later }
def SynthClosedUptoCardSaid : Prop := Claim7.holds Tryz.pinned (.plain (OpenSpec.upto synthClosedSpec)) synthClosedUptoCard

/-- THE SECOND FORM's CARD OF 'pandectlaw14.SynthPlaces'. -/
def synthPlacesUptoCard : Claim7 := { stood := { row := synthPlacesUptoRow, standIns := [], harness := (true, "d9d02ede6f17fd42c701daaf494983bebf38d12b170a6644b3e517e5d60dbb66"), looks := true }, kinds := [], alts := [], laidByText := true, laidKinds := [.data, .data, .data, .data, .sentinel, .sentinel, .pinned], laidTests := true, laidLooks := .later }
def SynthPlacesUptoCardSaid : Prop := Claim7.holds Tryz.pinned (.plain (OpenSpec.upto synthPlacesSpec)) synthPlacesUptoCard
end Rows
end Go.Proofs.YtpiedfeneggkmaaGreatDoor
