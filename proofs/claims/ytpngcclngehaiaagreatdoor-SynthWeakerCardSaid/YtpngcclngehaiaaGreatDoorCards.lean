/-
  DERIVED. GIVEN WITH THE SEED: THE CARDS: each row of YtpngcclngehaiaaGreatDoorRows.lean that lists a variable, with what it lists TIED to the program's text (the seventh form; the later family's looks); each row that meets fmt, with fmt's text TOLD by the authors' own Lean function (tested against real Go, not proved from fmt's source: count such statements apart). THE CARD IS WHAT COUNTS. Prove the row's statement (the work); the ties are given (YtpngcclngehaiaaGreatDoorTie.lean); close each card by the builder's one call (the guide's Derived/Test/ToyasCard.lean, 'card_holds'). Laid BY PROGRAM, IN A SANDBOX (cutbox-door.mjs). By AI agents, Wed Nov 11 2026. No macro, syntax, notation, axiom, sorry.
-/
import Derived.Test.YtpngcclngehaiaaGreatDoorRows
import GoSem.ClaimSeven
namespace Go.Proofs.YtpngcclngehaiaaGreatDoor
namespace Rows

/-- THE TIED CARD OF 'pandectlaw14.SynthWeaker'. -/
def synthWeakerCard : Claim7 := { stood := { row := synthWeakerRow, standIns := [], harness := (true, "4081cb5befd1f9be1ae88e1efc21e39e6c7524446fc153e28880a5b962cce340"), looks := true }, kinds := [], alts := [], laidByText := true, laidKinds := [.data, .data, .data, .data, .sentinel, .sentinel, .pinned], laidTests := true, laidLooks := .later }
def SynthWeakerCardSaid : Prop := Claim7.holds Tryz.pinned (.plain (OpenSpec.ofChange synthWeakerSpec)) synthWeakerCard

/-- THE SECOND FORM's CARD OF 'pandectlaw14.SynthWeaker'. -/
def synthWeakerUptoCard : Claim7 := { stood := { row := synthWeakerUptoRow, standIns := [], harness := (true, "4081cb5befd1f9be1ae88e1efc21e39e6c7524446fc153e28880a5b962cce340"), looks := true }, kinds := [], alts := [], laidByText := true, laidKinds := [.data, .data, .data, .data, .sentinel, .sentinel, .pinned], laidTests := true, laidLooks := .later }
def SynthWeakerUptoCardSaid : Prop := Claim7.holds Tryz.pinned (.plain (OpenSpec.upto synthWeakerSpec)) synthWeakerUptoCard
end Rows
end Go.Proofs.YtpngcclngehaiaaGreatDoor
