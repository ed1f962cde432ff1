/-
  DERIVED. GIVEN WITH THE SEED: THE CARDS: each row of YtcpbljhogenjoaaGreatDoorRows.lean that lists a variable, with what it lists TIED to the program's text (the seventh form; the later family's looks); each row that meets fmt, with fmt's text TOLD by the authors' own Lean function (tested against real Go, not proved from fmt's source: count such statements apart). THE CARD IS WHAT COUNTS. Prove the row's statement (the work); the ties are given (YtcpbljhogenjoaaGreatDoorTie.lean); close each card by the builder's one call (the guide's Derived/Test/ToyasCard.lean, 'card_holds'). Laid BY PROGRAM, IN A SANDBOX (cutbox-door.mjs). By AI agents, Wed Nov 11 2026. No macro, syntax, notation, axiom, sorry.
-/
import Derived.Test.YtcpbljhogenjoaaGreatDoorRows
import GoSem.ClaimSeven
namespace Go.Proofs.YtcpbljhogenjoaaGreatDoor
namespace Rows

/-- THE TIED CARD OF 'stetlaw08.LinkParts'. -/
def linkPartsCard : Claim7 := { stood := { row := linkPartsRow, standIns := [], harness := (true, "ec3bcb0afba54c0d69d20b85fe8e9bbf38bb2f75b0b7b777f35d41e85b1ced3c"), looks := true }, kinds := [], alts := [], laidByText := true, laidKinds := [.data, .data, .data, .data, .sentinel, .sentinel, .pinned], laidTests := true, laidLooks := .later }
def LinkPartsCardSaid : Prop := Claim7.holds Tryz.pinned (.plain (OpenSpec.ofChange linkPartsSpec)) linkPartsCard

/-- THE TIED CARD OF 'stetlaw08.LinkDefines'. -/
def linkDefinesCard : Claim7 := { stood := { row := linkDefinesRow, standIns := [], harness := (true, "ec3bcb0afba54c0d69d20b85fe8e9bbf38bb2f75b0b7b777f35d41e85b1ced3c"), looks := true }, kinds := [], alts := [], laidByText := true, laidKinds := [.data, .data, .data, .data, .sentinel, .sentinel, .pinned], laidTests := true, laidLooks := .later }
def LinkDefinesCardSaid : Prop := Claim7.holds Tryz.pinned (.plain (OpenSpec.ofChange linkDefinesSpec)) linkDefinesCard

/-- THE SECOND FORM's CARD OF 'stetlaw08.LinkParts'. -/
def linkPartsUptoCard : Claim7 := { stood := { row := linkPartsUptoRow, standIns := [], harness := (true, "ec3bcb0afba54c0d69d20b85fe8e9bbf38bb2f75b0b7b777f35d41e85b1ced3c"), looks := true }, kinds := [], alts := [], laidByText := true, laidKinds := [.data, .data, .data, .data, .sentinel, .sentinel, .pinned], laidTests := true, laidLooks := .later }
def LinkPartsUptoCardSaid : Prop := Claim7.holds Tryz.pinned (.plain (OpenSpec.upto linkPartsSpec)) linkPartsUptoCard

/-- THE SECOND FORM's CARD OF 'stetlaw08.LinkDefines'. -/
def linkDefinesUptoCard : Claim7 := { stood := { row := linkDefinesUptoRow, standIns := [], harness := (true, "ec3bcb0afba54c0d69d20b85fe8e9bbf38bb2f75b0b7b777f35d41e85b1ced3c"), looks := true }, kinds := [], alts := [], laidByText := true, laidKinds := [.data, .data, .data, .data, .sentinel, .sentinel, .pinned], laidTests := true, laidLooks := .later }
def LinkDefinesUptoCardSaid : Prop := Claim7.holds Tryz.pinned (.plain (OpenSpec.upto linkDefinesSpec)) linkDefinesUptoCard
end Rows
end Go.Proofs.YtcpbljhogenjoaaGreatDoor
