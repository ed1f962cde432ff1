/-
  DERIVED. GIVEN WITH THE SEED: THE CARDS: each row of YtcpbljhogenjoaaDoorRows.lean that lists a variable, with what it lists TIED to the program's text (the seventh form; the later family's looks); each row that meets fmt, with fmt's text TOLD by the authors' own Lean function (tested against real Go, not proved from fmt's source: count such statements apart). THE CARD IS WHAT COUNTS. Prove the row's statement (the work); the ties are given (YtcpbljhogenjoaaDoorTie.lean); close each card by the builder's one call (the guide's Derived/Test/ToyasCard.lean, 'card_holds'). Laid BY PROGRAM, IN A SANDBOX (cutbox-door.mjs). By AI agents, Wed Nov 11 2026. No macro, syntax, notation, axiom, sorry.
-/
import Derived.Test.YtcpbljhogenjoaaDoorRows
import GoSem.ClaimSeven
namespace Go.Proofs.YtcpbljhogenjoaaDoor
namespace Rows

/-- THE TIED CARD OF 'stetlaw08.LinkWithin'. -/
def linkWithinCard : Claim7 := { stood := { row := linkWithinRow, standIns := [], harness := (true, "937656b0f0397b71e332cb35c5256ba3df87c56d980b94b862219f077977830a"), looks := true }, kinds := [], alts := [], laidByText := true, laidKinds := [.data, .data, .data, .data, .sentinel, .sentinel, .pinned], laidTests := true, laidLooks := .later }
def LinkWithinCardSaid : Prop := Claim7.holds Tryd.pinned (.plain (OpenSpec.ofChange linkWithinSpec)) linkWithinCard

/-- THE TIED CARD OF 'stetlaw08.LinkWritten'. -/
def linkWrittenCard : Claim7 := { stood := { row := linkWrittenRow, standIns := [], harness := (true, "937656b0f0397b71e332cb35c5256ba3df87c56d980b94b862219f077977830a"), looks := true }, kinds := [], alts := [], laidByText := true, laidKinds := [.data, .data, .data, .data, .sentinel, .sentinel, .pinned], laidTests := true, laidLooks := .later }
def LinkWrittenCardSaid : Prop := Claim7.holds Tryd.pinned (.plain (OpenSpec.ofChange linkWrittenSpec)) linkWrittenCard

/-- THE SECOND FORM's CARD OF 'stetlaw08.LinkWithin'. -/
def linkWithinUptoCard : Claim7 := { stood := { row := linkWithinUptoRow, standIns := [], harness := (true, "937656b0f0397b71e332cb35c5256ba3df87c56d980b94b862219f077977830a"), looks := true }, kinds := [], alts := [], laidByText := true, laidKinds := [.data, .data, .data, .data, .sentinel, .sentinel, .pinned], laidTests := true, laidLooks := .later }
def LinkWithinUptoCardSaid : Prop := Claim7.holds Tryd.pinned (.plain (OpenSpec.upto linkWithinSpec)) linkWithinUptoCard

/-- THE SECOND FORM's CARD OF 'stetlaw08.LinkWritten'. -/
def linkWrittenUptoCard : Claim7 := { stood := { row := linkWrittenUptoRow, standIns := [], harness := (true, "937656b0f0397b71e332cb35c5256ba3df87c56d980b94b862219f077977830a"), looks := true }, kinds := [], alts := [], laidByText := true, laidKinds := [.data, .data, .data, .data, .sentinel, .sentinel, .pinned], laidTests := true, laidLooks := .later }
def LinkWrittenUptoCardSaid : Prop := Claim7.holds Tryd.pinned (.plain (OpenSpec.upto linkWrittenSpec)) linkWrittenUptoCard
end Rows
end Go.Proofs.YtcpbljhogenjoaaDoor
