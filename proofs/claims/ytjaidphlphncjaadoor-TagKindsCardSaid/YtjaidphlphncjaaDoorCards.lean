/-
  DERIVED. GIVEN WITH THE SEED: THE CARDS: each row of YtjaidphlphncjaaDoorRows.lean that lists a variable, with what it lists TIED to the program's text (the seventh form; the later family's looks); each row that meets fmt, with fmt's text TOLD by the authors' own Lean function (tested against real Go, not proved from fmt's source: count such statements apart). THE CARD IS WHAT COUNTS. Prove the row's statement (the work); the ties are given (YtjaidphlphncjaaDoorTie.lean); close each card by the builder's one call (the guide's Derived/Test/ToyasCard.lean, 'card_holds'). Laid BY PROGRAM, IN A SANDBOX (cutbox-door.mjs). By AI agents, Wed Nov 11 2026. No macro, syntax, notation, axiom, sorry.
-/
import Derived.Test.YtjaidphlphncjaaDoorRows
import GoSem.ClaimSeven
namespace Go.Proofs.YtjaidphlphncjaaDoor
namespace Rows

/-- THE TIED CARD OF 'stetlaw06.TagRaws'. -/
def tagRawsCard : Claim7 := { stood := { row := tagRawsRow, standIns := [], harness := (true, "983f382e791182f6ff44ae0bd4e010dfb45b40c53505750620b68fca4238e8b4"), looks := true }, kinds := [], alts := [], laidByText := true, laidKinds := [.data, .data, .data, .pinned, .pinned], laidTests := true, laidLooks := .later }
def TagRawsCardSaid : Prop := Claim7.holds Tryd.pinned (.plain (OpenSpec.ofChange tagRawsSpec)) tagRawsCard

/-- THE TIED CARD OF 'stetlaw06.TagKinds'. -/
def tagKindsCard : Claim7 := { stood := { row := tagKindsRow, standIns := [], harness := (true, "983f382e791182f6ff44ae0bd4e010dfb45b40c53505750620b68fca4238e8b4"), looks := true }, kinds := [], alts := [], laidByText := true, laidKinds := [.data, .data, .data, .pinned, .pinned], laidTests := true, laidLooks := .later }
def TagKindsCardSaid : Prop := Claim7.holds Tryd.pinned (.plain (OpenSpec.ofChange tagKindsSpec)) tagKindsCard

/-- THE TIED CARD OF 'stetlaw06.TagBehind'. -/
def tagBehindCard : Claim7 := { stood := { row := tagBehindRow, standIns := [], harness := (true, "983f382e791182f6ff44ae0bd4e010dfb45b40c53505750620b68fca4238e8b4"), looks := true }, kinds := [], alts := [], laidByText := true, laidKinds := [.data, .data, .data, .pinned, .pinned], laidTests := true, laidLooks := .later }
def TagBehindCardSaid : Prop := Claim7.holds Tryd.pinned (.plain (OpenSpec.ofChange tagBehindSpec)) tagBehindCard

/-- THE TIED CARD OF 'stetlaw06.TagEnds'. -/
def tagEndsCard : Claim7 := { stood := { row := tagEndsRow, standIns := [], harness := (true, "983f382e791182f6ff44ae0bd4e010dfb45b40c53505750620b68fca4238e8b4"), looks := true }, kinds := [], alts := [], laidByText := true, laidKinds := [.data, .data, .data, .pinned, .pinned], laidTests := true, laidLooks := .later }
def TagEndsCardSaid : Prop := Claim7.holds Tryd.pinned (.plain (OpenSpec.ofChange tagEndsSpec)) tagEndsCard

/-- THE TIED CARD OF 'stetlaw06.TagMade'. -/
def tagMadeCard : Claim7 := { stood := { row := tagMadeRow, standIns := [], harness := (true, "983f382e791182f6ff44ae0bd4e010dfb45b40c53505750620b68fca4238e8b4"), looks := true }, kinds := [], alts := [], laidByText := true, laidKinds := [.data, .data, .data, .pinned, .pinned], laidTests := true, laidLooks := .later }
def TagMadeCardSaid : Prop := Claim7.holds Tryd.pinned (.plain (OpenSpec.ofChange tagMadeSpec)) tagMadeCard

/-- THE SECOND FORM's CARD OF 'stetlaw06.TagRaws'. -/
def tagRawsUptoCard : Claim7 := { stood := { row := tagRawsUptoRow, standIns := [], harness := (true, "983f382e791182f6ff44ae0bd4e010dfb45b40c53505750620b68fca4238e8b4"), looks := true }, kinds := [], alts := [], laidByText := true, laidKinds := [.data, .data, .data, .pinned, .pinned], laidTests := true, laidLooks := .later }
def TagRawsUptoCardSaid : Prop := Claim7.holds Tryd.pinned (.plain (OpenSpec.upto tagRawsSpec)) tagRawsUptoCard

/-- THE SECOND FORM's CARD OF 'stetlaw06.TagKinds'. -/
def tagKindsUptoCard : Claim7 := { stood := { row := tagKindsUptoRow, standIns := [], harness := (true, "983f382e791182f6ff44ae0bd4e010dfb45b40c53505750620b68fca4238e8b4"), looks := true }, kinds := [], alts := [], laidByText := true, laidKinds := [.data, .data, .data, .pinned, .pinned], laidTests := true, laidLooks := .later }
def TagKindsUptoCardSaid : Prop := Claim7.holds Tryd.pinned (.plain (OpenSpec.upto tagKindsSpec)) tagKindsUptoCard

/-- THE SECOND FORM's CARD OF 'stetlaw06.TagBehind'. -/
def tagBehindUptoCard : Claim7 := { stood := { row := tagBehindUptoRow, standIns := [], harness := (true, "983f382e791182f6ff44ae0bd4e010dfb45b40c53505750620b68fca4238e8b4"), looks := true }, kinds := [], alts := [], laidByText := true, laidKinds := [.data, .data, .data, .pinned, .pinned], laidTests := true, laidLooks := .later }
def TagBehindUptoCardSaid : Prop := Claim7.holds Tryd.pinned (.plain (OpenSpec.upto tagBehindSpec)) tagBehindUptoCard

/-- THE SECOND FORM's CARD OF 'stetlaw06.TagEnds'. -/
def tagEndsUptoCard : Claim7 := { stood := { row := tagEndsUptoRow, standIns := [], harness := (true, "983f382e791182f6ff44ae0bd4e010dfb45b40c53505750620b68fca4238e8b4"), looks := true }, kinds := [], alts := [], laidByText := true, laidKinds := [.data, .data, .data, .pinned, .pinned], laidTests := true, laidLooks := .later }
def TagEndsUptoCardSaid : Prop := Claim7.holds Tryd.pinned (.plain (OpenSpec.upto tagEndsSpec)) tagEndsUptoCard

/-- THE SECOND FORM's CARD OF 'stetlaw06.TagMade'. -/
def tagMadeUptoCard : Claim7 := { stood := { row := tagMadeUptoRow, standIns := [], harness := (true, "983f382e791182f6ff44ae0bd4e010dfb45b40c53505750620b68fca4238e8b4"), looks := true }, kinds := [], alts := [], laidByText := true, laidKinds := [.data, .data, .data, .pinned, .pinned], laidTests := true, laidLooks := .later }
def TagMadeUptoCardSaid : Prop := Claim7.holds Tryd.pinned (.plain (OpenSpec.upto tagMadeSpec)) tagMadeUptoCard
end Rows
end Go.Proofs.YtjaidphlphncjaaDoor
