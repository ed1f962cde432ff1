/-
  DERIVED. GIVEN WITH THE SEED: THE CARDS: each row of YtngikakigkfbnaaDoorRows.lean that lists a variable, with what it lists TIED to the program's text (the seventh form; the later family's looks); each row that meets fmt, with fmt's text TOLD by the authors' own Lean function (tested against real Go, not proved from fmt's source: count such statements apart). THE CARD IS WHAT COUNTS. Prove the row's statement (the work); the ties are given (YtngikakigkfbnaaDoorTie.lean); close each card by the builder's one call (the guide's Derived/Test/ToyasCard.lean, 'card_holds'). Laid BY PROGRAM, IN A SANDBOX (cutbox-door.mjs). By AI agents, Wed Nov 11 2026. No macro, syntax, notation, axiom, sorry.
-/
import Derived.Test.YtngikakigkfbnaaDoorRows
import GoSem.ClaimSeven
namespace Go.Proofs.YtngikakigkfbnaaDoor
namespace Rows

/-- THE TIED CARD OF 'stetlaw05.MarkLines'. -/
def markLinesCard : Claim7 := { stood := { row := markLinesRow, standIns := [], harness := (true, "baf31ea6a11eeab73d60cf0d883bfd9cb616eedd30e32108dbd352bfcc7c419d"), looks := true }, kinds := [], alts := [], laidByText := true, laidKinds := [.data, .data, .data, .data, .sentinel, .sentinel, .pinned], laidTests := true, laidLooks := .later }
def MarkLinesCardSaid : Prop := Claim7.holds Tryd.pinned (.plain (OpenSpec.ofChange markLinesSpec)) markLinesCard

/-- THE TIED CARD OF 'stetlaw05.MarkHeads'. -/
def markHeadsCard : Claim7 := { stood := { row := markHeadsRow, standIns := [], harness := (true, "baf31ea6a11eeab73d60cf0d883bfd9cb616eedd30e32108dbd352bfcc7c419d"), looks := true }, kinds := [], alts := [], laidByText := true, laidKinds := [.data, .data, .data, .data, .sentinel, .sentinel, .pinned], laidTests := true, laidLooks := .later }
def MarkHeadsCardSaid : Prop := Claim7.holds Tryd.pinned (.plain (OpenSpec.ofChange markHeadsSpec)) markHeadsCard

/-- THE TIED CARD OF 'stetlaw05.MarkItems'. -/
def markItemsCard : Claim7 := { stood := { row := markItemsRow, standIns := [], harness := (true, "baf31ea6a11eeab73d60cf0d883bfd9cb616eedd30e32108dbd352bfcc7c419d"), looks := true }, kinds := [], alts := [], laidByText := true, laidKinds := [.data, .data, .data, .data, .sentinel, .sentinel, .pinned], laidTests := true, laidLooks := .later }
def MarkItemsCardSaid : Prop := Claim7.holds Tryd.pinned (.plain (OpenSpec.ofChange markItemsSpec)) markItemsCard

/-- THE TIED CARD OF 'stetlaw05.MarkContent'. -/
def markContentCard : Claim7 := { stood := { row := markContentRow, standIns := [], harness := (true, "baf31ea6a11eeab73d60cf0d883bfd9cb616eedd30e32108dbd352bfcc7c419d"), looks := true }, kinds := [], alts := [], laidByText := true, laidKinds := [.data, .data, .data, .data, .sentinel, .sentinel, .pinned], laidTests := true, laidLooks := .later }
def MarkContentCardSaid : Prop := Claim7.holds Tryd.pinned (.plain (OpenSpec.ofChange markContentSpec)) markContentCard

/-- THE TIED CARD OF 'stetlaw05.MarkBlanks'. -/
def markBlanksCard : Claim7 := { stood := { row := markBlanksRow, standIns := [], harness := (true, "baf31ea6a11eeab73d60cf0d883bfd9cb616eedd30e32108dbd352bfcc7c419d"), looks := true }, kinds := [], alts := [], laidByText := true, laidKinds := [.data, .data, .data, .data, .sentinel, .sentinel, .pinned], laidTests := true, laidLooks := .later }
def MarkBlanksCardSaid : Prop := Claim7.holds Tryd.pinned (.plain (OpenSpec.ofChange markBlanksSpec)) markBlanksCard

/-- THE SECOND FORM's CARD OF 'stetlaw05.MarkLines'. -/
def markLinesUptoCard : Claim7 := { stood := { row := markLinesUptoRow, standIns := [], harness := (true, "baf31ea6a11eeab73d60cf0d883bfd9cb616eedd30e32108dbd352bfcc7c419d"), looks := true }, kinds := [], alts := [], laidByText := true, laidKinds := [.data, .data, .data, .data, .sentinel, .sentinel, .pinned], laidTests := true, laidLooks := .later }
def MarkLinesUptoCardSaid : Prop := Claim7.holds Tryd.pinned (.plain (OpenSpec.upto markLinesSpec)) markLinesUptoCard

/-- THE SECOND FORM's CARD OF 'stetlaw05.MarkHeads'. -/
def markHeadsUptoCard : Claim7 := { stood := { row := markHeadsUptoRow, standIns := [], harness := (true, "baf31ea6a11eeab73d60cf0d883bfd9cb616eedd30e32108dbd352bfcc7c419d"), looks := true }, kinds := [], alts := [], laidByText := true, laidKinds := [.data, .data, .data, .data, .sentinel, .sentinel, .pinned], laidTests := true, laidLooks := .later }
def MarkHeadsUptoCardSaid : Prop := Claim7.holds Tryd.pinned (.plain (OpenSpec.upto markHeadsSpec)) markHeadsUptoCard

/-- THE SECOND FORM's CARD OF 'stetlaw05.MarkItems'. -/
def markItemsUptoCard : Claim7 := { stood := { row := markItemsUptoRow, standIns := [], harness := (true, "baf31ea6a11eeab73d60cf0d883bfd9cb616eedd30e32108dbd352bfcc7c419d"), looks := true }, kinds := [], alts := [], laidByText := true, laidKinds := [.data, .data, .data, .data, .sentinel, .sentinel, .pinned], laidTests := true, laidLooks := .later }
def MarkItemsUptoCardSaid : Prop := Claim7.holds Tryd.pinned (.plain (OpenSpec.upto markItemsSpec)) markItemsUptoCard

/-- THE SECOND FORM's CARD OF 'stetlaw05.MarkContent'. -/
def markContentUptoCard : Claim7 := { stood := { row := markContentUptoRow, standIns := [], harness := (true, "baf31ea6a11eeab73d60cf0d883bfd9cb616eedd30e32108dbd352bfcc7c419d"), looks := true }, kinds := [], alts := [], laidByText := true, laidKinds := [.data, .data, .data, .data, .sentinel, .sentinel, .pinned], laidTests := true, laidLooks := .later }
def MarkContentUptoCardSaid : Prop := Claim7.holds Tryd.pinned (.plain (OpenSpec.upto markContentSpec)) markContentUptoCard

/-- THE SECOND FORM's CARD OF 'stetlaw05.MarkBlanks'. -/
def markBlanksUptoCard : Claim7 := { stood := { row := markBlanksUptoRow, standIns := [], harness := (true, "baf31ea6a11eeab73d60cf0d883bfd9cb616eedd30e32108dbd352bfcc7c419d"), looks := true }, kinds := [], alts := [], laidByText := true, laidKinds := [.data, .data, .data, .data, .sentinel, .sentinel, .pinned], laidTests := true, laidLooks := .later }
def MarkBlanksUptoCardSaid : Prop := Claim7.holds Tryd.pinned (.plain (OpenSpec.upto markBlanksSpec)) markBlanksUptoCard
end Rows
end Go.Proofs.YtngikakigkfbnaaDoor
