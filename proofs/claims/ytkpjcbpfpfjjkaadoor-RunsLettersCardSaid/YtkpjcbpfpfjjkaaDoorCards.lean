/-
  DERIVED. GIVEN WITH THE SEED: THE CARDS: each row of YtkpjcbpfpfjjkaaDoorRows.lean that lists a variable, with what it lists TIED to the program's text (the seventh form; the later family's looks); each row that meets fmt, with fmt's text TOLD by the authors' own Lean function (tested against real Go, not proved from fmt's source: count such statements apart). THE CARD IS WHAT COUNTS. Prove the row's statement (the work); the ties are given (YtkpjcbpfpfjjkaaDoorTie.lean); close each card by the builder's one call (the guide's Derived/Test/ToyasCard.lean, 'card_holds'). Laid BY PROGRAM, IN A SANDBOX (cutbox-door.mjs). By AI agents, Wed Nov 11 2026. No macro, syntax, notation, axiom, sorry.
-/
import Derived.Test.YtkpjcbpfpfjjkaaDoorRows
import GoSem.ClaimSeven
namespace Go.Proofs.YtkpjcbpfpfjjkaaDoor
namespace Rows

/-- THE TIED CARD OF 'stetlaw11.RunsScans'. -/
def runsScansCard : Claim7 := { stood := { row := runsScansRow, standIns := [], harness := (true, "a31bc900877a289bfeb14dc6425fbaf286a671b857bcef6441ee7c042b75e911"), looks := false }, kinds := [], alts := [], laidByText := true, laidKinds := [.data, .pinned], laidTests := true, laidLooks := .later }
def RunsScansCardSaid : Prop := Claim7.holds Tryd.pinned (.plain (OpenSpec.ofChange runsScansSpec)) runsScansCard

/-- THE TIED CARD OF 'stetlaw11.RunsLetters'. -/
def runsLettersCard : Claim7 := { stood := { row := runsLettersRow, standIns := [], harness := (true, "a31bc900877a289bfeb14dc6425fbaf286a671b857bcef6441ee7c042b75e911"), looks := false }, kinds := [], alts := [], laidByText := true, laidKinds := [.data, .pinned], laidTests := true, laidLooks := .later }
def RunsLettersCardSaid : Prop := Claim7.holds Tryd.pinned (.plain (OpenSpec.ofChange runsLettersSpec)) runsLettersCard

/-- THE TIED CARD OF 'stetlaw11.RunsTurned'. -/
def runsTurnedCard : Claim7 := { stood := { row := runsTurnedRow, standIns := [], harness := (true, "a31bc900877a289bfeb14dc6425fbaf286a671b857bcef6441ee7c042b75e911"), looks := false }, kinds := [], alts := [], laidByText := true, laidKinds := [.data, .pinned], laidTests := true, laidLooks := .later }
def RunsTurnedCardSaid : Prop := Claim7.holds Tryd.pinned (.plain (OpenSpec.ofChange runsTurnedSpec)) runsTurnedCard

/-- THE TIED CARD OF 'stetlaw11.RunsWhole'. -/
def runsWholeCard : Claim7 := { stood := { row := runsWholeRow, standIns := [], harness := (true, "a31bc900877a289bfeb14dc6425fbaf286a671b857bcef6441ee7c042b75e911"), looks := false }, kinds := [], alts := [], laidByText := true, laidKinds := [.data, .pinned], laidTests := true, laidLooks := .later }
def RunsWholeCardSaid : Prop := Claim7.holds Tryd.pinned (.plain (OpenSpec.ofChange runsWholeSpec)) runsWholeCard

/-- THE SECOND FORM's CARD OF 'stetlaw11.RunsScans'. -/
def runsScansUptoCard : Claim7 := { stood := { row := runsScansUptoRow, standIns := [], harness := (true, "a31bc900877a289bfeb14dc6425fbaf286a671b857bcef6441ee7c042b75e911"), looks := false }, kinds := [], alts := [], laidByText := true, laidKinds := [.data, .pinned], laidTests := true, laidLooks := .later }
def RunsScansUptoCardSaid : Prop := Claim7.holds Tryd.pinned (.plain (OpenSpec.upto runsScansSpec)) runsScansUptoCard

/-- THE SECOND FORM's CARD OF 'stetlaw11.RunsLetters'. -/
def runsLettersUptoCard : Claim7 := { stood := { row := runsLettersUptoRow, standIns := [], harness := (true, "a31bc900877a289bfeb14dc6425fbaf286a671b857bcef6441ee7c042b75e911"), looks := false }, kinds := [], alts := [], laidByText := true, laidKinds := [.data, .pinned], laidTests := true, laidLooks := .later }
def RunsLettersUptoCardSaid : Prop := Claim7.holds Tryd.pinned (.plain (OpenSpec.upto runsLettersSpec)) runsLettersUptoCard

/-- THE SECOND FORM's CARD OF 'stetlaw11.RunsTurned'. -/
def runsTurnedUptoCard : Claim7 := { stood := { row := runsTurnedUptoRow, standIns := [], harness := (true, "a31bc900877a289bfeb14dc6425fbaf286a671b857bcef6441ee7c042b75e911"), looks := false }, kinds := [], alts := [], laidByText := true, laidKinds := [.data, .pinned], laidTests := true, laidLooks := .later }
def RunsTurnedUptoCardSaid : Prop := Claim7.holds Tryd.pinned (.plain (OpenSpec.upto runsTurnedSpec)) runsTurnedUptoCard

/-- THE SECOND FORM's CARD OF 'stetlaw11.RunsWhole'. -/
def runsWholeUptoCard : Claim7 := { stood := { row := runsWholeUptoRow, standIns := [], harness := (true, "a31bc900877a289bfeb14dc6425fbaf286a671b857bcef6441ee7c042b75e911"), looks := false }, kinds := [], alts := [], laidByText := true, laidKinds := [.data, .pinned], laidTests := true, laidLooks := .later }
def RunsWholeUptoCardSaid : Prop := Claim7.holds Tryd.pinned (.plain (OpenSpec.upto runsWholeSpec)) runsWholeUptoCard
end Rows
end Go.Proofs.YtkpjcbpfpfjjkaaDoor
