/-
  NARROWER THAN 'FOR EVERY INPUT', by the rows' own cells (each row's printed sentence says how): RunsScans: laid · RunsLetters: laid · RunsTurned: laid · RunsWhole: laid.
  DERIVED. THE GIVEN ROWS OF THIS SEAT. 4 by the template 'for every input the law returns true; each argument reads behind the call as it read before'; 0 by the template 'total and deterministic' (their statements: YtkpjcbpfpfjjkaaDoorTotals.lean).
  GIVEN WITH THE SEED: the statements are not yours to turn. If you find one false, say at which input.
  Laid BY PROGRAM, IN A SANDBOX (cutbox-rows.mjs): the forced cells as the released guide's own fill.sh prints them over the translation fa1aca77a5631fdc… (all of the seat's roots in one cut). By AI agents, Wed Nov 11 2026. No macro, syntax, notation, axiom, sorry.
-/
import Derived.Test.YtkpjcbpfpfjjkaaDoorChecked
import GoSem.PinnedTables
import GoSem.Claim
import GoSem.ClaimJoined
import GoSem.ClaimMapViews
import Derived.JoinedTies
import Derived.KernelRfl
namespace Go.Proofs.YtkpjcbpfpfjjkaaDoor
/- THE CELL 'sum', in the pinned program and in every row, IS THE sha256 OF THE DUMP (.gsa) THAT YtkpjcbpfpfjjkaaDoorProg.lean LOADS. Nothing in Lean hashes anything: it is a label: what it is worth is what the hold of that sum in a sandbox is worth. -/
noncomputable def Tryd.pinned : Pinned := { name := "ytkpjcbpfpfjjkaadoor", sum := "fa1aca77a5631fdc46eeb4d43762fc86251227926837cd85c23cf42974f245dd", checked := Tryd.checked }
namespace Rows
def none {H : Type} : Left H := { results := [], args := [] }

/- WHAT THE LISTED PACKAGE-LEVEL VARIABLES READ AS WHEN THE CALL BEGINS. Each datum BY PROGRAM (the guide's laid-datum.mjs) off the statement by which the dump's own 'gosem.cut.vars' lays the variable. In a bare row this is a premise. The card (YtkpjcbpfpfjjkaaDoorCards.lean) ties it to the program's text. -/
def laid_unicode_utf8_acceptRanges {H : Type} : DataW H := .agg [.agg [.lit (.int .u8 128), .lit (.int .u8 191)], .agg [.lit (.int .u8 160), .lit (.int .u8 191)], .agg [.lit (.int .u8 128), .lit (.int .u8 159)], .agg [.lit (.int .u8 144), .lit (.int .u8 191)], .agg [.lit (.int .u8 128), .lit (.int .u8 143)], .agg [.lit (.int .u8 0), .lit (.int .u8 0)], .agg [.lit (.int .u8 0), .lit (.int .u8 0)], .agg [.lit (.int .u8 0), .lit (.int .u8 0)], .agg [.lit (.int .u8 0), .lit (.int .u8 0)], .agg [.lit (.int .u8 0), .lit (.int .u8 0)], .agg [.lit (.int .u8 0), .lit (.int .u8 0)], .agg [.lit (.int .u8 0), .lit (.int .u8 0)], .agg [.lit (.int .u8 0), .lit (.int .u8 0)], .agg [.lit (.int .u8 0), .lit (.int .u8 0)], .agg [.lit (.int .u8 0), .lit (.int .u8 0)], .agg [.lit (.int .u8 0), .lit (.int .u8 0)]]
/-- One of Go's own tables, pinned by name: the form's constant. -/
def laid_unicode_utf8_first : DataW Unit := Go.Pinned.utf8First

/-- 'stetlaw11.RunsScans': WHATEVER THE INPUT: true; the input reads as it did. -/
def runsScansSpec : ChangeSpec := { name := "runsScans", fn := fun _ => fun
  | [d1, d2] => { results := [.lit (.bool true)], args := [d1, d2] }
  | _ => none }
def runsScansRow : OpenClaim := { program := "ytkpjcbpfpfjjkaadoor", sum := "fa1aca77a5631fdc46eeb4d43762fc86251227926837cd85c23cf42974f245dd", func := "stet/stetlaw11.RunsScans", spec := "runsScans", named := ["unicode/utf8.first", "unicode/utf8.acceptRanges"], apart := false, laid := [("unicode/utf8.acceptRanges", laid_unicode_utf8_acceptRanges), ("unicode/utf8.first", laid_unicode_utf8_first)] }
def RunsScansSaid : Prop := runsScansRow.holds Tryd.pinned (OpenSpec.ofChange runsScansSpec)

/-- ITS FALSE NEIGHBOUR: 'it returns false'. Refute it at one input. -/
def runsScansWrong : ChangeSpec := { name := "runsScans", fn := fun _ => fun
  | [d1, d2] => { results := [.lit (.bool false)], args := [d1, d2] }
  | _ => none }
def RunsScansWrongFalsely : Prop := runsScansRow.holds Tryd.pinned (OpenSpec.ofChange runsScansWrong)

/-- 'stetlaw11.RunsLetters': WHATEVER THE INPUT: true; the input reads as it did. -/
def runsLettersSpec : ChangeSpec := { name := "runsLetters", fn := fun _ => fun
  | [d1, d2, d3] => { results := [.lit (.bool true)], args := [d1, d2, d3] }
  | _ => none }
def runsLettersRow : OpenClaim := { program := "ytkpjcbpfpfjjkaadoor", sum := "fa1aca77a5631fdc46eeb4d43762fc86251227926837cd85c23cf42974f245dd", func := "stet/stetlaw11.RunsLetters", spec := "runsLetters", named := ["unicode/utf8.first", "unicode/utf8.acceptRanges"], apart := false, laid := [("unicode/utf8.acceptRanges", laid_unicode_utf8_acceptRanges), ("unicode/utf8.first", laid_unicode_utf8_first)] }
def RunsLettersSaid : Prop := runsLettersRow.holds Tryd.pinned (OpenSpec.ofChange runsLettersSpec)

/-- ITS FALSE NEIGHBOUR: 'it returns false'. Refute it at one input. -/
def runsLettersWrong : ChangeSpec := { name := "runsLetters", fn := fun _ => fun
  | [d1, d2, d3] => { results := [.lit (.bool false)], args := [d1, d2, d3] }
  | _ => none }
def RunsLettersWrongFalsely : Prop := runsLettersRow.holds Tryd.pinned (OpenSpec.ofChange runsLettersWrong)

/-- 'stetlaw11.RunsTurned': WHATEVER THE INPUT: true; the input reads as it did. -/
def runsTurnedSpec : ChangeSpec := { name := "runsTurned", fn := fun _ => fun
  | [d1, d2] => { results := [.lit (.bool true)], args := [d1, d2] }
  | _ => none }
def runsTurnedRow : OpenClaim := { program := "ytkpjcbpfpfjjkaadoor", sum := "fa1aca77a5631fdc46eeb4d43762fc86251227926837cd85c23cf42974f245dd", func := "stet/stetlaw11.RunsTurned", spec := "runsTurned", named := ["unicode/utf8.first", "unicode/utf8.acceptRanges"], apart := false, laid := [("unicode/utf8.acceptRanges", laid_unicode_utf8_acceptRanges), ("unicode/utf8.first", laid_unicode_utf8_first)] }
def RunsTurnedSaid : Prop := runsTurnedRow.holds Tryd.pinned (OpenSpec.ofChange runsTurnedSpec)

/-- ITS FALSE NEIGHBOUR: 'it returns false'. Refute it at one input. -/
def runsTurnedWrong : ChangeSpec := { name := "runsTurned", fn := fun _ => fun
  | [d1, d2] => { results := [.lit (.bool false)], args := [d1, d2] }
  | _ => none }
def RunsTurnedWrongFalsely : Prop := runsTurnedRow.holds Tryd.pinned (OpenSpec.ofChange runsTurnedWrong)

/-- 'stetlaw11.RunsWhole': WHATEVER THE INPUT: true; the input reads as it did. -/
def runsWholeSpec : ChangeSpec := { name := "runsWhole", fn := fun _ => fun
  | [d1, d2] => { results := [.lit (.bool true)], args := [d1, d2] }
  | _ => none }
def runsWholeRow : OpenClaim := { program := "ytkpjcbpfpfjjkaadoor", sum := "fa1aca77a5631fdc46eeb4d43762fc86251227926837cd85c23cf42974f245dd", func := "stet/stetlaw11.RunsWhole", spec := "runsWhole", named := ["unicode/utf8.first", "unicode/utf8.acceptRanges"], apart := false, laid := [("unicode/utf8.acceptRanges", laid_unicode_utf8_acceptRanges), ("unicode/utf8.first", laid_unicode_utf8_first)] }
def RunsWholeSaid : Prop := runsWholeRow.holds Tryd.pinned (OpenSpec.ofChange runsWholeSpec)

/-- ITS FALSE NEIGHBOUR: 'it returns false'. Refute it at one input. -/
def runsWholeWrong : ChangeSpec := { name := "runsWhole", fn := fun _ => fun
  | [d1, d2] => { results := [.lit (.bool false)], args := [d1, d2] }
  | _ => none }
def RunsWholeWrongFalsely : Prop := runsWholeRow.holds Tryd.pinned (OpenSpec.ofChange runsWholeWrong)

/- THE SECOND FORM. 'bulk': how many values and letters a reading holds, each counted each time it is reached (what is shared counts as often as it is met; a slice's spare places count too). A statement '..UptoSaid' is the law's where the arguments, and the package variables that the reading takes, are together of bulk at most 1048576: NARROWER than '..Said'. Prove '..Said' where nothing that the law and all that it calls make is longer than what came in: it says more and counts as full. Else prove '..UptoSaid'. A law counts once. -/
mutual
def uptoBulk {H : Type} : DataW H → Nat
  | .lit (.string bytes) => bytes.length + 1
  | .lit _ => 1
  | .nil => 1
  | .ptr d => uptoBulk d + 1
  | .slice elems spare => uptoBulkAll elems + uptoBulkAll spare + 1
  | .agg parts => uptoBulkAll parts + 1
  | .iface _ d => uptoBulk d + 1
  | .map entries => uptoBulkEntries entries + 1
  | .held _ => 1
def uptoBulkAll {H : Type} : List (DataW H) → Nat
  | [] => 0
  | d :: r => uptoBulk d + uptoBulkAll r
def uptoBulkEntries {H : Type} : List (Lit × DataW H) → Nat
  | [] => 0
  | x :: r => uptoBulkEntry x + uptoBulkEntries r
def uptoBulkEntry {H : Type} : Lit × DataW H → Nat
  | (.string bytes, d) => bytes.length + uptoBulk d + 1
  | (_, d) => uptoBulk d + 1
 end
def uptoSmall : (H : Type) → List (DataW H) → Bool := fun _ ds => decide (uptoBulkAll ds ≤ 1048576)
def OpenSpec.upto (s : _root_.Go.ChangeSpec) : _root_.Go.OpenSpec := { _root_.Go.OpenSpec.ofChange s with cond := some uptoSmall }

/-- 'stetlaw11.RunsScans', WHERE WHAT IT READS IS OF BULK AT MOST 1048576: true; the input reads as it did. -/
def runsScansUptoRow : OpenClaim := { program := "ytkpjcbpfpfjjkaadoor", sum := "fa1aca77a5631fdc46eeb4d43762fc86251227926837cd85c23cf42974f245dd", func := "stet/stetlaw11.RunsScans", spec := "runsScans", named := ["unicode/utf8.first", "unicode/utf8.acceptRanges"], apart := false, laid := [("unicode/utf8.acceptRanges", laid_unicode_utf8_acceptRanges), ("unicode/utf8.first", laid_unicode_utf8_first)], narrowed := true }
def RunsScansUptoSaid : Prop := runsScansUptoRow.holds Tryd.pinned (OpenSpec.upto runsScansSpec)

/-- 'stetlaw11.RunsLetters', WHERE WHAT IT READS IS OF BULK AT MOST 1048576: true; the input reads as it did. -/
def runsLettersUptoRow : OpenClaim := { program := "ytkpjcbpfpfjjkaadoor", sum := "fa1aca77a5631fdc46eeb4d43762fc86251227926837cd85c23cf42974f245dd", func := "stet/stetlaw11.RunsLetters", spec := "runsLetters", named := ["unicode/utf8.first", "unicode/utf8.acceptRanges"], apart := false, laid := [("unicode/utf8.acceptRanges", laid_unicode_utf8_acceptRanges), ("unicode/utf8.first", laid_unicode_utf8_first)], narrowed := true }
def RunsLettersUptoSaid : Prop := runsLettersUptoRow.holds Tryd.pinned (OpenSpec.upto runsLettersSpec)

/-- 'stetlaw11.RunsTurned', WHERE WHAT IT READS IS OF BULK AT MOST 1048576: true; the input reads as it did. -/
def runsTurnedUptoRow : OpenClaim := { program := "ytkpjcbpfpfjjkaadoor", sum := "fa1aca77a5631fdc46eeb4d43762fc86251227926837cd85c23cf42974f245dd", func := "stet/stetlaw11.RunsTurned", spec := "runsTurned", named := ["unicode/utf8.first", "unicode/utf8.acceptRanges"], apart := false, laid := [("unicode/utf8.acceptRanges", laid_unicode_utf8_acceptRanges), ("unicode/utf8.first", laid_unicode_utf8_first)], narrowed := true }
def RunsTurnedUptoSaid : Prop := runsTurnedUptoRow.holds Tryd.pinned (OpenSpec.upto runsTurnedSpec)

/-- 'stetlaw11.RunsWhole', WHERE WHAT IT READS IS OF BULK AT MOST 1048576: true; the input reads as it did. -/
def runsWholeUptoRow : OpenClaim := { program := "ytkpjcbpfpfjjkaadoor", sum := "fa1aca77a5631fdc46eeb4d43762fc86251227926837cd85c23cf42974f245dd", func := "stet/stetlaw11.RunsWhole", spec := "runsWhole", named := ["unicode/utf8.first", "unicode/utf8.acceptRanges"], apart := false, laid := [("unicode/utf8.acceptRanges", laid_unicode_utf8_acceptRanges), ("unicode/utf8.first", laid_unicode_utf8_first)], narrowed := true }
def RunsWholeUptoSaid : Prop := runsWholeUptoRow.holds Tryd.pinned (OpenSpec.upto runsWholeSpec)

end Rows
end Go.Proofs.YtkpjcbpfpfjjkaaDoor
