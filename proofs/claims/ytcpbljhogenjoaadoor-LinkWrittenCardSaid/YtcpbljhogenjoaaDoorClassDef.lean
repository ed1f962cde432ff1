/- Plain: the classes of characters. No program in sight. -/
import Derived.Test.YtcpbljhogenjoaaDoorBase
namespace Go.Proofs.YtcpbljhogenjoaaDoor
set_option linter.unusedVariables false
set_option linter.unusedSimpArgs false
open Go Go.RowKit

def withinB (r : Int) (zs : List (Int × Int)) : Bool := zs.any fun p => decide (p.1 ≤ r) && decide (r ≤ p.2)

def blankL : List (Int × Int) := [(9, 10), (12, 13), (32, 32), (160, 160), (5760, 5760), (8192, 8202), (8239, 8239), (8287, 8287), (12288, 12288)]
def plainL : List (Int × Int) := [(33, 47), (58, 64), (91, 96), (123, 126)]
def mark1L : List (Int × Int) := [(161, 169), (171, 172), (174, 177), (180, 180), (182, 184), (187, 187), (191, 191), (215, 215), (247, 247)]
def mark2L : List (Int × Int) := [(8208, 8231), (8240, 8286), (8352, 8384), (8592, 8703), (12289, 12291), (12296, 12305)]
def blankB (r : Int) : Bool := withinB r blankL
def plainB (r : Int) : Bool := withinB r plainL
def markB (r : Int) : Bool := if 0 ≤ r ∧ r < 128 then plainB r else withinB r mark1L || withinB r mark2L

/-- a byte that is a plain mark -/
def plainU (c : UInt8) : Bool := plainB (c.toNat : Int)

end Go.Proofs.YtcpbljhogenjoaaDoor
