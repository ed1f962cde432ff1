/- Plain: what entities, backslashes and folding compute. No program in sight. -/
import Derived.Test.YtcpbljhogenjoaaDoorClassDef
import Derived.Test.YtcpbljhogenjoaaDoorTagDef
namespace Go.Proofs.YtcpbljhogenjoaaDoor
set_option linter.unusedVariables false
set_option linter.unusedSimpArgs false
open Go Go.RowKit Go.Lib

/-- the value of a hexadecimal digit; 255: it is none -/
def hexV (c : UInt8) : Nat := if digU c = true then c.toNat - 48 else if 65 ≤ c.toNat ∧ c.toNat ≤ 70 then c.toNat - 55 else if 97 ≤ c.toNat ∧ c.toNat ≤ 102 then c.toNat - 87 else 255
def hexU (c : UInt8) : Bool := digU c || (decide (65 ≤ c.toNat) && decide (c.toNat ≤ 70) || decide (97 ≤ c.toNat) && decide (c.toNat ≤ 102))
def hexesT : ByteArray := ⟨#[48, 49, 50, 51, 52, 53, 54, 55, 56, 57, 97, 98, 99, 100, 101, 102, 65, 66, 67, 68, 69, 70]⟩
def numsT : ByteArray := ⟨#[48, 49, 50, 51, 52, 53, 54, 55, 56, 57]⟩

theorem hexes_fin : ∀ c : Fin 256, hexesT.data.toList.contains (UInt8.ofNat c.val) = hexU (UInt8.ofNat c.val) := by decide +kernel
theorem hexes_contains (c : UInt8) : hexesT.data.toList.contains c = hexU c := by
  have := hexes_fin ⟨c.toNat, c.toNat_lt⟩
  simpa using this
theorem hexes_low : ∀ c ∈ hexesT.data.toList, c.toNat < 128 := by decide +kernel
theorem nums_fin : ∀ c : Fin 256, numsT.data.toList.contains (UInt8.ofNat c.val) = digU (UInt8.ofNat c.val) := by decide +kernel
theorem nums_contains (c : UInt8) : numsT.data.toList.contains c = digU c := by
  have := nums_fin ⟨c.toNat, c.toNat_lt⟩
  simpa using this
theorem nums_low : ∀ c ∈ numsT.data.toList, c.toNat < 128 := by decide +kernel

def setOf (x : Bool) : ByteArray := if x = true then hexesT else numsT
def baseOf (x : Bool) : Nat := if x = true then 16 else 10
def mostOf (x : Bool) : Nat := if x = true then 6 else 7
def atOf (x : Bool) (a : Nat) : Nat := if x = true then a + 1 else a

/-- is a byte a digit of the base? -/
def digIn (x : Bool) (c : UInt8) : Bool := if x = true then hexU c else digU c
theorem set_contains (x : Bool) (c : UInt8) : (setOf x).data.toList.contains c = digIn x c := by
  cases x
  · exact nums_contains c
  · exact hexes_contains c

/-- the number that digits spell -/
def valB (b : Nat) (l : List UInt8) : Nat := l.foldl (fun v c => v * b + hexV c) 0

/-- how many digits stand from a place on, so many at most -/
def numN (s : ByteArray) (x : Bool) (a : Nat) : Nat := min (leadN s (setOf x) a) (mostOf x)

/-- the bytes of a character's number -/
def charF (v : Nat) : ByteArray := Utf8.encode ((if v = 0 ∨ 55296 ≤ v ∧ v < 57344 ∨ 1114111 < v then 65533 else v : Nat) : Int)

/-- the number behind "&#" at a place: the character, and behind it -/
def numF (s : ByteArray) (a : Nat) : ByteArray × Nat :=
  let x := byteU s a == 120 || byteU s a == 88
  let f := atOf x a
  let n := numN s x f
  if (decide (0 < n) && (decide (f + n < s.size) && byteU s (f + n) == 59)) = true then (charF (valB (baseOf x) (s.extract f (f + n)).data.toList), f + n + 1) else (⟨#[]⟩, 0)

def entL : List (List UInt8 × Nat) := [([97, 109, 112], 38), ([108, 116], 60), ([103, 116], 62), ([113, 117, 111, 116], 34), ([97, 112, 111, 115], 39), ([110, 98, 115, 112], 160), ([99, 111, 112, 121], 169), ([114, 101, 103], 174), ([116, 114, 97, 100, 101], 8482), ([104, 101, 108, 108, 105, 112], 8230), ([109, 100, 97, 115, 104], 8212), ([110, 100, 97, 115, 104], 8211), ([108, 115, 113, 117, 111], 8216), ([114, 115, 113, 117, 111], 8217), ([108, 100, 113, 117, 111], 8220), ([114, 100, 113, 117, 111], 8221), ([108, 97, 113, 117, 111], 171), ([114, 97, 113, 117, 111], 187), ([100, 101, 103], 176), ([112, 108, 117, 115, 109, 110], 177), ([116, 105, 109, 101, 115], 215), ([100, 105, 118, 105, 100, 101], 247), ([102, 114, 97, 99, 49, 50], 189), ([115, 101, 99, 116], 167), ([112, 97, 114, 97], 182), ([109, 105, 100, 100, 111, 116], 183), ([98, 117, 108, 108], 8226), ([101, 117, 114, 111], 8364), ([112, 111, 117, 110, 100], 163), ([121, 101, 110], 165), ([99, 101, 110, 116], 162), ([108, 97, 114, 114], 8592), ([114, 97, 114, 114], 8594), ([117, 97, 114, 114], 8593), ([100, 97, 114, 114], 8595), ([97, 117, 109, 108], 228), ([111, 117, 109, 108], 246), ([117, 117, 109, 108], 252), ([65, 117, 109, 108], 196), ([79, 117, 109, 108], 214), ([85, 117, 109, 108], 220), ([115, 122, 108, 105, 103], 223), ([101, 97, 99, 117, 116, 101], 233), ([101, 103, 114, 97, 118, 101], 232), ([99, 99, 101, 100, 105, 108], 231), ([110, 116, 105, 108, 100, 101], 241), ([97, 108, 112, 104, 97], 945), ([98, 101, 116, 97], 946), ([112, 105], 960), ([105, 110, 102, 105, 110], 8734), ([110, 101], 8800), ([108, 101], 8804), ([103, 101], 8805)]

/-- the number of an entity -/
def entNum (name : List UInt8) : Option Nat := (entL.find? fun p => p.1 == name).map (·.2)

/-- an entity's character, and how many bytes it has -/
def entF (s : ByteArray) (a : Nat) : ByteArray × Nat :=
  if (decide (a < s.size) && byteU s a == 38) = true then
    if (decide (a + 1 < s.size) && byteU s (a + 1) == 35) = true then
      if (numF s (a + 2)).2 = 0 then (⟨#[]⟩, 0) else ((numF s (a + 2)).1, (numF s (a + 2)).2 - a)
    else
      let n := min (leadN s wordT (a + 1)) 8
      match entNum (s.extract (a + 1) (a + 1 + n)).data.toList with
      | some v => if (decide (a + 1 + n < s.size) && byteU s (a + 1 + n) == 59) = true then (charF v, n + 2) else (⟨#[]⟩, 0)
      | none => (⟨#[]⟩, 0)
  else (⟨#[]⟩, 0)

/-- does a backslash with a plain mark behind it stand at a place? -/
def escU (s : ByteArray) (k : Nat) : Bool := byteU s k == 92 && (decide (k + 1 < s.size) && plainU (byteU s (k + 1)))

/-- a text without backslashes and entities, from a place on -/
def plainG (s : ByteArray) : Nat → Nat → List UInt8
  | 0, _ => []
  | f + 1, a => if a < s.size then
      if 0 < (entF s a).2 then (entF s a).1.data.toList ++ plainG s f (a + (entF s a).2)
      else if escU s a = true then byteU s (a + 1) :: plainG s f (a + 2)
      else byteU s a :: plainG s f (a + 1)
    else []
def plainF (s : ByteArray) : ByteArray := ⟨(plainG s s.size 0).toArray⟩

/-- a character folded -/
def foldR (r : Int) : ByteArray :=
  if r = 215 ∨ r = 930 then Utf8.encode r
  else if withinB r [(65, 90), (192, 222), (913, 939), (1040, 1071)] = true then Utf8.encode (r + 32)
  else if withinB r [(1024, 1039)] = true then Utf8.encode (r + 80)
  else if r = 223 ∨ r = 7838 then ⟨#[115, 115]⟩
  else Utf8.encode r

/-- a label folded, from a place on, behind what is there already; has there been a blank? -/
def foldG (s : ByteArray) : Nat → Nat → List UInt8 → Bool → List UInt8
  | 0, _, out, _ => out
  | f + 1, a, out, g => if a < s.size then
      if blankB (runeF s a).1 = true then foldG s f (a + (runeF s a).2.toNat) out true
      else foldG s f (a + (runeF s a).2.toNat) ((if (g && !out.isEmpty) = true then out ++ [32] else out) ++ (foldR (runeF s a).1).data.toList) false
    else out
def foldF (s : ByteArray) : ByteArray := ⟨(foldG s s.size 0 [] false).toArray⟩

end Go.Proofs.YtcpbljhogenjoaaDoor
