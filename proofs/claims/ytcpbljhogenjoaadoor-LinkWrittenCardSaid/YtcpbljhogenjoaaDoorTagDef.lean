/- Plain: HTML tags by offsets, as package tag and its reference go through them. No program in sight. -/
import Derived.Test.YtcpbljhogenjoaaDoorMarkPlain
namespace Go.Proofs.YtcpbljhogenjoaaDoor
set_option linter.unusedVariables false
set_option linter.unusedSimpArgs false
open Go Go.RowKit Go.Lib

def gapT : ByteArray := ⟨#[32, 9, 10]⟩
def lettersT : ByteArray := ⟨#[97, 98, 99, 100, 101, 102, 103, 104, 105, 106, 107, 108, 109, 110, 111, 112, 113, 114, 115, 116, 117, 118, 119, 120, 121, 122, 65, 66, 67, 68, 69, 70, 71, 72, 73, 74, 75, 76, 77, 78, 79, 80, 81, 82, 83, 84, 85, 86, 87, 88, 89, 90]⟩
def wordT : ByteArray := ⟨#[97, 98, 99, 100, 101, 102, 103, 104, 105, 106, 107, 108, 109, 110, 111, 112, 113, 114, 115, 116, 117, 118, 119, 120, 121, 122, 65, 66, 67, 68, 69, 70, 71, 72, 73, 74, 75, 76, 77, 78, 79, 80, 81, 82, 83, 84, 85, 86, 87, 88, 89, 90, 48, 49, 50, 51, 52, 53, 54, 55, 56, 57]⟩
def nameT : ByteArray := ⟨#[97, 98, 99, 100, 101, 102, 103, 104, 105, 106, 107, 108, 109, 110, 111, 112, 113, 114, 115, 116, 117, 118, 119, 120, 121, 122, 65, 66, 67, 68, 69, 70, 71, 72, 73, 74, 75, 76, 77, 78, 79, 80, 81, 82, 83, 84, 85, 86, 87, 88, 89, 90, 48, 49, 50, 51, 52, 53, 54, 55, 56, 57, 45]⟩
def firstT : ByteArray := ⟨#[97, 98, 99, 100, 101, 102, 103, 104, 105, 106, 107, 108, 109, 110, 111, 112, 113, 114, 115, 116, 117, 118, 119, 120, 121, 122, 65, 66, 67, 68, 69, 70, 71, 72, 73, 74, 75, 76, 77, 78, 79, 80, 81, 82, 83, 84, 85, 86, 87, 88, 89, 90, 95, 58]⟩
def attrT : ByteArray := ⟨#[97, 98, 99, 100, 101, 102, 103, 104, 105, 106, 107, 108, 109, 110, 111, 112, 113, 114, 115, 116, 117, 118, 119, 120, 121, 122, 65, 66, 67, 68, 69, 70, 71, 72, 73, 74, 75, 76, 77, 78, 79, 80, 81, 82, 83, 84, 85, 86, 87, 88, 89, 90, 48, 49, 50, 51, 52, 53, 54, 55, 56, 57, 95, 46, 58, 45]⟩

def gapU (c : UInt8) : Bool := c == 32 || (c == 9 || c == 10)
def letterU (c : UInt8) : Bool := decide (65 ≤ c.toNat) && decide (c.toNat ≤ 90) || decide (97 ≤ c.toNat) && decide (c.toNat ≤ 122)
def digU (c : UInt8) : Bool := decide (48 ≤ c.toNat) && decide (c.toNat ≤ 57)
def wordU (c : UInt8) : Bool := letterU c || digU c
def nameU (c : UInt8) : Bool := letterU c || (digU c || c == 45)
def firstU (c : UInt8) : Bool := letterU c || (c == 95 || c == 58)
def attrU (c : UInt8) : Bool := letterU c || (digU c || (c == 95 || (c == 46 || (c == 58 || c == 45))))
def stopU (c : UInt8) : Bool := gapU c || (c == 39 || (c == 34 || (c == 61 || (c == 60 || (c == 62 || c == 96)))))
def stopT : ByteArray := ⟨#[32, 9, 10, 39, 34, 61, 60, 62, 96]⟩

set_option maxRecDepth 100000 in
theorem gap_fin : ∀ c : Fin 256, gapT.data.toList.contains (UInt8.ofNat c.val) = gapU (UInt8.ofNat c.val) := by decide +kernel
theorem gap_contains (c : UInt8) : gapT.data.toList.contains c = gapU c := by
  have := gap_fin ⟨c.toNat, c.toNat_lt⟩
  simpa using this
theorem gap_low : ∀ c ∈ gapT.data.toList, c.toNat < 128 := by decide +kernel
theorem gap_ascii : Ascii gapT.data.toList := gap_low

set_option maxRecDepth 100000 in
theorem letters_fin : ∀ c : Fin 256, lettersT.data.toList.contains (UInt8.ofNat c.val) = letterU (UInt8.ofNat c.val) := by decide +kernel
theorem letters_contains (c : UInt8) : lettersT.data.toList.contains c = letterU c := by
  have := letters_fin ⟨c.toNat, c.toNat_lt⟩
  simpa using this
theorem letters_low : ∀ c ∈ lettersT.data.toList, c.toNat < 128 := by decide +kernel
theorem letters_ascii : Ascii lettersT.data.toList := letters_low

set_option maxRecDepth 100000 in
theorem word_fin : ∀ c : Fin 256, wordT.data.toList.contains (UInt8.ofNat c.val) = wordU (UInt8.ofNat c.val) := by decide +kernel
theorem word_contains (c : UInt8) : wordT.data.toList.contains c = wordU c := by
  have := word_fin ⟨c.toNat, c.toNat_lt⟩
  simpa using this
theorem word_low : ∀ c ∈ wordT.data.toList, c.toNat < 128 := by decide +kernel
theorem word_ascii : Ascii wordT.data.toList := word_low

set_option maxRecDepth 100000 in
theorem name_fin : ∀ c : Fin 256, nameT.data.toList.contains (UInt8.ofNat c.val) = nameU (UInt8.ofNat c.val) := by decide +kernel
theorem name_contains (c : UInt8) : nameT.data.toList.contains c = nameU c := by
  have := name_fin ⟨c.toNat, c.toNat_lt⟩
  simpa using this
theorem name_low : ∀ c ∈ nameT.data.toList, c.toNat < 128 := by decide +kernel
theorem name_ascii : Ascii nameT.data.toList := name_low

set_option maxRecDepth 100000 in
theorem first_fin : ∀ c : Fin 256, firstT.data.toList.contains (UInt8.ofNat c.val) = firstU (UInt8.ofNat c.val) := by decide +kernel
theorem first_contains (c : UInt8) : firstT.data.toList.contains c = firstU c := by
  have := first_fin ⟨c.toNat, c.toNat_lt⟩
  simpa using this
theorem first_low : ∀ c ∈ firstT.data.toList, c.toNat < 128 := by decide +kernel
theorem first_ascii : Ascii firstT.data.toList := first_low

set_option maxRecDepth 100000 in
theorem attr_fin : ∀ c : Fin 256, attrT.data.toList.contains (UInt8.ofNat c.val) = attrU (UInt8.ofNat c.val) := by decide +kernel
theorem attr_contains (c : UInt8) : attrT.data.toList.contains c = attrU c := by
  have := attr_fin ⟨c.toNat, c.toNat_lt⟩
  simpa using this
theorem attr_low : ∀ c ∈ attrT.data.toList, c.toNat < 128 := by decide +kernel
theorem attr_ascii : Ascii attrT.data.toList := attr_low

set_option maxRecDepth 100000 in
theorem stop_fin : ∀ c : Fin 256, stopT.data.toList.contains (UInt8.ofNat c.val) = stopU (UInt8.ofNat c.val) := by decide +kernel
theorem stop_contains (c : UInt8) : stopT.data.toList.contains c = stopU c := by
  have := stop_fin ⟨c.toNat, c.toNat_lt⟩
  simpa using this
theorem stop_low : ∀ c ∈ stopT.data.toList, c.toNat < 128 := by decide +kernel
theorem stop_ascii : Ascii stopT.data.toList := stop_low

/-- behind the bytes of a set from a place on -/
def skipN (s set : ByteArray) (at_ : Nat) : Nat := at_ + leadN s set at_

theorem skip_le (s set : ByteArray) (a : Nat) (h : a ≤ s.size) : skipN s set a ≤ s.size := leadN_le s set a h
theorem skip_ge (s set : ByteArray) (a : Nat) : a ≤ skipN s set a := by unfold skipN; omega

/-- the byte at a place, 0 outside -/
def byteU (s : ByteArray) (a : Nat) : UInt8 := s.data.toList.getD a 0
theorem byteU_in (s : ByteArray) (a : Nat) (h : a < s.size) : byteU s a = s[a] := by
  unfold byteU
  rw [List.getD_eq_getElem?_getD, List.getElem?_eq_getElem (by rw [lst_size]; exact h)]; rfl
theorem byteU_out (s : ByteArray) (a : Nat) (h : s.size ≤ a) : byteU s a = 0 := by
  unfold byteU
  rw [List.getD_eq_getElem?_getD, List.getElem?_eq_none (by rw [lst_size]; exact h)]; rfl

/-- behind the first byte c at or behind a place -/
def quoteEnd (s : ByteArray) (c : UInt8) (a : Nat) : Option Nat :=
  if 0 ≤ Lib.indexByte (s.data.toList.drop a) c then some (a + (Lib.indexByte (s.data.toList.drop a) c).toNat + 1) else none

/-- how many bytes from a place on end no value -/
def bareN (s : ByteArray) (a : Nat) : Nat := ((s.data.toList.drop a).takeWhile fun c => !(stopU c)).length

def valueF (s : ByteArray) (a : Nat) : Option Nat :=
  if a < s.size then
    if byteU s a = 39 ∨ byteU s a = 34 then quoteEnd s (byteU s a) (a + 1)
    else if bareN s a = 0 then none else some (a + bareN s a)
  else none

def attrStart (s : ByteArray) (a : Nat) : Bool := decide (a < skipN s gapT a) && (decide (skipN s gapT a < s.size) && firstU (byteU s (skipN s gapT a)))
def attrNext (s : ByteArray) (a : Nat) : Option Nat :=
  let k := skipN s attrT (skipN s gapT a)
  let e := skipN s gapT k
  if e < s.size ∧ byteU s e = 61 then valueF s (skipN s gapT (e + 1)) else some k
def attrsF (s : ByteArray) : Nat → Nat → Option Nat
  | 0, a => some a
  | f + 1, a => if attrStart s a = true then (attrNext s a).bind (attrsF s f) else some (skipN s gapT a)

/-- behind the '>' that ends a tag -/
def closeF (s : ByteArray) (a : Nat) : Option Nat := if a < s.size ∧ byteU s a = 62 then some (a + 1) else none
def slashF (s : ByteArray) (a : Nat) : Nat := if a < s.size ∧ byteU s a = 47 then a + 1 else a
def openF (s : ByteArray) : Option Nat :=
  if 0 < s.size ∧ byteU s 0 = 60 then
    let at_ := slashF s 1
    if at_ < s.size ∧ letterU (byteU s at_) = true then
      let k := skipN s nameT at_
      if at_ = 2 then closeF s (skipN s gapT k)
      else (attrsF s (s.size + 1) k).bind fun e => closeF s (slashF s e)
    else none
  else none

end Go.Proofs.YtcpbljhogenjoaaDoor
