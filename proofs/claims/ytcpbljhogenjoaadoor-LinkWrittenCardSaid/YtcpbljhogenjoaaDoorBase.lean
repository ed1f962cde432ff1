/- Plain facts on texts: leading bytes among some, runes of ASCII. No program in sight. -/
import Derived.WalkKit
import Derived.Laws.RangeAny
import Derived.Lib.DecodeN
import Derived.Lib.Hide
import Derived.Lib.RuneCountTail
import Derived.Lib.TrimU
import Derived.Lib.Strings
namespace Go.Proofs.YtcpbljhogenjoaaDoor
set_option linter.unusedVariables false
set_option linter.unusedSimpArgs false
open Go Go.RowKit

/-- how many bytes from a place on stand one behind the other that are in a set -/
def leadFrom (l : List UInt8) (set : List UInt8) : Nat := (l.takeWhile fun c => set.contains c).length

theorem leadFrom_le (l set : List UInt8) : leadFrom l set ≤ l.length := by
  unfold leadFrom; exact (List.takeWhile_sublist _).length_le

/-- every byte is ASCII -/
def Ascii (l : List UInt8) : Prop := ∀ c ∈ l, c.toNat < 128

/-- is a rune among the bytes of an ASCII text? -/
def hasRune (set : List UInt8) (r : Nat) : Bool := set.any fun c => c.toNat == r

/-- how many bytes, from a place on, stand one behind the other that are in a set -/
def leadN (s set : ByteArray) (pos : Nat) : Nat := leadFrom (s.data.toList.drop pos) set.data.toList
def lead (s set : ByteArray) : Nat := leadN s set 0
def cutL (s set : ByteArray) : ByteArray := s.extract (lead s set) s.size

theorem contains_hasRune (set : List UInt8) (c : UInt8) : set.contains c = hasRune set c.toNat := by
  unfold hasRune
  induction set with
  | nil => rfl
  | cons d l ih =>
    rw [List.contains_cons, List.any_cons, ih]
    congr 1
    rw [Bool.eq_iff_iff, beq_iff_eq, beq_iff_eq]
    exact ⟨fun e => by rw [e], fun e => (UInt8.toNat_inj.1 e).symm⟩

theorem drop_cons (s : ByteArray) (pos : Nat) (h : pos < s.size) : s.data.toList.drop pos = s[pos] :: s.data.toList.drop (pos + 1) := by
  rw [List.drop_eq_getElem_cons (by simpa using h)]; rfl

theorem hasRune_far (set : List UInt8) (hA : Ascii set) (r : Nat) (h : 128 ≤ r) : hasRune set r = false := by
  unfold hasRune
  rw [List.any_eq_false]
  intro c hc he
  have := hA c hc
  simp at he; omega

theorem leadN_end (s set : ByteArray) (pos : Nat) (h : s.size ≤ pos) : leadN s set pos = 0 := by
  unfold leadN leadFrom
  rw [List.drop_eq_nil_of_le (by simpa using h)]; rfl

theorem leadN_yes (s set : ByteArray) (hA : Ascii set.data.toList) (pos : Nat) (h : pos < s.size) (hr : hasRune set.data.toList (Utf8.decode s pos).1 = true) :
    (Utf8.decode s pos).2 = 1 ∧ leadN s set pos = leadN s set (pos + 1) + 1 := by
  by_cases ha : (s[pos]).toNat < 128
  · rw [decode_ascii s pos h ha] at hr ⊢
    refine ⟨rfl, ?_⟩
    unfold leadN leadFrom
    rw [drop_cons s pos h, List.takeWhile_cons, contains_hasRune, hr]; rfl
  · have := decode_high s pos h (by omega)
    rw [hasRune_far _ hA _ this.1] at hr; exact absurd hr (by simp)

theorem leadN_no (s set : ByteArray) (hA : Ascii set.data.toList) (pos : Nat) (h : pos < s.size) (hr : hasRune set.data.toList (Utf8.decode s pos).1 = false) :
    leadN s set pos = 0 := by
  have hc : set.data.toList.contains s[pos] = false := by
    rw [contains_hasRune]
    by_cases ha : (s[pos]).toNat < 128
    · rw [decode_ascii s pos h ha] at hr; exact hr
    · exact hasRune_far _ hA _ (by omega)
  unfold leadN leadFrom
  rw [drop_cons s pos h, List.takeWhile_cons, hc]; rfl

theorem leadN_le (s set : ByteArray) (pos : Nat) (h : pos ≤ s.size) : pos + leadN s set pos ≤ s.size := by
  unfold leadN
  have := leadFrom_le (s.data.toList.drop pos) set.data.toList
  simp at this; omega

theorem extract_end (s : ByteArray) (n : Nat) (h : s.size ≤ n) : s.extract n s.size = ⟨#[]⟩ := by
  rw [Lib.extract_eq, List.drop_eq_nil_of_le (by simpa using h), List.take_nil]

theorem hasRune_take (set : List UInt8) (r j : Nat) (hj : j < set.length) : hasRune (set.take (j + 1)) r = (hasRune (set.take j) r || (set[j].toNat == r)) := by
  unfold hasRune
  rw [List.take_succ_eq_append_getElem hj, List.any_append]; simp

theorem iterPos_of' {w : World} {k : Nat} {s : ByteArray} {p : Nat} (h : w.heap[k]? = some (.stringIter s p)) : w.iterPos k = p := by simp [World.iterPos, h]

theorem iter_lt {w : World} {k : Nat} {o : Obj} (h : w.heap[k]? = some o) : k < w.heap.size := (Array.getElem?_eq_some_iff.1 h).1

theorem toList_nil {s : ByteArray} (h : s.size = 0) : s.toList = [] := by
  rw [ByteArray.toList_eq]; exact List.length_eq_zero_iff.1 h

theorem toList_ne {s : ByteArray} (h : 0 < s.size) : s.toList.isEmpty = false := by
  rw [ByteArray.toList_eq]
  cases e : s.data.toList with
  | nil => have : s.size = 0 := congrArg List.length e; omega
  | cons a l => rfl

theorem ret_int {k : IntKind} {a b : Int} (h : a = b) : Ending.returned (.int k a) = .returned (.int k b) := by rw [h]
theorem ret_bool {a b : Bool} (h : a = b) : Ending.returned (.bool a) = .returned (.bool b) := by rw [h]
theorem ret_str {a b : ByteArray} (h : a = b) : Ending.returned (.string a) = .returned (.string b) := by rw [h]

/-- the byte at a place, 0 beyond the end -/
def byteAt (s : ByteArray) (i : Nat) : Nat := (s.get! i).toNat

theorem get!_of_lt {s : ByteArray} {i : Nat} (h : i < s.size) : s.get! i = s[i] := by
  have := get_at s i h
  simpa using this

/-- the character at a place and its bytes: (0, 0) outside -/
def runeF (s : ByteArray) (at_ : Int) : Int × Int := if 0 ≤ at_ ∧ at_ < s.size then ((((Utf8.decode s at_.toNat).1 : Nat) : Int), (((Utf8.decode s at_.toNat).2 : Nat) : Int)) else (0, 0)

/-- the character that ends at a place: the search downwards from n bytes -/
def beforeFrom (s : ByteArray) (at_ : Int) : Nat → Int
  | 0 => 65533
  | n + 1 => if (runeF s (at_ - (n + 1 : Nat))).2 = ((n + 1 : Nat) : Int) then (runeF s (at_ - (n + 1 : Nat))).1 else beforeFrom s at_ n

def beforeF (s : ByteArray) (at_ : Int) : Int := if at_ < 1 ∨ (s.size : Int) < at_ then -1 else beforeFrom s at_ (min at_.toNat 4)

end Go.Proofs.YtcpbljhogenjoaaDoor
