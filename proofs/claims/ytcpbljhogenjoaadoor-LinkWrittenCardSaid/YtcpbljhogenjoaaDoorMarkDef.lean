/- Plain: what the functions of package mark compute. No program in sight. -/
import Derived.Test.YtcpbljhogenjoaaDoorBase
import Derived.Lib.SlTrimSet
import Derived.Lib.SpaceU
import Derived.Shelf.Strings.SlTrimAscii
namespace Go.Proofs.YtcpbljhogenjoaaDoor
set_option linter.unusedVariables false
set_option linter.unusedSimpArgs false
open Go Go.RowKit Go.Lib

theorem ascii_one (c : UInt8) (h : c.toNat < 128) : Ascii (ByteArray.mk #[c]).data.toList := by
  intro d hd
  have : d = c := by simpa using hd
  rw [this]; exact h

def blanksT : ByteArray := ⟨#[32, 9]⟩

theorem blanks_ascii : Ascii blanksT.data.toList := by
  intro c hc
  have : c = 32 ∨ c = 9 := by simpa [blanksT] using hc
  rcases this with rfl | rfl <;> decide

theorem cutL_size (s set : ByteArray) : (cutL s set).size = s.size - lead s set := by
  unfold cutL; rw [Lib.tail_size]

theorem lead_le (s set : ByteArray) : lead s set ≤ s.size := by
  have := leadN_le s set 0 (Nat.zero_le _); unfold lead; omega

theorem row_eq (s set : ByteArray) (hs : s.size ≤ 1000000) : wrap64 ((s.size : Int) - ((cutL s set).size : Nat)) = (lead s set : Nat) := by
  have := lead_le s set
  rw [cutL_size]; unfold wrap64; omega

def trimB (s set : ByteArray) : ByteArray := ⟨(Lib.trimS s.data.toList set.data.toList).toArray⟩

def trimR (s set : ByteArray) : ByteArray := ⟨(Lib.trimRightS s.data.toList set.data.toList).toArray⟩

theorem ascii_at {set : ByteArray} (hA : Ascii set.data.toList) : ∀ (j : Nat) b, set.data.toList[j]? = some b → b.toNat < 128 := fun j b h => hA b (List.mem_of_getElem? h)

def emptyB (s : ByteArray) : Bool := (trimB s blanksT).toList.isEmpty

def endsB (s : ByteArray) : Bool := s.toList.isEmpty || decide (0 < lead s blanksT)

theorem snoc_of {l : List UInt8} (hl : l ≠ []) : l = l.take (l.length - 1) ++ [l.getD (l.length - 1) 0] := by
  have h := List.take_append_drop (l.length - 1) l
  have hlen : 0 < l.length := by cases l <;> simp_all
  rw [List.drop_eq_getElem_cons (by omega), show l.length - 1 + 1 = l.length from by omega, List.drop_length] at h
  rw [List.getD_eq_getElem?_getD, List.getElem?_eq_getElem (by omega)]
  exact h.symm

theorem trimRight_yes (l cs : List UInt8) (c : UInt8) (h : cs.contains c = true) : Lib.trimRightS (l ++ [c]) cs = Lib.trimRightS l cs := by
  unfold Lib.trimRightS
  rw [List.reverse_append, List.reverse_singleton, List.singleton_append, List.dropWhile_cons, h]; rfl

theorem trimRight_no (l cs : List UInt8) (c : UInt8) (h : cs.contains c = false) : Lib.trimRightS (l ++ [c]) cs = l ++ [c] := by
  unfold Lib.trimRightS
  rw [List.reverse_append, List.reverse_singleton, List.singleton_append, List.dropWhile_cons, h]; simp

theorem trimR_empty (t set : ByteArray) (h : t.size = 0) : trimR t set = t := by
  have hl : t.data.toList = [] := List.length_eq_zero_iff.1 (by rw [← Lib.size_eq]; exact h)
  unfold trimR
  rw [hl]
  have : t = ⟨([] : List UInt8).toArray⟩ := by rw [← hl, Lib.mk_data]
  rw [this]; rfl

/-- a row of one byte stands there, and blanks behind it -/
def lineOf (s : ByteArray) (c : UInt8) : Bool := decide (0 < lead s ⟨#[c]⟩) && emptyB (s.extract (lead s ⟨#[c]⟩) s.size)

def underF (s : ByteArray) : Int := if lineOf s 61 = true then 1 else if lineOf s 45 = true then 2 else 0

theorem ascii_c (c : UInt8) (h : c.toNat < 128) : Ascii (ByteArray.mk #[c]).data.toList := ascii_one c h

theorem lineOf_yes (s : ByteArray) (c : UInt8) (n : Nat) (h : lead s ⟨#[c]⟩ = n) (h0 : 0 < n) (e : Bool) (he : emptyB (s.extract n s.size) = e) : lineOf s c = e := by
  unfold lineOf; rw [h, he, decide_eq_true h0]; rfl

theorem lineOf_no (s : ByteArray) (c : UInt8) (n : Nat) (h : lead s ⟨#[c]⟩ = n) (h0 : ¬ 0 < n) : lineOf s c = false := by
  unfold lineOf; rw [h, decide_eq_false h0]; rfl

def levelF (s : ByteArray) : Nat := lead s ⟨#[35]⟩

def headIs (s : ByteArray) : Bool := decide (1 ≤ levelF s) && (decide (levelF s ≤ 6) && endsB (s.extract (levelF s) s.size))

def headFrom (s : ByteArray) : Nat := levelF s + lead (s.extract (levelF s) s.size) blanksT

def headBody (c : ByteArray) : ByteArray :=
  if ((trimR c ⟨#[35]⟩).toList.isEmpty || !(decide (trimR c ⟨#[35]⟩ = trimR (trimR c ⟨#[35]⟩) blanksT))) = true then trimR (trimR c ⟨#[35]⟩) blanksT else c

theorem trimR_le (s set : ByteArray) : (trimR s set).size ≤ s.size := by
  have h : (Lib.trimRightS s.data.toList set.data.toList).length ≤ s.data.toList.length := by
    unfold Lib.trimRightS
    rw [List.length_reverse]
    exact Nat.le_trans (List.dropWhile_sublist _).length_le (by simp)
  have h1 := Lib.size_eq s
  have h2 := Lib.size_eq (trimR s set)
  have h3 : (trimR s set).data.toList = Lib.trimRightS s.data.toList set.data.toList := by unfold trimR; rfl
  rw [h3] at h2; omega

theorem toList_inj {a b : ByteArray} (h : a.toList = b.toList) : a = b := by
  rw [ByteArray.toList_eq, ByteArray.toList_eq] at h
  rw [← Lib.mk_data a, ← Lib.mk_data b, h]

/-- a heading's content, and from where to where -/
def headO (s : ByteArray) : ByteArray := trimR (trimR (s.extract (headFrom s) s.size) blanksT) ⟨#[35]⟩

def headC (s : ByteArray) : ByteArray :=
  if ((headO s).toList.isEmpty || !((headO s).toList == (trimR (headO s) blanksT).toList)) = true then trimR (headO s) blanksT else trimR (s.extract (headFrom s) s.size) blanksT

def headF (s : ByteArray) : Nat × Nat × Nat := if headIs s = true then (levelF s, headFrom s, headFrom s + (headC s).size) else (0, 0, 0)

def ruleOf (s : ByteArray) (c : UInt8) : Bool := (trimR (cutL s ⟨#[c, 32, 9]⟩) ⟨#[c, 32, 9]⟩).toList.isEmpty && decide ((3 : Int) ≤ (Lib.countByte s.data.toList c : Nat))

theorem ascii_cb (c : UInt8) (h : c.toNat < 128) : Ascii (ByteArray.mk #[c, 32, 9]).data.toList := by
  intro x hx
  have : x = c ∨ x = 32 ∨ x = 9 := by simpa using hx
  rcases this with rfl | rfl | rfl
  · exact h
  all_goals decide

end Go.Proofs.YtcpbljhogenjoaaDoor
