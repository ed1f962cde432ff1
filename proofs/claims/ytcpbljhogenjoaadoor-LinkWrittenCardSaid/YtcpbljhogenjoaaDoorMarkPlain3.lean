/- Plain: a line across, byte by byte. No program in sight. -/
import Derived.Test.YtcpbljhogenjoaaDoorMarkPlain2
namespace Go.Proofs.YtcpbljhogenjoaaDoor
set_option linter.unusedVariables false
set_option linter.unusedSimpArgs false
open Go Go.RowKit Go.Lib

/-- is it a line across? -/
def ruleF (s : ByteArray) : Bool :=
  if Lib.hasPrefix s.data.toList [42] = true then ruleOf s 42 else if Lib.hasPrefix s.data.toList [45] = true then ruleOf s 45 else if Lib.hasPrefix s.data.toList [95] = true then ruleOf s 95 else false

def inRule (c x : UInt8) : Bool := x == c || blankU x

theorem set3_contains (c x : UInt8) : (ByteArray.mk #[c, 32, 9]).data.toList.contains x = inRule c x := by
  show [c, 32, 9].contains x = _
  unfold inRule blankU
  simp only [List.contains, List.elem]
  cases (x == c) <;> cases (x == 32) <;> cases (x == 9) <;> rfl

theorem dw_all (l cs : List UInt8) : (∀ c ∈ l.dropWhile (cs.contains ·), cs.contains c = true) ↔ ∀ c ∈ l, cs.contains c = true := by
  induction l with
  | nil => simp
  | cons d t ih =>
    rw [List.dropWhile_cons]
    cases hd : cs.contains d with
    | true => rw [if_pos rfl, ih]; simp only [List.mem_cons, forall_eq_or_imp, hd, true_and]
    | false => simp

theorem ruleOf_all (s : ByteArray) (c : UInt8) : ruleOf s c = (s.data.toList.all (inRule c) && decide ((3 : Int) ≤ (Lib.countByte s.data.toList c : Nat))) := by
  unfold ruleOf
  congr 1
  rw [lst_isEmpty, trimR_data, Bool.eq_iff_iff, List.isEmpty_iff, tr_nil_iff, cutL_data, dw_all, List.all_eq_true]
  exact ⟨fun h x hx => (set3_contains c x).symm.trans (h x hx), fun h x hx => (set3_contains c x).trans (h x hx)⟩

theorem pre_one (s : ByteArray) (c : UInt8) (h : 0 < s.size) : Lib.hasPrefix s.data.toList [c] = (s[0] == c) := by
  have e := drop_cons s 0 h
  rw [List.drop_zero] at e
  unfold Lib.hasPrefix
  rw [e]
  simp only [List.isPrefixOf]
  rw [Bool.and_true, Bool.eq_iff_iff, beq_iff_eq, beq_iff_eq]
  exact ⟨fun e => e.symm, fun e => e.symm⟩
theorem pre_none (s : ByteArray) (c : UInt8) (h : s.size = 0) : Lib.hasPrefix s.data.toList [c] = false := by
  have e : s.data.toList = [] := List.length_eq_zero_iff.1 (by rw [lst_size]; exact h)
  rw [e]; rfl

theorem ruleF_at (s : ByteArray) (h : 0 < s.size) (hc : s[0] = 42 ∨ s[0] = 45 ∨ s[0] = 95) : ruleF s = ruleOf s s[0] := by
  unfold ruleF
  rw [pre_one s 42 h, pre_one s 45 h, pre_one s 95 h]
  rcases hc with hc | hc | hc <;> rw [hc] <;> rfl
theorem ruleF_far (s : ByteArray) (h : 0 < s.size) (h1 : s[0] ≠ 42) (h2 : s[0] ≠ 45) (h3 : s[0] ≠ 95) : ruleF s = false := by
  unfold ruleF
  rw [pre_one s 42 h, pre_one s 45 h, pre_one s 95 h]
  have e1 : (s[0] == 42) = false := by simpa using h1
  have e2 : (s[0] == 45) = false := by simpa using h2
  have e3 : (s[0] == 95) = false := by simpa using h3
  rw [e1, e2, e3]; rfl
theorem ruleF_nil (s : ByteArray) (h : s.size = 0) : ruleF s = false := by
  unfold ruleF
  rw [pre_none s 42 h, pre_none s 45 h, pre_none s 95 h]; rfl

theorem take_snoc (s : ByteArray) (i : Nat) (h : i < s.size) : s.data.toList.take (i + 1) = s.data.toList.take i ++ [s[i]] := by
  rw [List.take_succ_eq_append_getElem (by rw [lst_size]; exact h)]; rfl
theorem take_full (s : ByteArray) (i : Nat) (h : s.size ≤ i) : s.data.toList.take i = s.data.toList := List.take_of_length_le (by rw [lst_size]; exact h)

theorem cnt_yes (s : ByteArray) (c : UInt8) (i : Nat) (h : i < s.size) (hc : s[i] = c) : (s.data.toList.take (i + 1)).count c = (s.data.toList.take i).count c + 1 := by
  rw [take_snoc s i h, List.count_append, hc]; simp
theorem cnt_no (s : ByteArray) (c : UInt8) (i : Nat) (h : i < s.size) (hc : s[i] ≠ c) : (s.data.toList.take (i + 1)).count c = (s.data.toList.take i).count c := by
  rw [take_snoc s i h, List.count_append]; simp [hc]
theorem cnt_le (s : ByteArray) (c : UInt8) (i : Nat) : (s.data.toList.take i).count c ≤ i :=
  Nat.le_trans List.count_le_length (by rw [List.length_take]; omega)
theorem all_snoc (s : ByteArray) (c : UInt8) (i : Nat) (h : i < s.size) (ha : (s.data.toList.take i).all (inRule c) = true) : (s.data.toList.take (i + 1)).all (inRule c) = inRule c s[i] := by
  rw [take_snoc s i h, List.all_append, ha]; simp
theorem all_bad (s : ByteArray) (c : UInt8) (i : Nat) (h : i < s.size) (hb : inRule c s[i] = false) : s.data.toList.all (inRule c) = false := by
  rw [List.all_eq_false]
  exact ⟨s[i], List.getElem_mem (l := s.data.toList) (n := i) (by rw [lst_size]; exact h), by rw [hb]; simp⟩

theorem u8_eq (a b : UInt8) : ((a.toNat : Int) == (b.toNat : Int)) = (a == b) := by
  rw [Bool.eq_iff_iff, beq_iff_eq, beq_iff_eq]
  exact ⟨fun e => UInt8.toNat_inj.1 (by omega), fun e => by rw [e]⟩

theorem under_all (s : ByteArray) (c : UInt8) : lineOf s c = (decide (0 < lead s ⟨#[c]⟩) && (s.data.toList.drop (lead s ⟨#[c]⟩)).all blankU) := by
  unfold lineOf; rw [emptyB_all, tail_data]

end Go.Proofs.YtcpbljhogenjoaaDoor
