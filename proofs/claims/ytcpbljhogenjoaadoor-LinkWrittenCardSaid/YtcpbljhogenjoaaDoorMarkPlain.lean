/- Plain facts on trimming and on leading bytes, as the laws of marks need them. No program in sight. -/
import Derived.Test.YtcpbljhogenjoaaDoorMarkDef
import Derived.Lib.Atoi
namespace Go.Proofs.YtcpbljhogenjoaaDoor
set_option linter.unusedVariables false
set_option linter.unusedSimpArgs false
open Go Go.RowKit Go.Lib

theorem lst_size (s : ByteArray) : s.data.toList.length = s.size := (Lib.size_eq s).symm
theorem lst_isEmpty (s : ByteArray) : s.toList.isEmpty = s.data.toList.isEmpty := by rw [ByteArray.toList_eq]

theorem trimR_data (s set : ByteArray) : (trimR s set).data.toList = Lib.trimRightS s.data.toList set.data.toList := by unfold trimR; rfl
theorem trimB_data (s set : ByteArray) : (trimB s set).data.toList = Lib.trimS s.data.toList set.data.toList := by unfold trimB; rfl
theorem ba_ext {s t : ByteArray} (h : s.data.toList = t.data.toList) : s = t := by rw [← Lib.mk_data s, ← Lib.mk_data t, h]

/-! ## trimming at the right -/

theorem tr_append_all (l b cs : List UInt8) (h : ∀ c ∈ b, cs.contains c = true) : Lib.trimRightS (l ++ b) cs = Lib.trimRightS l cs := by
  induction b generalizing l with
  | nil => simp
  | cons c r ih =>
    have e : l ++ c :: r = (l ++ [c]) ++ r := by simp
    rw [e, ih (l ++ [c]) (fun x hx => h x (List.mem_cons_of_mem _ hx)), trimRight_yes _ _ _ (h c (List.mem_cons_self ..))]

theorem tr_all (b cs : List UInt8) (h : ∀ c ∈ b, cs.contains c = true) : Lib.trimRightS b cs = [] := by
  have := tr_append_all [] b cs h
  simpa [Lib.trimRightS_nil] using this

theorem tr_append_no (l : List UInt8) (c : UInt8) (cs : List UInt8) (h : cs.contains c = false) (m : List UInt8) :
    Lib.trimRightS (l ++ c :: m) cs = l ++ Lib.trimRightS (c :: m) cs := by
  obtain ⟨r, rfl⟩ : ∃ r, m = r.reverse := ⟨m.reverse, by simp⟩
  induction r with
  | nil => simp only [List.reverse_nil]; rw [trimRight_no _ _ _ h, show [c] = [] ++ [c] from rfl, trimRight_no _ _ _ h]
  | cons d t ih =>
    rw [List.reverse_cons, show l ++ c :: (t.reverse ++ [d]) = (l ++ c :: t.reverse) ++ [d] from by simp, show c :: (t.reverse ++ [d]) = (c :: t.reverse) ++ [d] from by simp]
    cases hd : cs.contains d with
    | true => rw [trimRight_yes _ _ _ hd, trimRight_yes _ _ _ hd, ih]
    | false => rw [trimRight_no _ _ _ hd, trimRight_no _ _ _ hd]; simp

theorem tr_split (l cs : List UInt8) : ∃ b, l = Lib.trimRightS l cs ++ b ∧ ∀ c ∈ b, cs.contains c = true := by
  obtain ⟨r, rfl⟩ : ∃ r, l = r.reverse := ⟨l.reverse, by simp⟩
  induction r with
  | nil => exact ⟨[], rfl, fun c hc => by cases hc⟩
  | cons d t ih =>
    rw [List.reverse_cons]
    cases hd : cs.contains d with
    | true =>
      obtain ⟨b, e, hb⟩ := ih
      rw [trimRight_yes _ _ _ hd]
      refine ⟨b ++ [d], ?_, fun c hc => ?_⟩
      · rw [← List.append_assoc, ← e]
      · rcases List.mem_append.1 hc with h | h
        · exact hb c h
        · rw [List.mem_singleton.1 h]; exact hd
    | false => rw [trimRight_no _ _ _ hd]; exact ⟨[], by simp, fun c hc => by cases hc⟩

theorem tr_last (l cs : List UInt8) : Lib.trimRightS l cs = [] ∨ ∃ m c, Lib.trimRightS l cs = m ++ [c] ∧ cs.contains c = false := by
  obtain ⟨r, rfl⟩ : ∃ r, l = r.reverse := ⟨l.reverse, by simp⟩
  induction r with
  | nil => exact Or.inl rfl
  | cons d t ih =>
    rw [List.reverse_cons]
    cases hd : cs.contains d with
    | true => rw [trimRight_yes _ _ _ hd]; exact ih
    | false => rw [trimRight_no _ _ _ hd]; exact Or.inr ⟨_, _, rfl, hd⟩

theorem tr_idem (l cs : List UInt8) : Lib.trimRightS (Lib.trimRightS l cs) cs = Lib.trimRightS l cs := by
  rcases tr_last l cs with h | ⟨m, c, h, hc⟩
  · rw [h]; rfl
  · rw [h, trimRight_no _ _ _ hc]

theorem tr_nil_iff (l cs : List UInt8) : Lib.trimRightS l cs = [] ↔ ∀ c ∈ l, cs.contains c = true := by
  constructor
  · intro h
    obtain ⟨b, e, hb⟩ := tr_split l cs
    rw [h] at e; rw [e]; simpa using hb
  · exact tr_all l cs

theorem tl_nil_iff (l cs : List UInt8) : Lib.trimLeftS l cs = [] ↔ ∀ c ∈ l, cs.contains c = true := by
  unfold Lib.trimLeftS
  induction l with
  | nil => simp
  | cons d t ih =>
    rw [List.dropWhile_cons]
    cases hd : cs.contains d with
    | true => simp only [if_true, ih, List.mem_cons, forall_eq_or_imp, hd, true_and]
    | false => exact ⟨fun h => by simp at h, fun h => by rw [h d (List.mem_cons_self ..)] at hd; cases hd⟩

theorem tb_nil_iff (l cs : List UInt8) : Lib.trimS l cs = [] ↔ ∀ c ∈ l, cs.contains c = true := by
  unfold Lib.trimS
  rw [tl_nil_iff]
  constructor
  · intro h
    obtain ⟨b, e, hb⟩ := tr_split l cs
    intro c hc
    rw [e] at hc
    rcases List.mem_append.1 hc with h' | h'
    · exact h c h'
    · exact hb c h'
  · intro h c hc
    obtain ⟨b, e, hb⟩ := tr_split l cs
    exact h c (by rw [e]; exact List.mem_append_left _ hc)

/-! ## leading bytes -/

theorem lead_list (s set : ByteArray) : lead s set = leadFrom s.data.toList set.data.toList := by unfold lead leadN; rw [List.drop_zero]
theorem leadN_list (s set : ByteArray) (n : Nat) : leadN s set n = leadFrom (s.data.toList.drop n) set.data.toList := rfl
theorem lead_tail (s set : ByteArray) (n : Nat) : lead (s.extract n s.size) set = leadN s set n := by
  rw [lead_list, leadN_list, Lib.extract_data, List.take_of_length_le (by rw [List.length_drop, lst_size]; omega)]
theorem tail_data (s : ByteArray) (n : Nat) : (s.extract n s.size).data.toList = s.data.toList.drop n := by
  rw [Lib.extract_data, List.take_of_length_le (by rw [List.length_drop, lst_size]; omega)]
theorem cutL_data (s set : ByteArray) : (cutL s set).data.toList = s.data.toList.dropWhile (set.data.toList.contains ·) := by
  unfold cutL
  rw [tail_data, lead_list]
  unfold leadFrom
  generalize s.data.toList = l
  induction l with
  | nil => rfl
  | cons d t ih =>
    rw [List.takeWhile_cons, List.dropWhile_cons]
    cases hd : set.data.toList.contains d with
    | true => simpa using ih
    | false => simp

theorem lf_cons (c : UInt8) (l cs : List UInt8) : leadFrom (c :: l) cs = if cs.contains c = true then leadFrom l cs + 1 else 0 := by
  unfold leadFrom
  rw [List.takeWhile_cons]
  cases cs.contains c <;> simp
theorem lf_nil (cs : List UInt8) : leadFrom [] cs = 0 := rfl

theorem lf_append_no (l b cs : List UInt8) (h : ∀ c ∈ b, cs.contains c = false) : leadFrom (l ++ b) cs = leadFrom l cs := by
  induction l with
  | nil =>
    cases b with
    | nil => rfl
    | cons c t => rw [List.nil_append, lf_cons, h c (List.mem_cons_self ..)]; rfl
  | cons d t ih => rw [List.cons_append, lf_cons, lf_cons, ih]

theorem lf_lt (l cs : List UInt8) (h : leadFrom l cs < l.length) : ∃ c, l[leadFrom l cs]? = some c ∧ cs.contains c = false := by
  induction l with
  | nil => simp [lf_nil] at h
  | cons d t ih =>
    rw [lf_cons] at h ⊢
    cases hd : cs.contains d with
    | false => exact ⟨d, by simp, hd⟩
    | true =>
      rw [hd] at h
      simp only [if_true, List.length_cons] at h
      obtain ⟨c, e, hc⟩ := ih (by omega)
      exact ⟨c, by simpa using e, hc⟩

theorem lf_in (l cs : List UInt8) : ∀ c ∈ l.take (leadFrom l cs), cs.contains c = true := by
  induction l with
  | nil => simp
  | cons d t ih =>
    rw [lf_cons]
    cases hd : cs.contains d with
    | false => simp
    | true =>
      simp only [if_true, List.take_succ_cons, List.mem_cons, forall_eq_or_imp]
      exact ⟨hd, ih⟩

theorem leadN_step (s set : ByteArray) (p : Nat) (h : p < s.size) : leadN s set p = if set.data.toList.contains s[p] = true then leadN s set (p + 1) + 1 else 0 := by
  rw [leadN_list, drop_cons s p h, lf_cons]; rfl

end Go.Proofs.YtcpbljhogenjoaaDoor
