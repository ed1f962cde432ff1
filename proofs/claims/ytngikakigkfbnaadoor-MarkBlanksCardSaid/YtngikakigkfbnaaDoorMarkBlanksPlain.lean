/- Plain: blanks behind a line make no difference to what it is a mark of. No program in sight. -/
import Derived.Test.YtngikakigkfbnaaDoorMarkContentPlain
namespace Go.Proofs.YtngikakigkfbnaaDoor
set_option linter.unusedVariables false
set_option linter.unusedSimpArgs false
open Go Go.RowKit Go.Lib

def tailB : List UInt8 := [32, 9, 32]

theorem tb_blank : ∀ c ∈ tailB, blankU c = true := by decide
theorem tb_in : ∀ c ∈ tailB, blanksT.data.toList.contains c = true := by decide

theorem lf_append_stop (d b cs : List UInt8) (h : leadFrom d cs < d.length) : leadFrom (d ++ b) cs = leadFrom d cs := by
  induction d with
  | nil => simp at h
  | cons x t ih =>
    rw [List.cons_append, lf_cons, lf_cons]
    rw [lf_cons] at h
    cases hx : cs.contains x with
    | false => rfl
    | true =>
      rw [hx] at h
      simp only [if_true, List.length_cons] at h
      rw [ih (by omega)]

theorem lf_append_all (d b cs : List UInt8) (h : leadFrom d cs = d.length) : leadFrom (d ++ b) cs = d.length + leadFrom b cs := by
  induction d with
  | nil => simp
  | cons x t ih =>
    rw [List.cons_append, lf_cons]
    rw [lf_cons] at h
    cases hx : cs.contains x with
    | false => rw [hx] at h; simp at h
    | true =>
      rw [hx] at h
      simp only [if_true, List.length_cons] at h
      rw [if_pos rfl, ih (by omega), List.length_cons]; omega

/-- does it close a fence? (closesF, said again) -/
def closesG (s : ByteArray) (c : UInt8) (n : Int) : Bool := decide (1 ≤ n) && (decide (n ≤ (lead s ⟨#[c]⟩ : Nat)) && emptyB (s.extract (lead s ⟨#[c]⟩) s.size))

section
variable (s t : ByteArray) (ht : t.data.toList = s.data.toList ++ tailB)
include ht

theorem t_size : t.size = s.size + 3 := by rw [← lst_size t, ht, List.length_append, lst_size]; rfl

theorem t_lead (set : ByteArray) (h : ∀ c ∈ tailB, set.data.toList.contains c = false) : lead t set = lead s set := by
  rw [lead_list, lead_list, ht, lf_append_no _ _ _ h]

theorem t_drop (n : Nat) (hn : n ≤ s.size) : (t.extract n t.size).data.toList = (s.extract n s.size).data.toList ++ tailB := by
  rw [tail_data, tail_data, ht, List.drop_append_of_le_length (by rw [lst_size]; exact hn)]

theorem t_trimB (n : Nat) (hn : n ≤ s.size) : trimB (t.extract n t.size) blanksT = trimB (s.extract n s.size) blanksT := by
  apply ba_ext
  rw [trimB_data, trimB_data, t_drop s t ht n hn]
  unfold Lib.trimS
  rw [tr_append_all _ _ _ tb_in]

theorem t_trimR (n : Nat) (hn : n ≤ s.size) : trimR (t.extract n t.size) blanksT = trimR (s.extract n s.size) blanksT := by
  apply ba_ext
  rw [trimR_data, trimR_data, t_drop s t ht n hn, tr_append_all _ _ _ tb_in]

theorem t_empty (n : Nat) (hn : n ≤ s.size) : emptyB (t.extract n t.size) = emptyB (s.extract n s.size) := by
  unfold emptyB
  rw [t_trimB s t ht n hn]

theorem t_ends (n : Nat) (hn : n ≤ s.size) : endsB (t.extract n t.size) = endsB (s.extract n s.size) := by
  unfold endsB
  rw [lst_isEmpty, lst_isEmpty, lead_list, lead_list, t_drop s t ht n hn]
  cases (s.extract n s.size).data.toList with
  | nil => decide
  | cons x r =>
    rw [List.cons_append, lf_cons, lf_cons]
    cases blanksT.data.toList.contains x <;> simp

theorem t_get (n : Nat) (hn : n < s.size) : t.get! n = s.get! n := by
  have hz := t_size s t ht
  rw [get!_of_lt (by omega), get!_of_lt hn]
  have h1 := drop_cons t n (by omega)
  have h2 := drop_cons s n hn
  rw [ht, List.drop_append_of_le_length (by rw [lst_size]; omega), h2, List.cons_append] at h1
  simp only [List.cons.injEq] at h1
  exact h1.1.symm

theorem t_get_end : t.get! s.size = 32 := by
  have hz := t_size s t ht
  rw [get!_of_lt (by omega)]
  have h1 := drop_cons t s.size (by omega)
  rw [ht, List.drop_append_of_le_length (by rw [lst_size]; omega), List.drop_eq_nil_of_le (by rw [lst_size]; omega)] at h1
  simp only [List.nil_append, tailB, List.cons.injEq] at h1
  exact h1.1.symm

theorem t_item : itemF t = itemF s := by
  have hz := t_size s t ht
  have hl := t_lead s t ht digitsT (by decide)
  have hle := lead_le s digitsT
  have his : itemIs t = itemIs s := by
    unfold itemIs
    rw [hl]
    by_cases hn : lead s digitsT < s.size
    · rw [t_get s t ht _ hn, t_ends s t ht _ (by omega), decide_eq_true hn, decide_eq_true (p := lead s digitsT < t.size) (by omega)]
    · have he : lead s digitsT = s.size := by omega
      rw [he, t_get_end s t ht, decide_eq_false (p := s.size < s.size) (by omega)]
      have : markOK s.size 32 = false := by unfold markOK; split <;> decide
      rw [this]; simp
  cases h : itemIs s with
  | false => rw [itemF_no s h, itemF_no t (by rw [his, h])]
  | true =>
    have hn : lead s digitsT < s.size := by
      unfold itemIs at h
      simp only [Bool.and_eq_true, decide_eq_true_eq] at h
      exact h.2.1
    rw [itemF_yes s h, itemF_yes t (by rw [his, h]), hl, t_get s t ht _ hn]
    have : itemNum t = itemNum s := by
      unfold itemNum
      rw [hl, ht, List.take_append_of_le_length (by rw [lst_size]; exact hle)]
    rw [this]

theorem t_closes (c : UInt8) (n : Int) (hc : blankU c = false) : closesG t c n = closesG s c n := by
  unfold closesG
  have hl := t_lead s t ht ⟨#[c]⟩ (by
    intro x hx
    rw [one_contains]
    have := tb_blank x hx
    cases h : (x == c) with
    | false => rfl
    | true => rw [eq_of_beq h] at this; rw [this] at hc; cases hc)
  rw [hl, t_empty s t ht _ (lead_le s _)]

theorem t_line (c : UInt8) (hc : blankU c = false) : lineOf t c = lineOf s c := by
  unfold lineOf
  have hl := t_lead s t ht ⟨#[c]⟩ (by
    intro x hx
    rw [one_contains]
    have := tb_blank x hx
    cases h : (x == c) with
    | false => rfl
    | true => rw [eq_of_beq h] at this; rw [this] at hc; cases hc)
  rw [hl, t_empty s t ht _ (lead_le s _)]

theorem t_under : underF t = underF s := by
  unfold underF
  rw [t_line s t ht 61 (by decide), t_line s t ht 45 (by decide)]

theorem t_pre (h0 : 0 < s.size) (c : UInt8) : Lib.hasPrefix t.data.toList [c] = Lib.hasPrefix s.data.toList [c] := by
  have hz := t_size s t ht
  have h1 := t_get s t ht 0 h0
  rw [get!_of_lt (by omega), get!_of_lt h0] at h1
  rw [pre_one t c (by omega), pre_one s c h0, h1]

theorem t_ruleOf (c : UInt8) (hc : blankU c = false) : ruleOf t c = ruleOf s c := by
  rw [ruleOf_all, ruleOf_all, ht, List.all_append]
  have h1 : tailB.all (inRule c) = true := by
    rw [List.all_eq_true]
    intro x hx
    unfold inRule
    rw [tb_blank x hx]; simp
  have h2 : tailB.count c = 0 := by
    rw [List.count_eq_zero]
    intro hx
    have := tb_blank c hx
    rw [this] at hc; cases hc
  have h3 : Lib.countByte (s.data.toList ++ tailB) c = Lib.countByte s.data.toList c := by
    show (s.data.toList ++ tailB).count c = s.data.toList.count c
    rw [List.count_append, h2]; rfl
  rw [h1, h3, Bool.and_true]

theorem t_rule (h0 : 0 < s.size) : ruleF t = ruleF s := by
  unfold ruleF
  rw [t_pre s t ht h0, t_pre s t ht h0, t_pre s t ht h0, t_ruleOf s t ht 42 (by decide), t_ruleOf s t ht 45 (by decide), t_ruleOf s t ht 95 (by decide)]

theorem t_info (c : UInt8) (hl : lead t ⟨#[c]⟩ = lead s ⟨#[c]⟩) : trimB (t.extract (lead t ⟨#[c]⟩) t.size) blanksT = trimB (s.extract (lead s ⟨#[c]⟩) s.size) blanksT := by
  rw [hl, t_trimB s t ht _ (lead_le s _)]

theorem t_body : trimR (t.extract (headFrom t) t.size) blanksT = trimR (s.extract (headFrom s) s.size) blanksT := by
  have hz := t_size s t ht
  have hlev : levelF t = levelF s := t_lead s t ht ⟨#[35]⟩ (by decide)
  have hle : levelF s ≤ s.size := lead_le s ⟨#[35]⟩
  have hfs := (headFrom_le s).2
  unfold headFrom at hfs ⊢
  rw [hlev]
  rw [lead_tail, lead_tail, leadN_list, leadN_list] at *
  rw [ht, List.drop_append_of_le_length (by rw [lst_size]; exact hle)]
  have hlen : (s.data.toList.drop (levelF s)).length = s.size - levelF s := by rw [List.length_drop, lst_size]
  by_cases hA : leadFrom (s.data.toList.drop (levelF s)) blanksT.data.toList < (s.data.toList.drop (levelF s)).length
  · rw [lf_append_stop _ _ _ hA, t_trimR s t ht _ hfs]
  · have hB : leadFrom (s.data.toList.drop (levelF s)) blanksT.data.toList = (s.data.toList.drop (levelF s)).length := by
      have := leadFrom_le (s.data.toList.drop (levelF s)) blanksT.data.toList
      omega
    rw [lf_append_all _ _ _ hB, hB, hlen, show leadFrom tailB blanksT.data.toList = 3 from by decide]
    have e1 : t.extract (levelF s + (s.size - levelF s + 3)) t.size = ⟨#[]⟩ := extract_end t _ (by omega)
    have e2 : s.extract (levelF s + (s.size - levelF s)) s.size = ⟨#[]⟩ := extract_end s _ (by omega)
    rw [e1, e2]

theorem t_headC : headC t = headC s := by
  unfold headC headO
  rw [t_body s t ht]

theorem t_head : (headF t).1 = (headF s).1 ∧ (headF t).2.2 = (headF t).2.1 + ((headF s).2.2 - (headF s).2.1) ∧ (headF s).2.1 ≤ (headF s).2.2 := by
  have hlev : levelF t = levelF s := t_lead s t ht ⟨#[35]⟩ (by decide)
  have his : headIs t = headIs s := by
    unfold headIs
    rw [hlev, t_ends s t ht (levelF s) (lead_le s ⟨#[35]⟩)]
  cases h : headIs s with
  | false =>
    rw [headF_no s h, headF_no t (by rw [his, h])]; simp
  | true =>
    rw [headF_yes s h, headF_yes t (by rw [his, h]), hlev, t_headC s t ht]
    refine ⟨rfl, ?_, ?_⟩
    · simp
    · simp
end

end Go.Proofs.YtngikakigkfbnaaDoor
