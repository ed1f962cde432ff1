/- Plain: a heading's content is the whole content of a heading of itself. No program in sight. -/
import Derived.Test.YtngikakigkfbnaaDoorMarkPlain3
namespace Go.Proofs.YtngikakigkfbnaaDoor
set_option linter.unusedVariables false
set_option linter.unusedSimpArgs false
open Go Go.RowKit Go.Lib

/-- a text that neither begins nor ends with a blank -/
def bareL (l : List UInt8) : Prop := (∀ c, l.head? = some c → blankU c = false) ∧ (∀ c, l.getLast? = some c → blankU c = false)

theorem tr_last? (l cs : List UInt8) : ∀ c, (Lib.trimRightS l cs).getLast? = some c → cs.contains c = false := by
  intro c h
  rcases tr_last l cs with e | ⟨m, d, e, hd⟩
  · rw [e] at h; simp at h
  · rw [e, List.getLast?_append] at h
    simp at h
    rw [← h]; exact hd

theorem tr_head? (l cs : List UInt8) : ∀ c, (Lib.trimRightS l cs).head? = some c → l.head? = some c := by
  intro c h
  obtain ⟨b, e, _⟩ := tr_split l cs
  rw [e, List.head?_append, h]; rfl

theorem drop_lead_head? (l cs : List UInt8) : ∀ c, (l.drop (leadFrom l cs)).head? = some c → cs.contains c = false := by
  intro c h
  rw [List.head?_drop] at h
  by_cases hl : leadFrom l cs < l.length
  · obtain ⟨d, e, hd⟩ := lf_lt l cs hl
    rw [e] at h; simp at h; rw [← h]; exact hd
  · rw [List.getElem?_eq_none (by omega)] at h; cases h

theorem leadN_drop (s set : ByteArray) (n : Nat) : s.data.toList.drop (n + leadN s set n) = (s.data.toList.drop n).drop (leadFrom (s.data.toList.drop n) set.data.toList) := by
  rw [List.drop_drop, leadN_list]

/-- what a heading's content is, as a list: without blanks at its ends, and as its heading has it -/
theorem headC_bare (s : ByteArray) : bareL (headC s).data.toList := by
  have hbc : ∀ c, blankU c = blanksT.data.toList.contains c := fun c => (blanks_contains c).symm
  have hst : ∀ c, (s.extract (headFrom s) s.size).data.toList.head? = some c → blankU c = false := by
    intro c h
    rw [tail_data] at h
    unfold headFrom at h
    rw [lead_tail, leadN_drop] at h
    rw [hbc]; exact drop_lead_head? _ _ c h
  unfold headC
  split
  · constructor
    · intro c h
      rw [trimR_data] at h
      have h1 := tr_head? _ _ c h
      unfold headO at h1
      rw [trimR_data] at h1
      have h2 := tr_head? _ _ c h1
      rw [trimR_data] at h2
      exact hst c (tr_head? _ _ c h2)
    · intro c h
      rw [trimR_data] at h
      rw [hbc]; exact tr_last? _ _ c h
  · constructor
    · intro c h
      rw [trimR_data] at h
      exact hst c (tr_head? _ _ c h)
    · intro c h
      rw [trimR_data] at h
      rw [hbc]; exact tr_last? _ _ c h

theorem headC_prefix (s : ByteArray) : ∃ r, (s.extract (headFrom s) s.size).data.toList = (headC s).data.toList ++ r := by
  unfold headC
  split
  · obtain ⟨b1, e1, _⟩ := tr_split (s.extract (headFrom s) s.size).data.toList blanksT.data.toList
    obtain ⟨b2, e2, _⟩ := tr_split (trimR (s.extract (headFrom s) s.size) blanksT).data.toList (ByteArray.mk #[35]).data.toList
    obtain ⟨b3, e3, _⟩ := tr_split (headO s).data.toList blanksT.data.toList
    rw [← trimR_data] at e1 e2 e3
    have e4 : (headO s) = trimR (trimR (s.extract (headFrom s) s.size) blanksT) ⟨#[35]⟩ := rfl
    rw [← e4, e3] at e2
    rw [e2] at e1
    exact ⟨b3 ++ (b2 ++ b1), by rw [e1]; simp only [List.append_assoc]⟩
  · obtain ⟨b1, e1, _⟩ := tr_split (s.extract (headFrom s) s.size).data.toList blanksT.data.toList
    rw [← trimR_data] at e1
    exact ⟨b1, e1⟩

theorem headFrom_le (s : ByteArray) : levelF s ≤ headFrom s ∧ headFrom s ≤ s.size := by
  unfold headFrom levelF
  have h1 := lead_le s ⟨#[35]⟩
  have h2 := lead_le (s.extract (lead s ⟨#[35]⟩) s.size) blanksT
  rw [Lib.tail_size] at h2
  omega

theorem headC_le (s : ByteArray) : headFrom s + (headC s).size ≤ s.size := by
  obtain ⟨r, e⟩ := headC_prefix s
  have h1 := congrArg List.length e
  rw [tail_data, List.length_drop, List.length_append, lst_size, lst_size] at h1
  have := (headFrom_le s).2
  omega

theorem headC_ext (s : ByteArray) : s.extract (headFrom s) (headFrom s + (headC s).size) = headC s := by
  obtain ⟨r, e⟩ := headC_prefix s
  apply ba_ext
  rw [Lib.extract_data]
  rw [tail_data] at e
  rw [e, show headFrom s + (headC s).size - headFrom s = (headC s).data.toList.length from by rw [lst_size]; omega, List.take_left]

theorem app_data (a b : ByteArray) : (a ++ b).data.toList = a.data.toList ++ b.data.toList := by simp

theorem head_made (c u : ByteArray) (hu : u.data.toList = 35 :: 32 :: (c.data.toList ++ [32, 35])) (hb : bareL c.data.toList) :
    headF u = if c.size = 0 then (1, 3, 3) else (1, 2, 2 + c.size) := by
  have hlev : levelF u = 1 := by
    unfold levelF
    rw [lead_list, hu, lf_cons, lf_cons]
    rfl
  have hsz : u.size = c.size + 4 := by
    rw [← lst_size, hu]; simp [lst_size]
  have htl : (u.extract 1 u.size).data.toList = 32 :: (c.data.toList ++ [32, 35]) := by rw [tail_data, hu]; rfl
  have hld : lead (u.extract 1 u.size) blanksT = 1 + leadFrom (c.data.toList ++ [32, 35]) blanksT.data.toList := by
    rw [lead_list, htl, lf_cons, if_pos (by decide)]; omega
  have hends : endsB (u.extract 1 u.size) = true := by
    unfold endsB
    rw [hld, decide_eq_true (by omega)]; simp
  have his : headIs u = true := by
    unfold headIs
    rw [hlev, hends]; rfl
  rw [headF_yes u his, hlev]
  by_cases h0 : c.size = 0
  · rw [if_pos h0]
    have hc : c.data.toList = [] := List.length_eq_zero_iff.1 (by rw [lst_size]; exact h0)
    have hfr : headFrom u = 3 := by
      unfold headFrom
      rw [hlev, hld, hc]; rfl
    have hO : headO u = ⟨#[]⟩ := by
      apply ba_ext
      unfold headO
      rw [hfr, trimR_data, trimR_data, tail_data, hu, hc]; rfl
    have hC : headC u = ⟨#[]⟩ := by
      unfold headC
      rw [hO, size_isEmpty (s := ⟨#[]⟩) rfl]; rfl
    rw [hC, hfr]; rfl
  · rw [if_neg h0]
    obtain ⟨d, t, hc⟩ : ∃ d t, c.data.toList = d :: t := by
      cases e : c.data.toList with
      | nil => have := congrArg List.length e; rw [lst_size] at this; exact absurd this h0
      | cons d t => exact ⟨d, t, rfl⟩
    have hd : blankU d = false := hb.1 d (by rw [hc]; rfl)
    have hfr : headFrom u = 2 := by
      unfold headFrom
      rw [hlev, hld, hc, List.cons_append, lf_cons, blanks_contains, hd]; rfl
    have hbody : (trimR (u.extract 2 u.size) blanksT).data.toList = (c.data.toList ++ [32]) ++ [35] := by
      rw [trimR_data, tail_data, hu, show (35 :: 32 :: (c.data.toList ++ [32, 35])).drop 2 = (c.data.toList ++ [32]) ++ [35] from by simp, trimRight_no _ _ _ (by decide)]
    have hO : (headO u).data.toList = c.data.toList ++ [32] := by
      unfold headO
      rw [hfr, trimR_data, hbody, trimRight_yes _ _ _ (by decide), trimRight_no _ _ _ (by decide)]
    have hlast : Lib.trimRightS c.data.toList blanksT.data.toList = c.data.toList := by
      obtain ⟨m, x, e⟩ : ∃ m x, c.data.toList = m ++ [x] := ⟨c.data.toList.dropLast, c.data.toList.getLast (by rw [hc]; simp), (List.dropLast_concat_getLast _).symm⟩
      have hx := hb.2 x (by rw [e]; simp)
      rw [e, trimRight_no _ _ _ (by rw [blanks_contains]; exact hx)]
    have hT : trimR (headO u) blanksT = c := by
      apply ba_ext
      rw [trimR_data, hO, trimRight_yes _ _ _ (by decide), hlast]
    have hne : ((headO u).toList == (trimR (headO u) blanksT).toList) = false := by
      rw [hT, beq_eq_false_iff_ne]
      intro e
      have e2 := congrArg List.length (congrArg (fun x : ByteArray => x.data.toList) (toList_inj e))
      have e3 : (headO u).data.toList.length = c.data.toList.length := e2
      rw [hO, List.length_append] at e3
      simp at e3
    have hC : headC u = c := by
      unfold headC
      rw [hne, hT]; simp
    rw [hC, hfr]

end Go.Proofs.YtngikakigkfbnaaDoor
