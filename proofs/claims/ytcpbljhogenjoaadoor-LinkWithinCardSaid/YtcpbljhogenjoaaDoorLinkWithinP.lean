/- Plain: where the parts of links stand. No walk here. -/
import Derived.Test.YtcpbljhogenjoaaDoorLinkDefine2
import Derived.Test.YtcpbljhogenjoaaDoorFoldIdem
namespace Go.Proofs.YtcpbljhogenjoaaDoor
set_option linter.unusedVariables false
set_option linter.unusedSimpArgs false
open Go Go.RowKit Go.Shelf Go.Lib

theorem label_facts (s : ByteArray) (i n : Nat) (L : ByteArray) (h : labelF s i = (L, n)) (hn : 0 < n) :
    3 ≤ n ∧ i + n ≤ s.size ∧ byteU s i = 91 ∧ byteU s (i + n - 1) = 93 ∧ L = s.extract (i + 1) (i + n - 1) := by
  unfold labelF at h
  have hge := upF_ge s lstopU (i + 1)
  simp only [] at h
  generalize upF s lstopU (i + 1) = e at *
  split at h
  · rename_i hc
    simp only [Bool.and_eq_true, decide_eq_true_eq, beq_iff_eq, Bool.not_eq_true'] at hc
    obtain ⟨h1, h2, h3, h4, h5, h6⟩ := hc
    cases h
    have he : i + 1 ≠ e := by
      intro he
      subst he
      rw [Lib.extract_data] at h6
      simp at h6
    refine ⟨by omega, by omega, h2, ?_, ?_⟩
    · rw [show i + (e + 1 - i) - 1 = e by omega]; exact h4
    · rw [show i + (e + 1 - i) - 1 = e by omega]
  · cases h; omega

theorem title_facts (s : ByteArray) (i n : Nat) (T : ByteArray) (h : titleF s i = (T, n)) (hn : 0 < n) :
    i < s.size ∧ 2 ≤ n ∧ i + n ≤ s.size ∧ T = plainF (s.extract (i + 1) (i + n - 1)) := by
  unfold titleF at h
  split at h
  · rename_i hc
    have hi : i < s.size := by simp only [Bool.and_eq_true, decide_eq_true_eq] at hc; exact hc.1
    have hge := upF_ge s (tstopU (byteU s i)) (i + 1)
    simp only [] at h
    generalize upF s (tstopU (byteU s i)) (i + 1) = e at *
    split at h
    · rename_i hc2
      simp only [Bool.and_eq_true, decide_eq_true_eq] at hc2
      cases h
      refine ⟨hi, by omega, by omega, ?_⟩
      rw [show i + (e + 1 - i) - 1 = e by omega]
    · cases h; omega
  · cases h; omega

theorem titledF_bd (s : ByteArray) (q : Nat) (hq : q ≤ s.size) (t : ByteArray) (u e : Nat) (h : titledF s q = some (t, u, e)) : q ≤ u ∧ u ≤ e ∧ e ≤ s.size := by
  have hg := gapN_le s q hq
  have hg2 : q ≤ gapN s q := skip_ge s gapT q
  unfold titledF at h
  simp only [] at h
  split at h
  · split at h
    · have hb := titleF_bd s (gapN s q) hg
      cases hr : restF2 s (gapN s q + (titleF s (gapN s q)).2) with
      | none => rw [hr] at h; cases h
      | some v =>
        rw [hr] at h
        have := restF2_bd s _ v hb hr
        simp only [Option.map_some, Option.some.injEq, Prod.mk.injEq] at h
        omega
    · cases h
  · cases h

theorem define_facts (s : ByteArray) (i : Nat) (h : 0 < (defineF s i).n) : (defineF s i).from_ = i ∧ i < (defineF s i).upto ∧ (defineF s i).upto ≤ i + (defineF s i).n ∧ i + (defineF s i).n ≤ s.size ∧ foldF (defineF s i).label = (defineF s i).label ∧ ∃ L, (defineF s i).label = foldF L ∧ L.size ≤ s.size := by
  have hlb := labelF_bd s i
  unfold defineF at h ⊢
  simp only [] at h ⊢
  split
  · rename_i hc
    rw [if_pos hc] at h
    simp only [Bool.and_eq_true, decide_eq_true_eq] at hc
    obtain ⟨h1, h2, h3⟩ := hc
    have hl := hlb h1
    have hgl := gapN_le s (i + (labelF s i).2 + 1) (by omega)
    have hgg : i + (labelF s i).2 + 1 ≤ gapN s (i + (labelF s i).2 + 1) := skip_ge s gapT _
    have hdb := destF_bd s (gapN s (i + (labelF s i).2 + 1)) hgl
    split
    · rename_i hc2
      rw [if_pos hc2] at h
      simp only [Bool.and_eq_true, decide_eq_true_eq] at hc2
      cases ht : titledF s (gapN s (i + (labelF s i).2 + 1) + (destF s (gapN s (i + (labelF s i).2 + 1))).2) with
      | some p =>
        obtain ⟨t, u, e⟩ := p
        have hb := titledF_bd s _ hdb t u e ht
        refine ⟨rfl, ?_, ?_, ?_, foldF_idem _, _, rfl, hl.2.2⟩
        · show i < u; omega
        · show u ≤ i + (e - i); omega
        · show i + (e - i) ≤ s.size; omega
      | none =>
        rw [ht] at h
        simp only at h ⊢
        cases hr : restF2 s (gapN s (i + (labelF s i).2 + 1) + (destF s (gapN s (i + (labelF s i).2 + 1))).2) with
        | some e =>
          have hb := restF2_bd s _ e hdb hr
          refine ⟨rfl, ?_, ?_, ?_, foldF_idem _, _, rfl, hl.2.2⟩
          · show i < _ + _; omega
          · show _ + _ ≤ i + (e - i); omega
          · show i + (e - i) ≤ s.size; omega
        | none => rw [hr] at h; exact absurd (show 0 < noDef.n from h) (by decide)
    · rename_i hc2
      rw [if_neg hc2] at h
      exact absurd h (by decide)
  · rename_i hc
    rw [if_neg hc] at h
    exact absurd h (by decide)

theorem foldG_len (s : ByteArray) : ∀ (f a : Nat) (out : List UInt8) (g : Bool), (foldG s f a out g).length ≤ out.length + 5 * f := by
  intro f
  induction f with
  | zero => intro a out g; exact Nat.le_refl _
  | succ f ih =>
    intro a out g
    rw [foldG]
    split
    · split
      · exact Nat.le_trans (ih _ _ _) (by omega)
      · refine Nat.le_trans (ih _ _ _) ?_
        have h1 := foldR_le (runeF s a).1
        have h2 : (foldR (runeF s a).1).data.toList.length = (foldR (runeF s a).1).size := lst_size _
        rw [List.length_append, h2]
        have h3 : (if (g && !out.isEmpty) = true then out ++ [32] else out).length ≤ out.length + 1 := by
          split
          · rw [List.length_append]; simp
          · omega
        omega
    · omega
theorem foldF_len (s : ByteArray) : (foldF s).size ≤ 5 * s.size := by
  have := foldG_len s s.size 0 [] false
  have hz : (foldF s).size = (foldG s s.size 0 [] false).length := by rw [← lst_size]; rfl
  rw [hz]; simpa using this

end Go.Proofs.YtcpbljhogenjoaaDoor
