/- Plain: what stands behind a tag makes no difference to it. No program in sight. -/
import Derived.Test.YtjaidphlphncjaaDoorTagDef
import Derived.Test.YtjaidphlphncjaaDoorMarkPlain3
import Derived.Lib.IndexLaws
namespace Go.Proofs.YtjaidphlphncjaaDoor
set_option linter.unusedVariables false
set_option linter.unusedSimpArgs false
open Go Go.RowKit Go.Lib

/-- two texts with the same first bytes -/
structure Agree (s t : ByteArray) (n : Nat) : Prop where
  left : n ≤ s.size
  right : n ≤ t.size
  same : ∀ i, i < n → byteU s i = byteU t i

theorem leadN_by (s set : ByteArray) (p : Nat) (h : p < s.size) : leadN s set p = if set.data.toList.contains (byteU s p) = true then leadN s set (p + 1) + 1 else 0 := by
  rw [leadN_step s set p h, byteU_in s p h]

theorem skip_agree {s t : ByteArray} {n : Nat} (hA : Agree s t n) (set : ByteArray) : ∀ d a, n - a = d → skipN s set a < n → skipN t set a = skipN s set a := by
  intro d
  induction d with
  | zero => intro a hd h; unfold skipN at h; omega
  | succ d ih =>
    intro a hd h
    have hl := hA.left
    have hr := hA.right
    have han : a < n := by omega
    have e1 := leadN_by s set a (by omega)
    have e2 := leadN_by t set a (by omega)
    rw [← hA.same a han] at e2
    unfold skipN at h ⊢
    cases hc : set.data.toList.contains (byteU s a) with
    | false => rw [hc] at e1 e2; simp at e1 e2; rw [e1, e2]
    | true =>
      rw [hc] at e1 e2
      simp only [if_true] at e1 e2
      have := ih (a + 1) (by omega) (by unfold skipN; omega)
      unfold skipN at this
      omega

theorem quoteN_step (s : ByteArray) (c : UInt8) (k : Nat) (h : k < s.size) : quoteEnd s c k = if (byteU s k == c) = true then some (k + 1) else quoteEnd s c (k + 1) := by
  rw [byteU_in s k h]
  unfold quoteEnd
  rw [drop_cons s k h]
  have hg := Lib.indexByte_ge (s.data.toList.drop (k + 1)) c
  rw [Lib.indexByte]
  cases hc : (s[k] == c) with
  | true => simp
  | false =>
    simp only [Bool.false_eq_true, if_false]
    by_cases h1 : Lib.indexByte (s.data.toList.drop (k + 1)) c = -1
    · rw [h1]; rfl
    · have hb : (Lib.indexByte (s.data.toList.drop (k + 1)) c == -1) = false := beq_eq_false_iff_ne.2 h1
      rw [hb]
      simp only [Bool.false_eq_true, if_false]
      rw [if_pos (by omega), if_pos (by omega)]
      congr 1; omega
theorem quoteN_end (s : ByteArray) (c : UInt8) (k : Nat) (h : s.size ≤ k) : quoteEnd s c k = none := by
  unfold quoteEnd
  rw [List.drop_eq_nil_of_le (by rw [lst_size]; exact h)]; rfl

theorem quoteN_gt (s : ByteArray) (c : UInt8) : ∀ d a k, s.size - a = d → quoteEnd s c a = some k → a < k ∧ k ≤ s.size := by
  intro d
  induction d with
  | zero => intro a k hd h; rw [quoteN_end s c a (by omega)] at h; cases h
  | succ d ih =>
    intro a k hd h
    rw [quoteN_step s c a (by omega)] at h
    split at h
    · simp only [Option.some.injEq] at h; omega
    · have := ih (a + 1) k (by omega) h; omega

theorem quote_agree {s t : ByteArray} {n : Nat} (hA : Agree s t n) (c : UInt8) : ∀ d a k, n - a = d → quoteEnd s c a = some k → k ≤ n → quoteEnd t c a = some k := by
  intro d
  induction d with
  | zero => intro a k hd h hk; have := quoteN_gt s c _ a k rfl h; omega
  | succ d ih =>
    intro a k hd h hk
    have hl := hA.left
    have hr := hA.right
    rw [quoteN_step t c a (by omega), ← hA.same a (by omega)]
    rw [quoteN_step s c a (by omega)] at h
    split at h
    · rename_i hc; rw [if_pos hc]; exact h
    · rename_i hc; rw [if_neg hc]; exact ih (a + 1) k (by omega) h hk

theorem bareN_step (s : ByteArray) (k : Nat) (h : k < s.size) : bareN s k = if stopU (byteU s k) = true then 0 else bareN s (k + 1) + 1 := by
  rw [byteU_in s k h]
  unfold bareN
  rw [drop_cons s k h, List.takeWhile_cons]
  cases stopU s[k] <;> simp

theorem bare_agree {s t : ByteArray} {n : Nat} (hA : Agree s t n) : ∀ d a, n - a = d → a + bareN s a < n → bareN t a = bareN s a := by
  intro d
  induction d with
  | zero => intro a hd h; omega
  | succ d ih =>
    intro a hd h
    have hl := hA.left
    have hr := hA.right
    have e1 := bareN_step s a (by omega)
    have e2 := bareN_step t a (by omega)
    rw [← hA.same a (by omega)] at e2
    cases hc : stopU (byteU s a) with
    | true => rw [hc] at e1 e2; simp at e1 e2; rw [e1, e2]
    | false =>
      rw [hc] at e1 e2
      simp only [Bool.false_eq_true, if_false] at e1 e2
      have := ih (a + 1) (by omega) (by omega)
      omega

theorem value_agree {s t : ByteArray} {n : Nat} (hA : Agree s t n) (a k : Nat) (h : valueF s a = some k) (hk : k < n) : valueF t a = some k := by
  have hl := hA.left
  have hr := hA.right
  unfold valueF at h ⊢
  split at h
  · rename_i ha
    split at h
    · rename_i hq
      have hgt := quoteN_gt s _ _ _ _ rfl h
      rw [if_pos (by omega), ← hA.same a (by omega), if_pos hq]
      exact quote_agree hA _ _ _ _ rfl h (by omega)
    · rename_i hq
      split at h
      · cases h
      · rename_i hb
        simp only [Option.some.injEq] at h
        have hb2 := bare_agree hA _ a rfl (by omega)
        rw [if_pos (by omega), ← hA.same a (by omega), if_neg hq, hb2, if_neg hb, h]
  · cases h

theorem valueB_bd (s : ByteArray) (a k : Nat) (h : valueF s a = some k) : a < k := by
  unfold valueF at h
  split at h
  · split at h
    · have := quoteN_gt s _ _ _ _ rfl h; omega
    · split at h
      · cases h
      · simp only [Option.some.injEq] at h; omega
  · cases h

theorem start_agree {s t : ByteArray} {n : Nat} (hA : Agree s t n) (a : Nat) (h : skipN s gapT a < n) : attrStart t a = attrStart s a := by
  have hl := hA.left
  have hr := hA.right
  unfold attrStart
  rw [skip_agree hA gapT _ a rfl h, hA.same _ h, decide_eq_true (p := skipN s gapT a < t.size) (by omega), decide_eq_true (p := skipN s gapT a < s.size) (by omega)]

theorem next_agree {s t : ByteArray} {n : Nat} (hA : Agree s t n) (a k : Nat) (h : attrNext s a = some k) (hk : k < n) (hg : ∀ q, skipN s gapT k = q → q < n) : attrNext t a = some k ∧ skipN s gapT a ≤ k := by
  have hl := hA.left
  have hr := hA.right
  unfold attrNext at h ⊢
  simp only [] at h ⊢
  have g2 := skip_ge s attrT (skipN s gapT a)
  have g3 := skip_ge s gapT (skipN s attrT (skipN s gapT a))
  have g4 := skip_ge s gapT (skipN s gapT (skipN s attrT (skipN s gapT a)) + 1)
  split at h
  · rename_i hc
    have hv := valueB_bd s _ _ h
    rw [skip_agree hA gapT _ a rfl (by omega), skip_agree hA attrT _ _ rfl (by omega), skip_agree hA gapT _ _ rfl (by omega)]
    rw [if_pos ⟨by omega, by rw [← hA.same _ (by omega)]; exact hc.2⟩, skip_agree hA gapT _ _ rfl (by omega)]
    exact ⟨value_agree hA _ _ h hk, by omega⟩
  · rename_i hc
    simp only [Option.some.injEq] at h
    have hq := hg _ rfl
    rw [← h] at hq hk
    rw [skip_agree hA gapT _ a rfl (by omega), skip_agree hA attrT _ _ rfl (by omega), skip_agree hA gapT _ _ rfl hq]
    rw [if_neg, h]
    · exact ⟨rfl, by omega⟩
    · rintro ⟨_, h2⟩
      exact hc ⟨by omega, by rw [hA.same _ hq]; exact h2⟩

theorem attrsB_step (s : ByteArray) (f a : Nat) (h : attrStart s a = true) : attrsF s (f + 1) a = (attrNext s a).bind (attrsF s f) := by
  unfold attrsF
  rw [if_pos h]
theorem attrsB_stop (s : ByteArray) (f a : Nat) (h : attrStart s a = false) : attrsF s (f + 1) a = some (skipN s gapT a) := by
  unfold attrsF
  rw [h]; rfl

theorem nextB_ge (s : ByteArray) (a k : Nat) (h : attrNext s a = some k) : skipN s gapT a ≤ k := by
  unfold attrNext at h
  simp only [] at h
  have g2 := skip_ge s attrT (skipN s gapT a)
  have g3 := skip_ge s gapT (skipN s attrT (skipN s gapT a))
  have g4 := skip_ge s gapT (skipN s gapT (skipN s attrT (skipN s gapT a)) + 1)
  split at h
  · have := valueB_bd s _ _ h; omega
  · simp only [Option.some.injEq] at h; omega
theorem startB_gt (s : ByteArray) (a : Nat) (h : attrStart s a = true) : a < skipN s gapT a ∧ skipN s gapT a < s.size := by
  unfold attrStart at h
  simp only [Bool.and_eq_true, decide_eq_true_eq] at h
  exact ⟨h.1, h.2.1⟩

theorem attrsB_ge (s : ByteArray) : ∀ f a e, s.size - a < f → attrsF s f a = some e → skipN s gapT a ≤ e := by
  intro f
  induction f with
  | zero => intro a e hf h; omega
  | succ f ih =>
    intro a e hf h
    cases hst : attrStart s a with
    | false =>
      rw [attrsB_stop s f a hst] at h
      simp only [Option.some.injEq] at h
      omega
    | true =>
      rw [attrsB_step s f a hst] at h
      obtain ⟨k, h1, h2⟩ := Option.bind_eq_some_iff.1 h
      have g := nextB_ge s a k h1
      have g2 := startB_gt s a hst
      have := ih k e (by omega) h2
      have := skip_ge s gapT k
      omega

theorem attrs_agree {s t : ByteArray} {n : Nat} (hA : Agree s t n) : ∀ f a e, s.size - a < f → attrsF s f a = some e → e < n → ∀ f', e - a < f' → attrsF t f' a = some e := by
  intro f
  induction f with
  | zero => intro a e hf h; omega
  | succ f ih =>
    intro a e hf h he f' hf'
    have hge := attrsB_ge s (f + 1) a e hf h
    obtain ⟨f1, rfl⟩ : ∃ f1, f' = f1 + 1 := ⟨f' - 1, by omega⟩
    have hs := start_agree hA a (by omega)
    cases hst : attrStart s a with
    | false =>
      rw [attrsB_stop s f a hst] at h
      simp only [Option.some.injEq] at h
      rw [attrsB_stop t f1 a (by rw [hs, hst]), skip_agree hA gapT _ a rfl (by omega), h]
    | true =>
      rw [attrsB_step s f a hst] at h
      obtain ⟨k, h1, h2⟩ := Option.bind_eq_some_iff.1 h
      have g := nextB_ge s a k h1
      have g2 := startB_gt s a hst
      have g3 := attrsB_ge s f k e (by omega) h2
      have g4 := skip_ge s gapT k
      obtain ⟨n1, n2⟩ := next_agree hA a k h1 (by omega) (fun q hq => by omega)
      rw [attrsB_step t f1 a (by rw [hs, hst]), n1]
      exact ih k e (by omega) h2 he f1 (by omega)

theorem closeB (s : ByteArray) (a k : Nat) (h : closeF s a = some k) : k = a + 1 ∧ a < s.size ∧ byteU s a = 62 := by
  unfold closeF at h
  split at h
  · rename_i hc
    simp only [Option.some.injEq] at h
    exact ⟨by omega, hc.1, hc.2⟩
  · cases h
theorem close_agree {s t : ByteArray} {n : Nat} (hA : Agree s t n) (a k : Nat) (h : closeF s a = some k) (hk : k ≤ n) : closeF t a = some k := by
  obtain ⟨h1, h2, h3⟩ := closeB s a k h
  have hr := hA.right
  unfold closeF
  rw [if_pos ⟨by omega, by rw [← hA.same a (by omega)]; exact h3⟩, h1]
theorem slashB (s : ByteArray) (a : Nat) : a ≤ slashF s a ∧ slashF s a ≤ a + 1 := by unfold slashF; split <;> omega
theorem slash_agree {s t : ByteArray} {n : Nat} (hA : Agree s t n) (a : Nat) (h : a < n) : slashF t a = slashF s a := by
  have hl := hA.left
  have hr := hA.right
  unfold slashF
  rw [← hA.same a h]
  by_cases hc : byteU s a = 47
  · rw [if_pos ⟨by omega, hc⟩, if_pos ⟨by omega, hc⟩]
  · rw [if_neg (fun x => hc x.2), if_neg (fun x => hc x.2)]

theorem open_parts (s : ByteArray) (n : Nat) (h : openF s = some n) : byteU s 0 = 60 ∧ 0 < s.size ∧ (slashF s 1 < s.size ∧ letterU (byteU s (slashF s 1)) = true) ∧
    ((slashF s 1 = 2 ∧ closeF s (skipN s gapT (skipN s nameT (slashF s 1))) = some n) ∨
     (slashF s 1 ≠ 2 ∧ ∃ e, attrsF s (s.size + 1) (skipN s nameT (slashF s 1)) = some e ∧ closeF s (slashF s e) = some n)) := by
  unfold openF at h
  simp only [] at h
  split at h
  · rename_i h0
    split at h
    · rename_i h1
      split at h
      · rename_i h2
        exact ⟨h0.2, h0.1, h1, Or.inl ⟨h2, h⟩⟩
      · rename_i h2
        obtain ⟨e, g1, g2⟩ := Option.bind_eq_some_iff.1 h
        exact ⟨h0.2, h0.1, h1, Or.inr ⟨h2, e, g1, g2⟩⟩
    · cases h
  · cases h

theorem open_agree {s t : ByteArray} {n : Nat} (hA : Agree s t n) (h : openF s = some n) : openF t = some n := by
  obtain ⟨h0, hz, h1, h2⟩ := open_parts s n h
  have hl := hA.left
  have hr := hA.right
  have k1 := skip_ge s nameT (slashF s 1)
  have sl := slashB s 1
  have hn : slashF s 1 < n ∧ skipN s nameT (slashF s 1) < n := by
    rcases h2 with ⟨_, hc⟩ | ⟨_, e, hc, hd⟩
    · have := closeB s _ _ hc
      have := skip_ge s gapT (skipN s nameT (slashF s 1))
      omega
    · have := closeB s _ _ hd
      have := slashB s e
      have := attrsB_ge s _ _ _ (by omega) hc
      have := skip_ge s gapT (skipN s nameT (slashF s 1))
      omega
  have e1 : slashF t 1 = slashF s 1 := slash_agree hA 1 (by omega)
  have e2 := skip_agree hA nameT _ (slashF s 1) rfl hn.2
  have hst : ∀ r, openF t = r ↔ (if slashF s 1 = 2 then closeF t (skipN t gapT (skipN s nameT (slashF s 1))) else (attrsF t (t.size + 1) (skipN s nameT (slashF s 1))).bind fun e => closeF t (slashF t e)) = r := by
    intro r
    unfold openF
    simp only [e1]
    rw [if_pos ⟨by omega, by rw [← hA.same 0 (by omega)]; exact h0⟩, if_pos ⟨by omega, by rw [← hA.same _ hn.1]; exact h1.2⟩, e2]
  rw [hst]
  rcases h2 with ⟨g, hc⟩ | ⟨g, e, hc, hd⟩
  · rw [if_pos g]
    have c := closeB s _ _ hc
    rw [skip_agree hA gapT _ _ rfl (by omega)]
    exact close_agree hA _ _ hc (Nat.le_refl _)
  · rw [if_neg g]
    have c := closeB s _ _ hd
    have sb := slashB s e
    have := attrsB_ge s _ _ _ (by omega) hc
    have := skip_ge s gapT (skipN s nameT (slashF s 1))
    rw [attrs_agree hA _ _ e (by omega) hc (by omega) (t.size + 1) (by omega)]
    show closeF t (slashF t e) = some n
    rw [slash_agree hA e (by omega)]
    exact close_agree hA _ _ hd (Nat.le_refl _)

theorem open_ends (s : ByteArray) (n : Nat) (h : openF s = some n) : 3 ≤ n ∧ n ≤ s.size ∧ byteU s 0 = 60 ∧ byteU s (n - 1) = 62 := by
  obtain ⟨h0, hz, h1, h2⟩ := open_parts s n h
  have sl := slashB s 1
  have k1 := skip_ge s nameT (slashF s 1)
  have hgt : slashF s 1 < skipN s nameT (slashF s 1) := by
    unfold skipN
    rw [leadN_by s nameT _ h1.1, name_contains]
    have : nameU (byteU s (slashF s 1)) = true := by unfold nameU; rw [h1.2]; rfl
    rw [this]; simp
  rcases h2 with ⟨_, hc⟩ | ⟨_, e, hc, hd⟩
  · have c := closeB s _ _ hc
    have := skip_ge s gapT (skipN s nameT (slashF s 1))
    refine ⟨by omega, by omega, h0, ?_⟩
    rw [c.1]; exact c.2.2
  · have c := closeB s _ _ hd
    have := slashB s e
    have := attrsB_ge s _ _ _ (by omega) hc
    have := skip_ge s gapT (skipN s nameT (slashF s 1))
    refine ⟨by omega, by omega, h0, ?_⟩
    rw [c.1]; exact c.2.2

theorem open_bang (s : ByteArray) (h : letterU (byteU s 1) = false) (h2 : byteU s 1 ≠ 47) : openF s = none := by
  cases ho : openF s with
  | none => rfl
  | some n =>
    obtain ⟨_, _, h1, _⟩ := open_parts s n ho
    have e : slashF s 1 = 1 := by unfold slashF; rw [if_neg (fun x => h2 x.2)]
    rw [e, h] at h1
    exact absurd h1.2 (by simp)

end Go.Proofs.YtjaidphlphncjaaDoor
