/- Plain facts on rows: what is in them, what stands beside them. No walk in sight. -/
import Derived.Test.YtkpjcbpfpfjjkaaDoorScanDef
namespace Go.Proofs.YtkpjcbpfpfjjkaaDoor
set_option linter.unusedVariables false
set_option linter.unusedSimpArgs false
open Go Go.RowKit Go.Lib

theorem leadN_run (s : ByteArray) (m : Int) (h0 : 0 ≤ m) (h1 : m < 128) : ∀ (d pos : Nat), s.size - pos = d → pos ≤ s.size →
    (∀ i (h : i < s.size), pos ≤ i → i < pos + leadN s (Utf8.encode m) pos → (s[i].toNat : Int) = m) ∧
    (∀ h : pos + leadN s (Utf8.encode m) pos < s.size, (s[pos + leadN s (Utf8.encode m) pos].toNat : Int) ≠ m) := by
  intro d
  induction d with
  | zero =>
    intro pos hd hp
    have e := leadN_end s (Utf8.encode m) pos (by omega)
    refine ⟨fun i h a b => by omega, fun h => by omega⟩
  | succ d ih =>
    intro pos hd hp
    have hlt : pos < s.size := by omega
    have e := leadN_enc s m h0 h1 pos hlt
    cases hq : ((s[pos].toNat : Int) == m) with
    | false =>
      rw [hq] at e
      simp only [Bool.false_eq_true, if_false] at e
      refine ⟨fun i h a b => by omega, fun h => ?_⟩
      have : pos + leadN s (Utf8.encode m) pos = pos := by omega
      simp only [this]
      intro hh; rw [hh] at hq; simp at hq
    | true =>
      rw [hq, if_pos rfl] at e
      obtain ⟨i1, i2⟩ := ih (pos + 1) (by omega) (by omega)
      refine ⟨fun i h a b => ?_, fun h => ?_⟩
      · by_cases hi : i = pos
        · subst hi; simpa using hq
        · exact i1 i h (by omega) (by omega)
      · have : pos + leadN s (Utf8.encode m) pos = pos + 1 + leadN s (Utf8.encode m) (pos + 1) := by omega
        simp only [this]
        exact i2 (by omega)

/-- a text from which one reads as from another one: alike in some bytes -/
theorem leadN_alike (s t : ByteArray) (m : Int) (h0 : 0 ≤ m) (h1 : m < 128) : ∀ (k i j : Nat), i + k < s.size → j + k < t.size →
    (∀ x, x ≤ k → s.get! (i + x) = t.get! (j + x)) → leadN s (Utf8.encode m) i = k → leadN t (Utf8.encode m) j = k := by
  intro k
  induction k with
  | zero =>
    intro i j hi hj hb hs
    have e := leadN_enc s m h0 h1 i (by omega)
    have e' := leadN_enc t m h0 h1 j (by omega)
    have hx := hb 0 (Nat.le_refl _)
    simp only [Nat.add_zero] at hx
    rw [get!_of_lt (by omega), get!_of_lt (by omega)] at hx
    rw [hx] at e
    split at e
    · omega
    · rename_i hq; rw [if_neg hq] at e'; exact e'
  | succ k ih =>
    intro i j hi hj hb hs
    have e := leadN_enc s m h0 h1 i (by omega)
    have e' := leadN_enc t m h0 h1 j (by omega)
    have hx := hb 0 (Nat.zero_le _)
    simp only [Nat.add_zero] at hx
    rw [get!_of_lt (by omega), get!_of_lt (by omega)] at hx
    rw [hx] at e
    split at e
    · rename_i hq
      rw [if_pos hq] at e'
      rw [e', ih (i + 1) (j + 1) (by omega) (by omega) (fun x hx' => ?_) (by omega)]
      have := hb (x + 1) (by omega)
      rw [show i + 1 + x = i + (x + 1) from by omega, show j + 1 + x = j + (x + 1) from by omega]; exact this
    · omega

theorem size_sub (s : ByteArray) (a b : Nat) (hb : b ≤ s.size) : (s.extract a b).size = b - a := by
  rw [Lib.size_eq, Lib.extract_data, List.length_take, List.length_drop, ← Lib.size_eq]; omega

theorem get!_sub (s : ByteArray) (a b x : Nat) (hx : a + x < b) (hb : b ≤ s.size) : (s.extract a b).get! x = s.get! (a + x) := by
  rw [← Lib.getD_get!', ← Lib.getD_get!', Lib.extract_data, List.getD_eq_getElem?_getD, List.getD_eq_getElem?_getD, List.getElem?_take, if_pos (by omega), List.getElem?_drop]

theorem decodeN_cont (m b0 b1 b2 b3 : Nat) : ((Lib.decodeN m b0 b1 b2 b3).2 = 2 → 1 < m ∧ b1 / 64 = 2) ∧ ((Lib.decodeN m b0 b1 b2 b3).2 = 3 → 2 < m ∧ b2 / 64 = 2) ∧ ((Lib.decodeN m b0 b1 b2 b3).2 = 4 → 3 < m ∧ b3 / 64 = 2) := by
  unfold Lib.decodeN
  repeat' split
  all_goals (simp only []; omega)

theorem decode_last (s : ByteArray) (i k : Nat) (hk : 2 ≤ k) (hk4 : k ≤ 4) (h : (Utf8.decode s i).2 = k) : i + k - 1 < s.size ∧ 128 ≤ (s.get! (i + k - 1)).toNat := by
  rw [Lib.decode_at] at h
  obtain ⟨c2, c3, c4⟩ := decodeN_cont (s.size - i) (s.get! i).toNat (s.get! (i + 1)).toNat (s.get! (i + 2)).toNat (s.get! (i + 3)).toNat
  rcases (by omega : k = 2 ∨ k = 3 ∨ k = 4) with rfl | rfl | rfl
  · have := c2 h; exact ⟨by omega, by rw [show i + 2 - 1 = i + 1 from by omega]; omega⟩
  · have := c3 h; exact ⟨by omega, by rw [show i + 3 - 1 = i + 2 from by omega]; omega⟩
  · have := c4 h; exact ⟨by omega, by rw [show i + 4 - 1 = i + 3 from by omega]; omega⟩

theorem runeF_ascii (s : ByteArray) (n : Nat) (h : n < s.size) (ha : (s.get! n).toNat < 128) : runeF s n = (((s.get! n).toNat : Int), 1) := by
  unfold runeF
  rw [if_pos (by omega), Int.toNat_natCast, decode_ascii s n h (by rw [← get!_of_lt h]; exact ha), get!_of_lt h]; rfl

theorem beforeFrom_ascii (s : ByteArray) (n : Nat) (hn : 1 ≤ n) (hs : n ≤ s.size) (ha : (s.get! (n - 1)).toNat < 128) : ∀ k, 1 ≤ k → k ≤ 4 → k ≤ n → beforeFrom s n k = ((s.get! (n - 1)).toNat : Int) := by
  intro k
  induction k with
  | zero => intro h; omega
  | succ k ih =>
    intro _ h4 hkn
    have e : beforeFrom s n (k + 1) = if (runeF s ((n : Int) - ((k : Int) + 1))).2 = (k : Int) + 1 then (runeF s ((n : Int) - ((k : Int) + 1))).1 else beforeFrom s n k := rfl
    have ei : (n : Int) - ((k : Int) + 1) = ((n - (k + 1) : Nat) : Int) := by omega
    rw [e, ei]
    by_cases hk : k = 0
    · subst hk
      rw [runeF_ascii s (n - (0 + 1)) (by omega) (by simpa using ha)]
      simp
    · rw [if_neg]
      · exact ih (by omega) (by omega) (by omega)
      · intro hh
        unfold runeF at hh
        rw [if_pos (by omega), Int.toNat_natCast] at hh
        have hh' : (Utf8.decode s (n - (k + 1))).2 = k + 1 := by have : (((Utf8.decode s (n - (k + 1))).2 : Nat) : Int) = (k : Int) + 1 := hh; omega
        have := (decode_last s _ _ (by omega) (by omega) hh').2
        rw [show n - (k + 1) + (k + 1) - 1 = n - 1 from by omega] at this
        omega

theorem beforeF_ascii (s : ByteArray) (n : Nat) (hn : 1 ≤ n) (hs : n ≤ s.size) (ha : (s.get! (n - 1)).toNat < 128) : beforeF s n = ((s.get! (n - 1)).toNat : Int) := by
  unfold beforeF
  rw [if_neg (by omega), Int.toNat_natCast]
  exact beforeFrom_ascii s n hn hs ha _ (by omega) (by omega) (by omega)

theorem ahead_ascii (s : ByteArray) (n : Nat) (hn : 1 ≤ n) (hs : n ≤ s.size) (ha : (s.get! (n - 1)).toNat < 128) : aheadOf s n = sideC ((s.get! (n - 1)).toNat : Int) := by
  rw [ahead_yes s n (by omega), beforeF_ascii s n hn hs ha]
theorem behind_ascii (s : ByteArray) (n : Nat) (h : n < s.size) (ha : (s.get! n).toNat < 128) : behindOf s n = sideC ((s.get! n).toNat : Int) := by
  rw [behind_yes s n h, runeF_ascii s n h ha]

/-- of a row: what its bytes are, and that it is all of it -/
theorem row_facts (s : ByteArray) (n : Nat) (hn : n < s.size) (m : Int) (hm : (s[n].toNat : Int) = m) (h0 : 0 ≤ m) (h1 : m < 128) :
    1 ≤ rowOf s n m ∧ n + rowOf s n m ≤ s.size ∧ (∀ i (h : i < s.size), n ≤ i → i < n + rowOf s n m → (s[i].toNat : Int) = m) ∧ (∀ h : n + rowOf s n m < s.size, (s[n + rowOf s n m].toNat : Int) ≠ m) := by
  have hl := rowOf_le s n m
  obtain ⟨r1, r2⟩ := leadN_run s m h0 h1 _ n rfl (by omega)
  rw [rowOf_eq] at *
  refine ⟨?_, by omega, r1, r2⟩
  rw [leadN_enc s m h0 h1 n hn, if_pos (by simpa using hm)]; omega

/-- a row cut out, with a character of one byte at each side, is that row -/
theorem row_cut (s : ByteArray) (n : Nat) (hn : n < s.size) (m : Int) (hm : (s[n].toNat : Int) = m) (h2 : m = 42 ∨ m = 95) (f : Nat) (hf : n = 0 ∧ f = 0 ∨ f + 1 = n)
    (he : n + rowOf s n m < s.size) (ha : (s.get! (n + rowOf s n m)).toNat < 128) (hb : 0 < n → (s.get! (n - 1)).toNat < 128) :
    scanR (s.extract f (n + rowOf s n m + 1)) ((n - f : Nat) : Int) = scanR s n := by
  have hr := row_facts s n hn m hm (by omega) (by omega)
  have hg : ∀ x, f + x < n + rowOf s n m + 1 → (s.extract f (n + rowOf s n m + 1)).get! x = s.get! (f + x) := fun x hx => get!_sub s f _ x hx (by omega)
  have hz : (s.extract f (n + rowOf s n m + 1)).size = n + rowOf s n m + 1 - f := by rw [size_sub _ _ _ (by omega)]
  generalize hk : rowOf s n m = k at *
  generalize s.extract f (n + k + 1) = t at *
  have hrow : rowOf t (n - f) m = k := by
    rw [rowOf_eq]
    rw [rowOf_eq] at hk
    refine leadN_alike s t m (by omega) (by omega) k n (n - f) (by omega) (by omega) (fun x hx => ?_) hk
    rw [hg _ (by omega), show f + (n - f + x) = n + x from by omega]
  have hbt : t[n - f].toNat = s[n].toNat := by
    have := hg (n - f) (by omega)
    rw [get!_of_lt (by omega), show f + (n - f) = n from by omega, get!_of_lt hn] at this
    rw [this]
  have e1 := scanR_yes t (n - f) (by omega) m (by rw [hbt]; exact hm) h2
  rw [e1, scanR_yes s n hn m hm h2, hrow, hk]
  have eb : behindOf t (((n - f : Nat) : Int) + (k : Nat)) = behindOf s ((n : Int) + (k : Nat)) := by
    rw [show ((n - f : Nat) : Int) + (k : Nat) = ((n - f + k : Nat) : Int) from by omega, show (n : Int) + (k : Nat) = ((n + k : Nat) : Int) from by omega]
    have hx := hg (n - f + k) (by omega)
    rw [show f + (n - f + k) = n + k from by omega] at hx
    rw [behind_ascii t _ (by omega) (by rw [hx]; exact ha), behind_ascii s _ he ha, hx]
  have ea : aheadOf t (n - f) = aheadOf s n := by
    by_cases hp : 0 < n
    · have hx := hg (n - f - 1) (by omega)
      rw [show f + (n - f - 1) = n - 1 from by omega] at hx
      rw [ahead_ascii t _ (by omega) (by omega) (by rw [hx]; exact hb hp), ahead_ascii s n (by omega) (by omega) (hb hp), hx]
    · rw [ahead_no s n hp, ahead_no t _ (by omega)]
  rw [eb, ea]

end Go.Proofs.YtkpjcbpfpfjjkaaDoor
