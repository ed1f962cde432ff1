/- Plain: what a text holds; letter case; a text mapped rune by rune holds the same ASCII patterns as one mapped byte by byte. No walk here. -/
import Derived.Test.YtjaidphlphncjaaDoorTagKind
import Derived.Lib.TrimUEq
import Derived.Lib.TrimAscii
namespace Go.Proofs.YtjaidphlphncjaaDoor
set_option linter.unusedVariables false
set_option linter.unusedSimpArgs false
open Go Go.RowKit Go.Lib

/-- does a pattern stand anywhere? -/
def hasL : List UInt8 → List UInt8 → Bool
  | [], p => p.isPrefixOf []
  | x :: t, p => p.isPrefixOf (x :: t) || hasL t p

theorem contains_hasL (l p : List UInt8) : Lib.contains l p = hasL l p := by
  unfold Lib.contains
  induction l with
  | nil => cases p <;> rfl
  | cons x t ih =>
    unfold hasL Lib.index
    have hg := Lib.index_ge t p
    cases h : p.isPrefixOf (x :: t) with
    | true => simp
    | false =>
      simp only [Bool.false_eq_true, if_false, Bool.false_or]
      rw [← ih]
      by_cases h1 : Lib.index t p = -1
      · rw [h1]; rfl
      · have hb : (Lib.index t p == -1) = false := beq_eq_false_iff_ne.2 h1
        rw [hb]
        simp only [Bool.false_eq_true, if_false]
        rw [decide_eq_true (by omega : 0 ≤ Lib.index t p + 1), decide_eq_true (by omega : 0 ≤ Lib.index t p)]

theorem prefix_more : ∀ (p l b : List UInt8), p.isPrefixOf l = true → p.isPrefixOf (l ++ b) = true
  | [], _, _, _ => by simp
  | c :: p, [], b, h => by simp at h
  | c :: p, x :: l, b, h => by
    simp only [List.cons_append, List.isPrefixOf, Bool.and_eq_true] at h ⊢
    exact ⟨h.1, prefix_more p l b h.2⟩

theorem hasL_right (l b p : List UInt8) (h : hasL l p = true) : hasL (l ++ b) p = true := by
  induction l with
  | nil =>
    have : p = [] := by cases p with
      | nil => rfl
      | cons c p => simp [hasL] at h
    subst this
    cases b <;> simp [hasL]
  | cons x t ih =>
    simp only [hasL, Bool.or_eq_true, List.cons_append] at h ⊢
    rcases h with h | h
    · left
      have := prefix_more p (x :: t) b h
      simpa using this
    · right; exact ih h

theorem hasL_left (a l p : List UInt8) (h : hasL l p = true) : hasL (a ++ l) p = true := by
  induction a with
  | nil => exact h
  | cons x t ih => simp only [List.cons_append, hasL, Bool.or_eq_true]; exact Or.inr ih

/-- an ASCII pattern ends ahead of a high byte -/
theorem prefix_high (b : List UInt8) (y : UInt8) (hy : 128 ≤ y.toNat) : ∀ (p a : List UInt8), (∀ c ∈ p, c.toNat < 128) → p.isPrefixOf (a ++ y :: b) = p.isPrefixOf a
  | [], a, _ => by simp
  | c :: p, [], h => by
    have hc := h c (List.mem_cons_self ..)
    have : (c == y) = false := beq_eq_false_iff_ne.2 (fun e => by subst e; omega)
    simp [List.isPrefixOf, this]
  | c :: p, x :: a, h => by
    simp only [List.cons_append, List.isPrefixOf]
    rw [prefix_high b y hy p a (fun c hc => h c (List.mem_cons_of_mem _ hc))]

theorem hasL_skip (h b p : List UInt8) (hp : p ≠ []) (hA : ∀ c ∈ p, c.toNat < 128) (hh : ∀ y ∈ h, 128 ≤ y.toNat) : hasL (h ++ b) p = hasL b p := by
  induction h with
  | nil => rfl
  | cons x t ih =>
    have e := prefix_high (t ++ b) x (hh x (List.mem_cons_self ..)) p [] hA
    have e2 : p.isPrefixOf [] = false := by cases p with
      | nil => exact absurd rfl hp
      | cons => rfl
    simp only [List.nil_append] at e
    simp only [List.cons_append, hasL]
    rw [e, e2, Bool.false_or]
    exact ih (fun y hy => hh y (List.mem_cons_of_mem _ hy))

theorem hasL_high (a h b p : List UInt8) (hp : p ≠ []) (hA : ∀ c ∈ p, c.toNat < 128) (hne : h ≠ []) (hh : ∀ y ∈ h, 128 ≤ y.toNat) : hasL (a ++ (h ++ b)) p = (hasL a p || hasL b p) := by
  induction a with
  | nil =>
    rw [List.nil_append, hasL_skip h b p hp hA hh]
    have e2 : p.isPrefixOf [] = false := by cases p with
      | nil => exact absurd rfl hp
      | cons => rfl
    simp [hasL, e2]
  | cons x t ih =>
    simp only [List.cons_append, hasL]
    rw [ih]
    have e : p.isPrefixOf (x :: (t ++ (h ++ b))) = p.isPrefixOf (x :: t) := by
      cases h with
      | nil => exact absurd rfl hne
      | cons y h => exact prefix_high (h ++ b) y (hh y (List.mem_cons_self ..)) p (x :: t) hA
    rw [e, Bool.or_assoc]

/-- what is decoded at a high byte: high bytes, and they stay so -/
theorem decode_high (c : UInt8) (t : List UInt8) (hc : 128 ≤ c.toNat) :
    (∀ y ∈ (c :: t).take (decodeL (c :: t)).2, 128 ≤ y.toNat) ∧ 128 ≤ (decodeL (c :: t)).1 := by
  rw [decodeL_N]
  have k1 : ((c :: t).getD 0 0).toNat = c.toNat := rfl
  have hlow : ∀ x : UInt8, x.toNat / 64 = 2 → 128 ≤ x.toNat := fun x h => by omega
  rcases decodeN_shape (c :: t).length ((c :: t).getD 0 0).toNat ((c :: t).getD 1 0).toNat ((c :: t).getD 2 0).toNat ((c :: t).getD 3 0).toNat with ⟨e0, e⟩ | ⟨c1, c2, c3, cv, e⟩ | ⟨c1, c2, c3, c4, cv, cs, e⟩ | ⟨c1, c2, c3, c4, c5, cv, cw, e⟩ | e
  · omega
  · rw [e, takeB _ c2]
    refine ⟨fun y hy => ?_, cv⟩
    simp only [List.mem_cons, List.not_mem_nil, or_false] at hy
    rcases hy with rfl | rfl
    · exact hc
    · exact hlow _ c3
  · rw [e, takeC _ c2]
    refine ⟨fun y hy => ?_, by show 128 ≤ _; omega⟩
    simp only [List.mem_cons, List.not_mem_nil, or_false] at hy
    rcases hy with rfl | rfl | rfl
    · exact hc
    · exact hlow _ c3
    · exact hlow _ c4
  · rw [e, takeD _ c2]
    refine ⟨fun y hy => ?_, by show 128 ≤ _; omega⟩
    simp only [List.mem_cons, List.not_mem_nil, or_false] at hy
    rcases hy with rfl | rfl | rfl | rfl
    · exact hc
    · exact hlow _ c3
    · exact hlow _ c4
    · exact hlow _ c5
  · rw [e]
    refine ⟨fun y hy => ?_, by decide⟩
    simp only [List.take_succ_cons, List.take_zero, List.mem_cons, List.not_mem_nil, or_false] at hy
    subst hy; exact hc

theorem encode_high (r : Int) (h : 128 ≤ r) : encodeRune r ≠ [] ∧ ∀ y ∈ encodeRune r, 128 ≤ y.toNat := by
  unfold encodeRune
  by_cases h2 : r ≤ 2047
  · rw [encodeRuneZ_two h h2]
    refine ⟨by simp, fun y hy => ?_⟩
    simp only [List.map_cons, List.map_nil, List.mem_cons, List.not_mem_nil, or_false] at hy
    rcases hy with rfl | rfl <;> (simp <;> omega)
  by_cases h3 : (2048 ≤ r ∧ r < 55296) ∨ (57343 < r ∧ r ≤ 65535)
  · rw [encodeRuneZ_three h3]
    refine ⟨by simp, fun y hy => ?_⟩
    simp only [List.map_cons, List.map_nil, List.mem_cons, List.not_mem_nil, or_false] at hy
    rcases hy with rfl | rfl | rfl <;> (simp <;> omega)
  by_cases h4 : 65536 ≤ r ∧ r ≤ 1114111
  · rw [encodeRuneZ_four h4.1 h4.2]
    refine ⟨by simp, fun y hy => ?_⟩
    simp only [List.map_cons, List.map_nil, List.mem_cons, List.not_mem_nil, or_false] at hy
    rcases hy with rfl | rfl | rfl | rfl <;> (simp <;> omega)
  · rw [encodeRuneZ_bad (by omega)]
    decide

theorem lowU_high (y : UInt8) (h : 128 ≤ y.toNat) : 128 ≤ (lowU y).toNat := by
  unfold lowU; rw [if_neg (by omega)]; exact h

/-- mapped by runes or by bytes: the same ASCII patterns stand there -/
theorem mapD_has (p : List UInt8) (hp : p ≠ []) (hA : ∀ c ∈ p, c.toNat < 128) : ∀ (n : Nat) (l a : List UInt8), l.length ≤ n → hasL (a ++ Lib.mapD lowI l) p = hasL (a ++ l.map lowU) p := by
  intro n
  induction n with
  | zero =>
    intro l a hl
    have : l = [] := List.eq_nil_of_length_eq_zero (by omega)
    subst this; rfl
  | succ n ih =>
    intro l a hl
    cases l with
    | nil => rfl
    | cons c t =>
      rw [Lib.mapD_step _ _ (by simp)]
      by_cases hc : c.toNat < 128
      · have hd : decodeL (c :: t) = (c.toNat, 1) := decodeL_ascii c t hc
        have hl0 : 0 ≤ lowI (c.toNat : Int) ∧ lowI (c.toNat : Int) ≤ 127 := by unfold lowI; split <;> omega
        have he : Lib.encodeRune (lowI (c.toNat : Int)) = [lowU c] := by
          unfold Lib.encodeRune
          rw [Lib.encodeRuneZ_one hl0.1 hl0.2]
          unfold lowI lowU
          by_cases hr : 65 ≤ c.toNat ∧ c.toNat ≤ 90
          · rw [if_pos (by omega), if_pos hr]
            simp only [List.map_cons, List.map_nil]
            congr 1
            try (apply UInt8.toNat_inj.1; simp <;> omega)
          · rw [if_neg (by omega), if_neg hr]
            simp
        rw [hd]
        simp only []
        rw [if_pos hl0.1, he, List.drop_one, List.tail_cons]
        have := ih t (a ++ [lowU c]) (by simp at hl; omega)
        simpa [List.append_assoc] using this
      · obtain ⟨h1, h2⟩ := decode_high c t (by omega)
        have hw := decodeL_width (c :: t)
        have hle := decodeL_le (c :: t) (by simp)
        have hlo : lowI ((decodeL (c :: t)).1 : Int) = ((decodeL (c :: t)).1 : Int) := by unfold lowI; rw [if_neg (by omega)]
        obtain ⟨e1, e2⟩ := encode_high ((decodeL (c :: t)).1 : Int) (by omega)
        rw [hlo, if_pos (by omega)]
        rw [hasL_high a _ _ p hp hA e1 e2]
        have hsplit : (c :: t).map lowU = ((c :: t).take (decodeL (c :: t)).2).map lowU ++ ((c :: t).drop (decodeL (c :: t)).2).map lowU := by
          rw [← List.map_append, List.take_append_drop]
        rw [hsplit, hasL_high a _ _ p hp hA]
        · have := ih ((c :: t).drop (decodeL (c :: t)).2) [] (by rw [List.length_drop]; simp at hl hle ⊢; omega)
          simp only [List.nil_append] at this
          rw [this]
        · intro h0
          have := congrArg List.length h0
          rw [List.length_map, List.length_take] at this
          simp at this hle
          omega
        · intro y hy
          obtain ⟨z, hz, rfl⟩ := List.mem_map.1 hy
          exact lowU_high z (h1 z hz)

theorem mapD_contains (l p : List UInt8) (hp : p ≠ []) (hA : ∀ c ∈ p, c.toNat < 128) : Lib.contains (Lib.mapD lowI l) p = hasL (l.map lowU) p := by
  rw [contains_hasL]
  exact mapD_has p hp hA l.length l [] (Nat.le_refl _)

def pPre : List UInt8 := [60, 47, 112, 114, 101, 62]
def pScript : List UInt8 := [60, 47, 115, 99, 114, 105, 112, 116, 62]
def pStyle : List UInt8 := [60, 47, 115, 116, 121, 108, 101, 62]
def pArea : List UInt8 := [60, 47, 116, 101, 120, 116, 97, 114, 101, 97, 62]

/-- is a line the last one of a block? -/
def endsK (s : List UInt8) (kind : Int) : Bool :=
  if kind = 1 then hasL (s.map lowU) pPre || (hasL (s.map lowU) pScript || (hasL (s.map lowU) pStyle || hasL (s.map lowU) pArea))
  else if kind = 2 then hasL s [45, 45, 62]
  else if kind = 3 then hasL s [63, 62]
  else if kind = 4 then hasL s [62]
  else if kind = 5 then hasL s [93, 93, 62]
  else false

/-- a capital letter for a small one -/
def upU (c : UInt8) : UInt8 := if 97 ≤ c.toNat ∧ c.toNat ≤ 122 then c - 32 else c

theorem low_up (c : UInt8) : lowU (upU c) = lowU c := by
  have h : ∀ n, n < 256 → lowU (upU (UInt8.ofNat n)) = lowU (UInt8.ofNat n) := by decide +kernel
  have := h c.toNat c.toNat_lt
  simpa using this

theorem up_other (c d : UInt8) (hd : d = 45 ∨ d = 62 ∨ d = 63 ∨ d = 93) : (d == upU c) = (d == c) := by
  have h1 : ∀ n, n < 256 → ∀ d ∈ ([45, 62, 63, 93] : List UInt8), (d == upU (UInt8.ofNat n)) = (d == UInt8.ofNat n) := by decide +kernel
  have := h1 c.toNat c.toNat_lt d (by rcases hd with rfl | rfl | rfl | rfl <;> decide)
  simpa using this

theorem prefix_up : ∀ (p l : List UInt8), (∀ d ∈ p, d = 45 ∨ d = 62 ∨ d = 63 ∨ d = 93) → p.isPrefixOf (l.map upU) = p.isPrefixOf l
  | [], _, _ => by simp
  | d :: p, [], _ => by simp
  | d :: p, x :: l, h => by
    simp only [List.map_cons, List.isPrefixOf]
    rw [up_other x d (h d (List.mem_cons_self ..)), prefix_up p l (fun d hd => h d (List.mem_cons_of_mem _ hd))]

theorem hasL_up (p : List UInt8) (h : ∀ d ∈ p, d = 45 ∨ d = 62 ∨ d = 63 ∨ d = 93) (l : List UInt8) : hasL (l.map upU) p = hasL l p := by
  induction l with
  | nil => rfl
  | cons x l ih =>
    simp only [List.map_cons, hasL]
    rw [ih, ← List.map_cons, prefix_up p (x :: l) h]

theorem endsK_up (s : List UInt8) (kind : Int) : endsK (s.map upU) kind = endsK s kind := by
  unfold endsK
  have e : (s.map upU).map lowU = s.map lowU := by
    rw [List.map_map]; apply List.map_congr_left; intro c _; exact low_up c
  rw [e, hasL_up _ (by decide), hasL_up _ (by decide), hasL_up _ (by decide), hasL_up _ (by decide)]

theorem hasL_mid (a s b p : List UInt8) (h : hasL s p = true) : hasL (a ++ s ++ b) p = true := hasL_right _ _ _ (hasL_left _ _ _ h)

theorem endsK_mid (a s b : List UInt8) (kind : Int) (h : endsK s kind = true) : endsK (a ++ s ++ b) kind = true := by
  unfold endsK at h ⊢
  by_cases h1 : kind = 1
  · rw [if_pos h1] at h ⊢
    simp only [List.map_append]
    simp only [Bool.or_eq_true] at h ⊢
    rcases h with h | h | h | h
    · exact Or.inl (hasL_mid _ _ _ _ h)
    · exact Or.inr (Or.inl (hasL_mid _ _ _ _ h))
    · exact Or.inr (Or.inr (Or.inl (hasL_mid _ _ _ _ h)))
    · exact Or.inr (Or.inr (Or.inr (hasL_mid _ _ _ _ h)))
  rw [if_neg h1] at h ⊢
  by_cases h2 : kind = 2
  · rw [if_pos h2] at h ⊢; exact hasL_mid _ _ _ _ h
  rw [if_neg h2] at h ⊢
  by_cases h3 : kind = 3
  · rw [if_pos h3] at h ⊢; exact hasL_mid _ _ _ _ h
  rw [if_neg h3] at h ⊢
  by_cases h4 : kind = 4
  · rw [if_pos h4] at h ⊢; exact hasL_mid _ _ _ _ h
  rw [if_neg h4] at h ⊢
  by_cases h5 : kind = 5
  · rw [if_pos h5] at h ⊢; exact hasL_mid _ _ _ _ h
  rw [if_neg h5] at h
  exact absurd h (by simp)

theorem endsK_other (s : List UInt8) (kind : Int) (h : kind < 1 ∨ 5 < kind) : endsK s kind = false := by
  unfold endsK
  rw [if_neg (by omega), if_neg (by omega), if_neg (by omega), if_neg (by omega), if_neg (by omega)]

end Go.Proofs.YtjaidphlphncjaaDoor
