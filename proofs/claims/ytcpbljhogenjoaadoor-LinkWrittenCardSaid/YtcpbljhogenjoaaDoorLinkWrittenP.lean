/- Plain: what is written with backslashes is read as it is. No walk here. -/
import Derived.Test.YtcpbljhogenjoaaDoorEscPlain
import Derived.Test.YtcpbljhogenjoaaDoorLinkDef
namespace Go.Proofs.YtcpbljhogenjoaaDoor
set_option linter.unusedVariables false
set_option linter.unusedSimpArgs false
open Go Go.RowKit Go.Shelf Go.Lib

/-- a byte with a backslash ahead, where it is a plain mark -/
def maskU (c : UInt8) : List UInt8 := if plainU c = true then [92, c] else [c]
def maskL (l : List UInt8) : List UInt8 := l.flatMap maskU

theorem byte_at {t : ByteArray} {pre : List UInt8} {x : UInt8} {r : List UInt8} (h : t.data.toList = pre ++ x :: r) : byteU t pre.length = x := by
  unfold byteU; rw [h]; simp [List.getD_eq_getElem?_getD]
theorem byte_at1 {t : ByteArray} {pre : List UInt8} {x y : UInt8} {r : List UInt8} (h : t.data.toList = pre ++ x :: y :: r) : byteU t (pre.length + 1) = y := by
  unfold byteU; rw [h]; simp [List.getD_eq_getElem?_getD]
theorem sz_at {t : ByteArray} {l : List UInt8} (h : t.data.toList = l) : t.size = l.length := by rw [← lst_size, h]

theorem plain_fin : ∀ c : Fin 256, plainU (UInt8.ofNat c.val) = false → UInt8.ofNat c.val ≠ 92 ∧ UInt8.ofNat c.val ≠ 38 ∧ UInt8.ofNat c.val ≠ 34 ∧ UInt8.ofNat c.val ≠ 40 ∧ UInt8.ofNat c.val ≠ 41 ∧ UInt8.ofNat c.val ≠ 60 ∧ UInt8.ofNat c.val ≠ 62 := by decide +kernel
theorem plain_no (c : UInt8) (h : plainU c = false) : c ≠ 92 ∧ c ≠ 38 ∧ c ≠ 34 ∧ c ≠ 40 ∧ c ≠ 41 ∧ c ≠ 60 ∧ c ≠ 62 := by
  have := plain_fin ⟨c.toNat, c.toNat_lt⟩
  simpa using this (by simpa using h)

theorem step_esc {t : ByteArray} {pre : List UInt8} {c : UInt8} {r : List UInt8} (h : t.data.toList = pre ++ 92 :: c :: r) (hc : plainU c = true) : escU t pre.length = true := by
  have hz := sz_at h
  simp at hz
  unfold escU
  rw [byte_at h, byte_at1 h, hc, decide_eq_true (by omega)]; rfl
theorem step_noesc {t : ByteArray} {pre : List UInt8} {c : UInt8} {r : List UInt8} (h : t.data.toList = pre ++ c :: r) (hc : c ≠ 92) : escU t pre.length = false := by
  unfold escU
  rw [byte_at h, beq_eq_false_iff_ne.2 hc]; rfl

theorem up_mask (p : UInt8 → Bool) (c : UInt8) (h92 : p 92 = false) (hc : p c = true) : ∀ (l pre : List UInt8) (t : ByteArray) (r : List UInt8), (∀ x ∈ l, plainU x = false → p x = false) → t.data.toList = pre ++ (maskL l ++ c :: r) → upF t p pre.length = pre.length + (maskL l).length := by
  intro l
  induction l with
  | nil =>
    intro pre t r _ h
    have h' : t.data.toList = pre ++ c :: r := by simpa [maskL] using h
    have hz := sz_at h'
    simp at hz
    rw [upF_yes t p pre.length (by omega) (by rw [byte_at h']; exact hc)]; simp [maskL]
  | cons x l ih =>
    intro pre t r hp h
    have hpl := fun y hy => hp y (List.mem_cons_of_mem _ hy)
    cases hx : plainU x with
    | true =>
      have hm : maskL (x :: l) = 92 :: x :: maskL l := by simp [maskL, maskU, hx]
      rw [hm] at h ⊢
      have h' : t.data.toList = pre ++ 92 :: x :: (maskL l ++ c :: r) := by simpa using h
      have hz := sz_at h'
      simp at hz
      have hs := step_esc h' hx
      rw [upF_no t p pre.length (by omega) (by rw [byte_at h']; exact h92)]
      have hst : stepN t pre.length = 2 := by unfold stepN; rw [if_pos hs]
      have := ih (pre ++ [92, x]) t r hpl (by simpa using h')
      rw [hst]
      simp at this ⊢
      omega
    | false =>
      have hm : maskL (x :: l) = x :: maskL l := by simp [maskL, maskU, hx]
      rw [hm] at h ⊢
      have h' : t.data.toList = pre ++ x :: (maskL l ++ c :: r) := by simpa using h
      have hz := sz_at h'
      simp at hz
      have hs := step_noesc h' (plain_no x hx).1
      rw [upF_no t p pre.length (by omega) (by rw [byte_at h']; exact hp x (List.mem_cons_self ..) hx)]
      have hst : stepN t pre.length = 1 := by unfold stepN; rw [if_neg (by rw [hs]; decide)]
      have := ih (pre ++ [x]) t r hpl (by simpa using h')
      rw [hst]
      simp at this ⊢
      omega

theorem ent_none {t : ByteArray} {pre : List UInt8} {c : UInt8} {r : List UInt8} (h : t.data.toList = pre ++ c :: r) (hc : c ≠ 38) : (entF t pre.length).2 = 0 := by
  rw [ent_no t pre.length (by rw [byte_at h, beq_eq_false_iff_ne.2 hc]; simp)]

theorem plain_mask : ∀ (l pre : List UInt8) (t : ByteArray), t.data.toList = pre ++ maskL l → plainT t pre.length = l := by
  intro l
  induction l with
  | nil =>
    intro pre t h
    have hz := sz_at h
    simp [maskL] at hz
    exact plainT_end t _ (by omega)
  | cons x l ih =>
    intro pre t h
    cases hx : plainU x with
    | true =>
      have hm : maskL (x :: l) = 92 :: x :: maskL l := by simp [maskL, maskU, hx]
      rw [hm] at h
      have hz := sz_at h
      simp at hz
      have hs := step_esc h hx
      rw [plainT_esc t pre.length (by omega) (ent_none h (by decide)) hs, byte_at1 h]
      have := ih (pre ++ [92, x]) t (by simpa using h)
      simp at this
      rw [this]
    | false =>
      have hm : maskL (x :: l) = x :: maskL l := by simp [maskL, maskU, hx]
      rw [hm] at h
      have hz := sz_at h
      simp at hz
      have hn := plain_no x hx
      have hs := step_noesc h hn.1
      rw [plainT_one t pre.length (by omega) (ent_none h hn.2.1) hs, byte_at h]
      have := ih (pre ++ [x]) t (by simpa using h)
      simp at this
      rw [this]

theorem plainF_mask (u : ByteArray) (l : List UInt8) (h : u.data.toList = maskL l) : plainF u = ⟨l.toArray⟩ := by
  rw [plainT_all]
  have := plain_mask l [] u (by simpa using h)
  simp at this
  rw [this]

theorem cut_mid {t : ByteArray} {o c : UInt8} {m : List UInt8} (h : t.data.toList = o :: (m ++ [c])) : (t.extract 1 (1 + m.length)).data.toList = m := by
  rw [Lib.extract_data, h]
  simp

/-- a destination between marks -/
theorem dest_mask (t : ByteArray) (l : List UInt8) (h : t.data.toList = 60 :: (maskL l ++ [62])) (h10 : ∀ x ∈ l, x ≠ 10) : destF t 0 = (⟨l.toArray⟩, (maskL l).length + 2) := by
  have hz := sz_at h
  simp at hz
  have h' : t.data.toList = [60] ++ (maskL l ++ 62 :: []) := by simpa using h
  have hu := up_mask angU 62 (by decide) (by decide) l [60] t [] (fun x hx hp => by
    have hn := plain_no x hp
    unfold angU
    rw [beq_eq_false_iff_ne.2 (h10 x hx), beq_eq_false_iff_ne.2 hn.2.2.2.2.2.1, beq_eq_false_iff_ne.2 hn.2.2.2.2.2.2]; rfl) h'
  simp only [List.length_singleton] at hu
  have hb0 : byteU t 0 = 60 := byte_at (pre := []) (by simpa using h)
  have hbe : byteU t (1 + (maskL l).length) = 62 := by
    have := byte_at (t := t) (pre := 60 :: maskL l) (x := 62) (r := []) (by simpa using h)
    simpa [Nat.add_comm] using this
  unfold destF
  rw [hb0, decide_eq_true (by omega)]
  simp only [Bool.and_self, beq_self_eq_true, if_true, Nat.zero_add, hu, hbe, Nat.sub_zero]
  rw [decide_eq_true (by omega), if_pos (by rfl), plainF_mask _ l (cut_mid h)]
  congr 1; omega

/-- a title between marks -/
theorem title_mask (t : ByteArray) (o c : UInt8) (l : List UInt8) (ho : o = 34 ∧ c = 34 ∨ o = 40 ∧ c = 41) (h : t.data.toList = o :: (maskL l ++ [c])) : titleF t 0 = (⟨l.toArray⟩, (maskL l).length + 2) := by
  have hz := sz_at h
  simp at hz
  have hc : endU o = c := by rcases ho with ⟨rfl, rfl⟩ | ⟨rfl, rfl⟩ <;> rfl
  have h' : t.data.toList = [o] ++ (maskL l ++ c :: []) := by simpa using h
  have hu := up_mask (tstopU o) c (by rcases ho with ⟨rfl, rfl⟩ | ⟨rfl, rfl⟩ <;> decide) (by unfold tstopU; rw [hc]; simp) l [o] t [] (fun x hx hp => by
    have hn := plain_no x hp
    unfold tstopU
    rcases ho with ⟨rfl, rfl⟩ | ⟨rfl, rfl⟩
    · rw [hc, beq_eq_false_iff_ne.2 hn.2.2.1]; rfl
    · rw [hc, beq_eq_false_iff_ne.2 hn.2.2.2.1, beq_eq_false_iff_ne.2 hn.2.2.2.2.1]; rfl) h'
  simp only [List.length_singleton] at hu
  have hb0 : byteU t 0 = o := byte_at (pre := []) (by simpa using h)
  have hbe : byteU t (1 + (maskL l).length) = c := by
    have := byte_at (t := t) (pre := o :: maskL l) (x := c) (r := []) (by simpa using h)
    simpa [Nat.add_comm] using this
  have h3 : (o == 34 || (o == 39 || o == 40)) = true := by rcases ho with ⟨rfl, rfl⟩ | ⟨rfl, rfl⟩ <;> rfl
  unfold titleF
  rw [hb0, h3, decide_eq_true (by omega)]
  simp only [Bool.and_self, if_true, Nat.zero_add, hu, hbe, hc, Nat.sub_zero]
  rw [decide_eq_true (by omega), if_pos (by simp), plainF_mask _ l (cut_mid h)]
  congr 1; omega

end Go.Proofs.YtcpbljhogenjoaaDoor
