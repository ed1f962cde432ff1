/- Plain: what stands behind HTML makes no difference to Raw. No walk in sight. -/
import Derived.Test.YtjaidphlphncjaaDoorTagRaw
import Derived.Test.YtjaidphlphncjaaDoorTagBehindPlain
namespace Go.Proofs.YtjaidphlphncjaaDoor
set_option linter.unusedVariables false
set_option linter.unusedSimpArgs false
open Go Go.RowKit Go.Lib

theorem agree_take {s t : ByteArray} {n : Nat} (hA : Agree s t n) : s.data.toList.take n = t.data.toList.take n := by
  have hl := hA.left
  have hr := hA.right
  apply List.ext_getElem
  · rw [List.length_take, List.length_take, lst_size, lst_size]; omega
  · intro i h1 h2
    rw [List.length_take, lst_size] at h1
    have := hA.same i (by omega)
    rw [byteU_in s i (by omega), byteU_in t i (by omega)] at this
    rw [List.getElem_take, List.getElem_take]
    exact this

theorem occ_agree {s t : ByteArray} {n : Nat} (hA : Agree s t n) (p : List UInt8) (k : Nat) (h : k + p.length ≤ n) : p.isPrefixOf (t.data.toList.drop k) = p.isPrefixOf (s.data.toList.drop k) := by
  have ht := agree_take hA
  have e : (t.data.toList.drop k).take p.length = (s.data.toList.drop k).take p.length := by
    have h1 : ∀ l : List UInt8, (l.drop k).take p.length = ((l.take n).drop k).take p.length := fun l => by
      rw [List.drop_take, List.take_take, Nat.min_eq_left (by omega)]
    rw [h1, h1 s.data.toList, ht]
  rw [Bool.eq_iff_iff, List.isPrefixOf_iff_prefix, List.isPrefixOf_iff_prefix, List.prefix_iff_eq_take, List.prefix_iff_eq_take, e]

theorem pre_agree {s t : ByteArray} {n : Nat} (hA : Agree s t n) (p : List UInt8) (h : p.length ≤ n) : Lib.hasPrefix t.data.toList p = Lib.hasPrefix s.data.toList p := by
  have := occ_agree hA p 0 (by omega)
  rw [List.drop_zero, List.drop_zero] at this
  exact this

theorem occ_byte (s : ByteArray) (p : List UInt8) (k : Nat) (h : p.isPrefixOf (s.data.toList.drop k) = true) (i : Nat) (hi : i < p.length) : k + p.length ≤ s.size ∧ byteU s (k + i) = p[i] := by
  have hp := List.isPrefixOf_iff_prefix.1 h
  have hlen := hp.length_le
  rw [List.length_drop, lst_size] at hlen
  refine ⟨by omega, ?_⟩
  rw [byteU_in s (k + i) (by omega)]
  have e := hp.getElem hi
  rw [e, List.getElem_drop]
  rfl

theorem pre_byte (s : ByteArray) (p : List UInt8) (h : Lib.hasPrefix s.data.toList p = true) (i : Nat) (hi : i < p.length) : p.length ≤ s.size ∧ byteU s i = p[i] := by
  have := occ_byte s p 0 (by rw [List.drop_zero]; exact h) i hi
  rw [Nat.zero_add, Nat.zero_add] at this
  exact this

theorem pre_not (s : ByteArray) (p : List UInt8) (i : Nat) (hi : i < p.length) (h : byteU s i ≠ p[i]) : Lib.hasPrefix s.data.toList p = false := by
  cases hp : Lib.hasPrefix s.data.toList p with
  | false => rfl
  | true => exact absurd (pre_byte s p hp i hi).2 h

theorem upToB_step (s : ByteArray) (p : List UInt8) (k : Nat) (h : k < s.size) : upToF s k p = if p.isPrefixOf (s.data.toList.drop k) = true then k + p.length else upToF s (k + 1) p := by
  unfold upToF
  rw [drop_cons s k h]
  have hg := Lib.index_ge (s.data.toList.drop (k + 1)) p
  rw [Lib.index]
  cases hc : p.isPrefixOf (s[k] :: s.data.toList.drop (k + 1)) with
  | true => simp
  | false =>
    simp only [Bool.false_eq_true, if_false]
    by_cases h1 : Lib.index (s.data.toList.drop (k + 1)) p = -1
    · rw [h1]; rfl
    · have hb : (Lib.index (s.data.toList.drop (k + 1)) p == -1) = false := beq_eq_false_iff_ne.2 h1
      rw [hb]
      simp only [Bool.false_eq_true, if_false]
      rw [if_neg (by omega), if_neg (by omega)]
      omega
theorem upToB_end (s : ByteArray) (p : List UInt8) (k : Nat) (hp : p ≠ []) (h : s.size ≤ k) : upToF s k p = 0 := by
  unfold upToF
  rw [List.drop_eq_nil_of_le (by rw [lst_size]; exact h)]
  unfold Lib.index
  cases p with
  | nil => exact absurd rfl hp
  | cons a r => rfl

theorem upTo_find (s : ByteArray) (p : List UInt8) (hp : p ≠ []) : ∀ d a, s.size - a = d → upToF s a p ≠ 0 → ∃ k, a ≤ k ∧ upToF s a p = k + p.length ∧ p.isPrefixOf (s.data.toList.drop k) = true := by
  intro d
  induction d with
  | zero => intro a hd h; exact absurd (upToB_end s p a hp (by omega)) h
  | succ d ih =>
    intro a hd h
    have e := upToB_step s p a (by omega)
    cases hc : p.isPrefixOf (s.data.toList.drop a) with
    | true => rw [hc, if_pos rfl] at e; exact ⟨a, Nat.le_refl _, e, hc⟩
    | false =>
      rw [hc, if_neg (by simp)] at e
      rw [e] at h ⊢
      obtain ⟨k, h1, h2, h3⟩ := ih (a + 1) (by omega) h
      exact ⟨k, by omega, h2, h3⟩

theorem upTo_agree {s t : ByteArray} {n : Nat} (hA : Agree s t n) (p : List UInt8) (hp : p ≠ []) : ∀ d a, s.size - a = d → upToF s a p = n → n ≠ 0 → upToF t a p = n := by
  have hl := hA.left
  have hr := hA.right
  have hpl : 0 < p.length := by cases p with | nil => exact absurd rfl hp | cons a r => simp
  intro d
  induction d with
  | zero => intro a hd h hn; rw [upToB_end s p a hp (by omega)] at h; omega
  | succ d ih =>
    intro a hd h hn
    obtain ⟨k, k1, k2, k3⟩ := upTo_find s p hp _ a rfl (by omega)
    have e := upToB_step s p a (by omega)
    have e2 := upToB_step t p a (by omega)
    rw [occ_agree hA p a (by omega)] at e2
    cases hc : p.isPrefixOf (s.data.toList.drop a) with
    | true => rw [hc, if_pos rfl] at e e2; omega
    | false =>
      rw [hc, if_neg (by simp)] at e e2
      rw [e2]
      exact ih (a + 1) (by omega) (by omega) hn

theorem raw_open (s : ByteArray) (h1 : byteU s 1 ≠ 33) (h2 : byteU s 1 ≠ 63) : rawF s = openN s := by
  unfold rawF
  rw [pre_not s [60, 33, 45, 45, 62] 1 (by decide) h1, pre_not s [60, 33, 45, 45, 45, 62] 1 (by decide) h1, pre_not s [60, 33, 45, 45] 1 (by decide) h1, pre_not s [60, 63] 1 (by decide) h2, pre_not s [60, 33, 91, 67, 68, 65, 84, 65, 91] 1 (by decide) h1]
  have hd : declF s = false := by unfold declF; rw [pre_not s [60, 33] 1 (by decide) h1]; simp
  rw [hd]; rfl

theorem openN_byte (s : ByteArray) (h : openN s ≠ 0) : byteU s 1 ≠ 33 ∧ byteU s 1 ≠ 63 ∧ openF s = some (openN s) := by
  have ho : openF s = some (openN s) := by
    unfold openN at h ⊢
    cases hx : openF s with
    | none => rw [hx] at h; exact absurd rfl h
    | some k => rfl
  refine ⟨fun e => ?_, fun e => ?_, ho⟩
  · rw [open_bang s (by rw [e]; decide) (by rw [e]; decide)] at ho; cases ho
  · rw [open_bang s (by rw [e]; decide) (by rw [e]; decide)] at ho; cases ho

/-- all that Raw may be -/
theorem raw_cases (s : ByteArray) (n : Nat) (h : rawF s = n) (hn : n ≠ 0) :
    (n = 5 ∧ Lib.hasPrefix s.data.toList [60, 33, 45, 45, 62] = true) ∨
    (n = 6 ∧ Lib.hasPrefix s.data.toList [60, 33, 45, 45, 62] = false ∧ Lib.hasPrefix s.data.toList [60, 33, 45, 45, 45, 62] = true) ∨
    (upToF s 4 [45, 45, 62] = n ∧ Lib.hasPrefix s.data.toList [60, 33, 45, 45, 62] = false ∧ Lib.hasPrefix s.data.toList [60, 33, 45, 45, 45, 62] = false ∧ Lib.hasPrefix s.data.toList [60, 33, 45, 45] = true) ∨
    (upToF s 2 [63, 62] = n ∧ Lib.hasPrefix s.data.toList [60, 63] = true) ∨
    (upToF s 9 [93, 93, 62] = n ∧ Lib.hasPrefix s.data.toList [60, 33, 91, 67, 68, 65, 84, 65, 91] = true) ∨
    (upToF s 3 [62] = n ∧ declF s = true) ∨
    (openF s = some n ∧ byteU s 1 ≠ 33 ∧ byteU s 1 ≠ 63) := by
  unfold rawF at h
  cases h0 : Lib.hasPrefix s.data.toList [60, 33, 45, 45, 62] with
  | true => rw [h0, if_pos rfl] at h; exact Or.inl ⟨h.symm, rfl⟩
  | false =>
  rw [h0, if_neg (by simp)] at h
  cases h1 : Lib.hasPrefix s.data.toList [60, 33, 45, 45, 45, 62] with
  | true => rw [h1, if_pos rfl] at h; exact Or.inr (Or.inl ⟨h.symm, rfl, rfl⟩)
  | false =>
  rw [h1, if_neg (by simp)] at h
  cases h2 : Lib.hasPrefix s.data.toList [60, 33, 45, 45] with
  | true => rw [h2, if_pos rfl] at h; exact Or.inr (Or.inr (Or.inl ⟨h, rfl, rfl, rfl⟩))
  | false =>
  rw [h2, if_neg (by simp)] at h
  cases h3 : Lib.hasPrefix s.data.toList [60, 63] with
  | true => rw [h3, if_pos rfl] at h; exact Or.inr (Or.inr (Or.inr (Or.inl ⟨h, rfl⟩)))
  | false =>
  rw [h3, if_neg (by simp)] at h
  cases h4 : Lib.hasPrefix s.data.toList [60, 33, 91, 67, 68, 65, 84, 65, 91] with
  | true => rw [h4, if_pos rfl] at h; exact Or.inr (Or.inr (Or.inr (Or.inr (Or.inl ⟨h, rfl⟩))))
  | false =>
  rw [h4, if_neg (by simp)] at h
  cases hd : declF s with
  | true => rw [hd, if_pos rfl] at h; exact Or.inr (Or.inr (Or.inr (Or.inr (Or.inr (Or.inl ⟨h, rfl⟩)))))
  | false =>
  rw [hd, if_neg (by simp)] at h
  have ho := openN_byte s (by rw [h]; exact hn)
  rw [h] at ho
  exact Or.inr (Or.inr (Or.inr (Or.inr (Or.inr (Or.inr ⟨ho.2.2, ho.1, ho.2.1⟩)))))

theorem decl_parts (s : ByteArray) (h : declF s = true) : 2 < s.size ∧ Lib.hasPrefix s.data.toList [60, 33] = true ∧ letterU (byteU s 2) = true := by
  unfold declF at h
  simp only [Bool.and_eq_true, decide_eq_true_eq] at h
  exact h

/-- what HTML begins and ends with -/
theorem raw_ends (s : ByteArray) (n : Nat) (h : rawF s = n) (hn : n ≠ 0) : 3 ≤ n ∧ n ≤ s.size ∧ byteU s 0 = 60 ∧ byteU s (n - 1) = 62 := by
  have up : ∀ (a : Nat) (p : List UInt8) (hp : p ≠ []) (hl : p[p.length - 1]? = some 62), upToF s a p = n → 1 ≤ a → 3 ≤ a + p.length → byteU s 0 = 60 → 3 ≤ n ∧ n ≤ s.size ∧ byteU s 0 = 60 ∧ byteU s (n - 1) = 62 := by
    intro a p hp hl he ha h3 h60
    obtain ⟨k, k1, k2, k3⟩ := upTo_find s p hp _ a rfl (by omega)
    have hpl : 0 < p.length := by cases p with | nil => exact absurd rfl hp | cons a r => simp
    obtain ⟨o1, o2⟩ := occ_byte s p k k3 (p.length - 1) (by omega)
    refine ⟨by omega, by omega, h60, ?_⟩
    rw [show n - 1 = k + (p.length - 1) from by omega, o2]
    rw [List.getElem?_eq_getElem (by omega)] at hl
    exact Option.some.inj hl
  rcases raw_cases s n h hn with ⟨e, p⟩ | ⟨e, _, p⟩ | ⟨e, _, _, p⟩ | ⟨e, p⟩ | ⟨e, p⟩ | ⟨e, p⟩ | ⟨e, _, _⟩
  · subst e
    have a := pre_byte s _ p 0 (by decide)
    have b := pre_byte s _ p 4 (by decide)
    exact ⟨by omega, a.1, a.2, b.2⟩
  · subst e
    have a := pre_byte s _ p 0 (by decide)
    have b := pre_byte s _ p 5 (by decide)
    exact ⟨by omega, a.1, a.2, b.2⟩
  · exact up 4 _ (by simp) rfl e (by omega) (by decide) (pre_byte s _ p 0 (by decide)).2
  · exact up 2 _ (by simp) rfl e (by omega) (by decide) (pre_byte s _ p 0 (by decide)).2
  · exact up 9 _ (by simp) rfl e (by omega) (by decide) (pre_byte s _ p 0 (by decide)).2
  · exact up 3 _ (by simp) rfl e (by omega) (by decide) (pre_byte s _ (decl_parts s p).2.1 0 (by decide)).2
  · exact open_ends s n e

theorem raw_agree {s t : ByteArray} {n : Nat} (hA : Agree s t n) (h : rawF s = n) (hn : n ≠ 0) : rawF t = n := by
  have hl := hA.left
  have hr := hA.right
  have up := fun (a : Nat) (p : List UInt8) (hp : p ≠ []) (he : upToF s a p = n) => upTo_find s p hp _ a rfl (by rw [he]; exact hn)
  rcases raw_cases s n h hn with ⟨e, p⟩ | ⟨e, p0, p⟩ | ⟨e, p0, p1, p⟩ | ⟨e, p⟩ | ⟨e, p⟩ | ⟨e, p⟩ | ⟨e, b1, b2⟩
  · subst e
    unfold rawF
    rw [pre_agree hA _ (by decide), p]; rfl
  · subst e
    unfold rawF
    rw [pre_agree hA _ (by decide), pre_agree hA [60, 33, 45, 45, 45, 62] (by decide), p0, p]; rfl
  · obtain ⟨k, k1, k2, k3⟩ := up 4 _ (by simp) e
    have hk : 7 ≤ n := by rw [← e, k2]; show 7 ≤ k + 3; omega
    have e2 := upTo_agree hA _ (by simp) _ 4 rfl e hn
    unfold rawF
    rw [pre_agree hA _ (by show 5 ≤ n; omega), pre_agree hA [60, 33, 45, 45, 45, 62] (by show 6 ≤ n; omega), pre_agree hA [60, 33, 45, 45] (by show 4 ≤ n; omega), p0, p1, p]
    exact e2
  · obtain ⟨k, k1, k2, k3⟩ := up 2 _ (by simp) e
    have hk : 4 ≤ n := by rw [← e, k2]; show 4 ≤ k + 2; omega
    have e2 := upTo_agree hA _ (by simp) _ 2 rfl e hn
    have hb : byteU t 1 = 63 := by rw [← hA.same 1 (by omega)]; exact (pre_byte s _ p 1 (by decide)).2
    have hb' : byteU t 1 ≠ 33 := by rw [hb]; decide
    unfold rawF
    rw [pre_not t [60, 33, 45, 45, 62] 1 (by decide) hb', pre_not t [60, 33, 45, 45, 45, 62] 1 (by decide) hb', pre_not t [60, 33, 45, 45] 1 (by decide) hb', pre_agree hA [60, 63] (by show 2 ≤ n; omega), p]
    exact e2
  · obtain ⟨k, k1, k2, k3⟩ := up 9 _ (by simp) e
    have hk : 12 ≤ n := by rw [← e, k2]; show 12 ≤ k + 3; omega
    have e2 := upTo_agree hA _ (by simp) _ 9 rfl e hn
    have b1 : byteU t 1 = 33 := by rw [← hA.same 1 (by omega)]; exact (pre_byte s _ p 1 (by decide)).2
    have b2 : byteU t 2 = 91 := by rw [← hA.same 2 (by omega)]; exact (pre_byte s _ p 2 (by decide)).2
    have b2' : byteU t 2 ≠ 45 := by rw [b2]; decide
    have b1' : byteU t 1 ≠ 63 := by rw [b1]; decide
    unfold rawF
    rw [pre_not t [60, 33, 45, 45, 62] 2 (by decide) b2', pre_not t [60, 33, 45, 45, 45, 62] 2 (by decide) b2', pre_not t [60, 33, 45, 45] 2 (by decide) b2', pre_not t [60, 63] 1 (by decide) b1', pre_agree hA [60, 33, 91, 67, 68, 65, 84, 65, 91] (by show 9 ≤ n; omega), p]
    exact e2
  · obtain ⟨k, k1, k2, k3⟩ := up 3 _ (by simp) e
    have hk : 4 ≤ n := by rw [← e, k2]; show 4 ≤ k + 1; omega
    have e2 := upTo_agree hA _ (by simp) _ 3 rfl e hn
    obtain ⟨d1, d2, d3⟩ := decl_parts s p
    have b1 : byteU t 1 = 33 := by rw [← hA.same 1 (by omega)]; exact (pre_byte s _ d2 1 (by decide)).2
    have b2 : letterU (byteU t 2) = true := by rw [← hA.same 2 (by omega)]; exact d3
    have b2' : byteU t 2 ≠ 45 := fun e => by rw [e] at b2; exact absurd b2 (by decide)
    have b2'' : byteU t 2 ≠ 91 := fun e => by rw [e] at b2; exact absurd b2 (by decide)
    have b1' : byteU t 1 ≠ 63 := by rw [b1]; decide
    have hd : declF t = true := by
      unfold declF
      rw [decide_eq_true (by omega), pre_agree hA [60, 33] (by show 2 ≤ n; omega), d2, b2]; rfl
    unfold rawF
    rw [pre_not t [60, 33, 45, 45, 62] 2 (by decide) b2', pre_not t [60, 33, 45, 45, 45, 62] 2 (by decide) b2', pre_not t [60, 33, 45, 45] 2 (by decide) b2', pre_not t [60, 63] 1 (by decide) b1', pre_not t [60, 33, 91, 67, 68, 65, 84, 65, 91] 2 (by decide) b2'', hd]
    exact e2
  · have ho := open_ends s n e
    have b1' : byteU t 1 ≠ 33 := by rw [← hA.same 1 (by omega)]; exact b1
    have b2' : byteU t 1 ≠ 63 := by rw [← hA.same 1 (by omega)]; exact b2
    rw [raw_open t b1' b2']
    unfold openN
    rw [open_agree hA e]; rfl

theorem raw_le (s : ByteArray) : rawF s ≤ s.size := by
  by_cases h : rawF s = 0
  · omega
  · exact (raw_ends s _ rfl h).2.1

/-- Open answers nothing, or what Raw answers -/
theorem open_raw (s : ByteArray) : openN s = 0 ∨ openN s = rawF s := by
  by_cases h : openN s = 0
  · exact Or.inl h
  · obtain ⟨h1, h2, _⟩ := openN_byte s h
    exact Or.inr (raw_open s h1 h2).symm

theorem agree_cut (s : ByteArray) (n : Nat) (h : n ≤ s.size) (more : ByteArray) : Agree s (s.extract 0 n ++ more) n := by
  have hd : (s.extract 0 n ++ more).data.toList = s.data.toList.take n ++ more.data.toList := by
    simp [Lib.extract_data]
  have hz : (s.extract 0 n ++ more).size = n + more.size := by
    rw [← lst_size, hd, List.length_append, List.length_take, lst_size, lst_size]; omega
  refine ⟨h, by omega, fun i hi => ?_⟩
  unfold byteU
  rw [hd, List.getD_eq_getElem?_getD, List.getD_eq_getElem?_getD, List.getElem?_append_left (by rw [List.length_take, lst_size]; omega), List.getElem?_take, if_pos hi]
theorem agree_cut0 (s : ByteArray) (n : Nat) (h : n ≤ s.size) : Agree s (s.extract 0 n) n := by
  have hd : (s.extract 0 n).data.toList = s.data.toList.take n := by simp [Lib.extract_data]
  have hz : (s.extract 0 n).size = n := by rw [← lst_size, hd, List.length_take, lst_size]; omega
  refine ⟨h, by omega, fun i hi => ?_⟩
  unfold byteU
  rw [hd, List.getD_eq_getElem?_getD, List.getD_eq_getElem?_getD, List.getElem?_take, if_pos hi]

end Go.Proofs.YtjaidphlphncjaaDoor
