/- Plain: the reference's Kind is tag's. No walk here. -/
import Derived.Test.YtjaidphlphncjaaDoorTagKind2
import Derived.Test.YtjaidphlphncjaaDoorTagHas
import Derived.Test.YtjaidphlphncjaaDoorMarkPlain2
namespace Go.Proofs.YtjaidphlphncjaaDoor
set_option linter.unusedVariables false
set_option linter.unusedSimpArgs false
open Go Go.RowKit Go.Lib

def wordsL : List (List UInt8) := [[97, 100, 100, 114, 101, 115, 115], [97, 114, 116, 105, 99, 108, 101], [97, 115, 105, 100, 101], [98, 108, 111, 99, 107, 113, 117, 111, 116, 101], [98, 111, 100, 121], [99, 101, 110, 116, 101, 114], [99, 111, 108], [100, 100], [100, 101, 116, 97, 105, 108, 115], [100, 105, 97, 108, 111, 103], [100, 105, 114], [100, 105, 118], [100, 108], [100, 116], [102, 105, 101, 108, 100, 115, 101, 116], [102, 105, 103, 117, 114, 101], [102, 111, 111, 116, 101, 114], [102, 111, 114, 109], [102, 114, 97, 109, 101], [104, 49], [104, 50], [104, 51], [104, 52], [104, 53], [104, 54], [104, 101, 97, 100], [104, 101, 97, 100, 101, 114], [104, 114], [104, 116, 109, 108], [105, 102, 114, 97, 109, 101], [108, 101, 103, 101, 110, 100], [108, 105], [108, 105, 110, 107], [109, 97, 105, 110], [109, 101, 110, 117], [110, 97, 118], [111, 108], [111, 112, 116, 105, 111, 110], [112], [112, 97, 114, 97, 109], [115, 101, 99, 116, 105, 111, 110], [115, 117, 109, 109, 97, 114, 121], [116, 97, 98, 108, 101], [116, 98, 111, 100, 121], [116, 100], [116, 102, 111, 111, 116], [116, 104], [116, 104, 101, 97, 100], [116, 105, 116, 108, 101], [116, 114], [116, 114, 97, 99, 107], [117, 108]]

theorem tags_words : tagsL = 32 :: wordsL.flatMap (· ++ [32]) := by decide +kernel
theorem words_clean : ∀ w ∈ wordsL, (32 : UInt8) ∉ w := by decide +kernel
theorem words_short : ∀ w ∈ wordsL, w.length < 20 := by decide +kernel

def refBlockF (t : ByteArray) : Bool := decide (t.size < 20) && wordsL.contains (t.data.toList.map lowU)
def stopE (s : ByteArray) (k : Nat) : Bool := decide (k = s.size) || (byteU s k == 32 || (byteU s k == 9 || byteU s k == 62))
def fourF (t : List UInt8) : Bool := t == [112, 114, 101] || (t == [115, 99, 114, 105, 112, 116] || (t == [115, 116, 121, 108, 101] || t == [116, 101, 120, 116, 97, 114, 101, 97]))
def fromN (s : ByteArray) : Nat := if (decide (1 < s.size) && byteU s 1 == 47) = true then 2 else 1
def sixF (s : ByteArray) : Bool := (stopE s (skipN s wordT (fromN s)) || Lib.hasPrefix (s.data.toList.drop (skipN s wordT (fromN s))) [47, 62]) && refBlockF (s.extract (fromN s) (skipN s wordT (fromN s)))
def refKindF (s : ByteArray) : Nat :=
  if (decide (0 < s.size) && byteU s 0 == 60) = true then
    if (stopE s (skipN s wordT 1) && fourF ((s.extract 1 (skipN s wordT 1)).data.toList.map lowU)) = true then 1
    else if Lib.hasPrefix s.data.toList [60, 33, 45, 45] = true then 2
    else if Lib.hasPrefix s.data.toList [60, 63] = true then 3
    else if declF s = true then 4
    else if Lib.hasPrefix s.data.toList [60, 33, 91, 67, 68, 65, 84, 65, 91] = true then 5
    else if sixF s = true then 6
    else if openN s = 0 then 0
    else if (s.data.toList.drop (openN s)).all blankU = true then 7
    else 0
  else 0

theorem prefix_word (R : List UInt8) : ∀ (x w : List UInt8), (32 : UInt8) ∉ x → (32 : UInt8) ∉ w → (x ++ [32]).isPrefixOf (w ++ 32 :: R) = (x == w)
  | [], [], _, _ => by simp [List.isPrefixOf]
  | [], y :: w, _, hw => by
    have : ((32 : UInt8) == y) = false := beq_eq_false_iff_ne.2 (fun e => hw (by rw [e]; exact List.mem_cons_self ..))
    simp [List.isPrefixOf, this]
  | c :: x, [], hx, _ => by
    have : (c == (32 : UInt8)) = false := beq_eq_false_iff_ne.2 (fun e => hx (by rw [e]; exact List.mem_cons_self ..))
    simp [List.isPrefixOf, this]
  | c :: x, y :: w, hx, hw => by
    simp only [List.cons_append, List.isPrefixOf]
    rw [prefix_word R x w (fun h => hx (List.mem_cons_of_mem _ h)) (fun h => hw (List.mem_cons_of_mem _ h))]
    rfl

theorem hasL_word (w R x : List UInt8) (hw : (32 : UInt8) ∉ w) : hasL (w ++ 32 :: R) (32 :: x) = hasL (32 :: R) (32 :: x) := by
  induction w with
  | nil => rfl
  | cons y w ih =>
    have : ((32 : UInt8) == y) = false := beq_eq_false_iff_ne.2 (fun e => hw (by rw [e]; exact List.mem_cons_self ..))
    rw [List.cons_append, hasL, ih (fun h => hw (List.mem_cons_of_mem _ h))]
    simp [List.isPrefixOf, this]

theorem words_has (x : List UInt8) (hx : (32 : UInt8) ∉ x) : ∀ ws : List (List UInt8), (∀ w ∈ ws, (32 : UInt8) ∉ w) → hasL (32 :: ws.flatMap (· ++ [32])) (32 :: (x ++ [32])) = ws.contains x := by
  intro ws
  induction ws with
  | nil =>
    intro _
    cases x <;> simp [hasL, List.isPrefixOf]
  | cons w ws ih =>
    intro h
    have hw := h w (List.mem_cons_self ..)
    have e : (w :: ws).flatMap (· ++ [32]) = w ++ 32 :: ws.flatMap (· ++ [32]) := by simp
    rw [e, hasL, hasL_word w _ _ hw, ih (fun v hv => h v (List.mem_cons_of_mem _ hv))]
    have e2 : (32 :: (x ++ [32])).isPrefixOf (32 :: (w ++ 32 :: ws.flatMap (· ++ [32]))) = (x == w) := by
      rw [← prefix_word (ws.flatMap (· ++ [32])) x w hx hw]; rfl
    rw [e2, List.contains_cons]

theorem block_same (t : ByteArray) (h : ∀ c ∈ t.data.toList, wordU c = true) : blockF t = refBlockF t := by
  have h32 : ∀ c ∈ t.data.toList, c ≠ 32 := fun c hc e => by have := h c hc; rw [e] at this; exact absurd this (by decide)
  have hlow : (32 : UInt8) ∉ t.data.toList.map lowU := by
    intro hm
    obtain ⟨c, hc, e⟩ := List.mem_map.1 hm
    have hw := h c hc
    unfold lowU at e
    split at e
    · rename_i hr
      have := congrArg UInt8.toNat e
      simp at this
      omega
    · exact h32 c hc e
  have hi : decide (0 ≤ Lib.indexByte t.data.toList 32) = false := by
    rw [← Lib.contains_iff_indexByte]
    rw [List.contains_eq_mem]
    exact decide_eq_false (fun hm => h32 32 hm rfl)
  unfold blockF refBlockF
  rw [hi, contains_hasL, tags_words, words_has _ hlow wordsL words_clean]
  cases hc : wordsL.contains (t.data.toList.map lowU) with
  | false => simp
  | true =>
    have hm : t.data.toList.map lowU ∈ wordsL := by
      rw [List.contains_eq_mem, decide_eq_true_eq] at hc; exact hc
    have hs := words_short _ hm
    rw [List.length_map, lst_size] at hs
    have he : t.toList.isEmpty = false := by
      rw [ByteArray.toList_eq]
      cases hd : t.data.toList with
      | nil =>
        rw [hd] at hm
        exact absurd hm (by decide +kernel)
      | cons => rfl
    rw [he, decide_eq_true hs]; rfl

theorem pre_byte (c : UInt8) (l : List UInt8) : Lib.hasPrefix l [c] = (decide (0 < l.length) && l.getD 0 0 == c) := by
  unfold Lib.hasPrefix
  cases l with
  | nil => rfl
  | cons x l =>
    simp [List.isPrefixOf]
    rw [Bool.eq_iff_iff]; simp; exact ⟨fun e => e.symm, fun e => e.symm⟩

theorem endF_at (s t : ByteArray) (k : Nat) (hk : k ≤ s.size) (ht : t.data.toList = s.data.toList.drop k) : endF t = stopE s k := by
  have hl : t.data.toList.length = s.size - k := by rw [ht, List.length_drop, lst_size]
  have hg : t.data.toList.getD 0 0 = byteU s k := by
    rw [ht]; unfold byteU
    simp [List.getD_eq_getElem?_getD, List.getElem?_drop]
  unfold endF stopE
  rw [pre_byte, pre_byte, pre_byte, hl, hg, ByteArray.toList_eq]
  by_cases h : k = s.size
  · subst h
    have : t.data.toList = [] := List.length_eq_zero_iff.1 (by omega)
    rw [this]; simp
  · rw [decide_eq_true (by omega : 0 < s.size - k), decide_eq_false h]
    have : t.data.toList.isEmpty = false := by
      cases hd : t.data.toList with
      | nil => rw [hd] at hl; simp at hl; omega
      | cons => rfl
    rw [this]; simp

theorem fold_low (x y : UInt8) (h : 97 ≤ x.toNat ∧ x.toNat ≤ 122) : foldEq x y = (lowU y == x) := by
  unfold foldEq lowU
  have ky := y.toNat_lt
  rw [Bool.eq_iff_iff, decide_eq_true_eq, beq_iff_eq]
  split
  · rename_i hy
    rw [← UInt8.toNat_inj]
    simp
    omega
  · rename_i hy
    rw [← UInt8.toNat_inj]
    omega

theorem fold_all : ∀ (p l : List UInt8), (∀ x ∈ p, 97 ≤ x.toNat ∧ x.toNat ≤ 122) → Lib.equalFold p l = (l.map lowU == p)
  | [], [], _ => rfl
  | [], _ :: _, _ => rfl
  | _ :: _, [], _ => rfl
  | x :: p, y :: l, h => by
    rw [Lib.equalFold, fold_low x y (h x (List.mem_cons_self ..)), fold_all p l (fun z hz => h z (List.mem_cons_of_mem _ hz))]
    rfl

theorem same_low (p : List UInt8) (t : ByteArray) (h : ∀ x ∈ p, 97 ≤ x.toNat ∧ x.toNat ≤ 122) : sameF p t = (t.data.toList.map lowU == p) := by
  unfold sameF
  rw [fold_all p _ h]
  cases hc : (t.data.toList.map lowU == p) with
  | false => rfl
  | true =>
    rw [beq_iff_eq] at hc
    have := congrArg List.length hc
    rw [List.length_map, lst_size] at this
    rw [decide_eq_true this.symm]; rfl

theorem verb_four (t : ByteArray) : verbF t = fourF (t.data.toList.map lowU) := by
  unfold verbF fourF
  rw [same_low _ _ (by decide), same_low _ _ (by decide), same_low _ _ (by decide), same_low _ _ (by decide)]

theorem skip_at (s : ByteArray) (a : Nat) : skipN s wordT a = a + lead (s.extract a s.size) wordT := by unfold skipN; rw [lead_tail]

theorem head_data (s : ByteArray) (t : ByteArray) (a : Nat) (ht : t.data.toList = s.data.toList.drop a) : (headW t).data.toList = (s.extract a (skipN s wordT a)).data.toList := by
  unfold headW
  rw [Lib.extract_data, Lib.extract_data, List.drop_zero, Nat.sub_zero, ht]
  congr 1
  rw [lead_list, ht]
  unfold skipN
  rw [leadN_list]; omega

theorem cut_data2 (s : ByteArray) (t : ByteArray) (a : Nat) (ht : t.data.toList = s.data.toList.drop a) : (cutL t wordT).data.toList = s.data.toList.drop (skipN s wordT a) := by
  unfold cutL
  rw [tail_data, ht, List.drop_drop]
  congr 1
  rw [lead_list, ht]
  unfold skipN
  rw [leadN_list]

theorem rest_data (s : ByteArray) : (restF s).data.toList = s.data.toList.drop 1 := tail_data s 1
theorem rest2_data (s : ByteArray) (h : 0 < s.size) : (rest2F s).data.toList = s.data.toList.drop (fromN s) := by
  unfold rest2F fromN Lib.trimPrefix
  rw [rest_data]
  have e := pre_byte 47 (s.data.toList.drop 1)
  rw [List.length_drop, lst_size] at e
  have hg : (s.data.toList.drop 1).getD 0 0 = byteU s 1 := by
    unfold byteU
    simp [List.getD_eq_getElem?_getD, List.getElem?_drop]
  rw [hg] at e
  have e2 : decide (0 < s.size - 1) = decide (1 < s.size) := by rw [decide_eq_decide]; omega
  rw [e2] at e
  rw [e]
  split
  · rw [List.drop_drop]; rfl
  · rfl

theorem from_le (s : ByteArray) (h : 0 < s.size) : fromN s ≤ s.size := by
  unfold fromN
  split
  · rename_i h2
    simp only [Bool.and_eq_true, decide_eq_true_eq] at h2
    omega
  · omega

theorem head_words (t : ByteArray) : ∀ c ∈ (headW t).data.toList, wordU c = true := by
  intro c hc
  unfold headW at hc
  rw [Lib.extract_data] at hc
  simp only [Nat.sub_zero, List.drop_zero] at hc
  rw [lead_list] at hc
  have := lf_in _ _ c hc
  rw [word_contains] at this
  exact this

theorem blocks_eq {s t : ByteArray} (h : s.data.toList = t.data.toList) : s = t := by
  apply ByteArray.ext
  exact Array.toList_inj.1 h

theorem tail7 (n : Nat) (b : Bool) : (if (decide (0 < n) && b) = true then 7 else 0) = (if n = 0 then 0 else if b = true then 7 else 0) := by
  cases n <;> cases b <;> simp

theorem kind_same (s : ByteArray) : kindF s = refKindF s := by
  unfold kindF refKindF
  rw [pre_byte, lst_size]
  have hg : s.data.toList.getD 0 0 = byteU s 0 := rfl
  rw [hg]
  clear hg
  cases h0 : (decide (0 < s.size) && byteU s 0 == 60) with
  | false => simp only [Bool.false_eq_true, if_false]
  | true =>
    have hp : 0 < s.size := by
      simp only [Bool.and_eq_true, decide_eq_true_eq] at h0; exact h0.1
    simp only [if_true]
    rw [verb_four, endF_at s _ _ (skip_le s wordT 1 hp) (cut_data2 s _ 1 (rest_data s)), head_data s _ 1 (rest_data s), Bool.and_comm]
    have hb := head_words (rest2F s)
    have h6 : (blockF (headW (rest2F s)) && (Lib.hasPrefix (cutL (rest2F s) wordT).data.toList [47, 62] || endF (cutL (rest2F s) wordT))) = sixF s := by
      rw [block_same _ hb, endF_at s _ _ (skip_le s wordT _ (from_le s hp)) (cut_data2 s _ _ (rest2_data s hp)), cut_data2 s _ _ (rest2_data s hp), blocks_eq (head_data s _ _ (rest2_data s hp))]
      unfold sixF
      rw [Bool.and_comm, Bool.or_comm]
    rw [h6, emptyB_all, tail_data]
    rw [tail7]

end Go.Proofs.YtjaidphlphncjaaDoor
