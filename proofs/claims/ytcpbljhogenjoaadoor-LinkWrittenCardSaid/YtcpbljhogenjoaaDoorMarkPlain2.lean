/- Plain: a heading's content read from behind, a line's item. No program in sight. -/
import Derived.Test.YtcpbljhogenjoaaDoorMarkPlain
namespace Go.Proofs.YtcpbljhogenjoaaDoor
set_option linter.unusedVariables false
set_option linter.unusedSimpArgs false
open Go Go.RowKit Go.Lib

def blankU (c : UInt8) : Bool := c == 32 || c == 9

theorem blanks_contains (c : UInt8) : blanksT.data.toList.contains c = blankU c := by
  show [32, 9].contains c = _
  unfold blankU
  simp only [List.contains, List.elem]
  cases (c == 32) <;> cases (c == 9) <;> rfl

theorem one_contains (d c : UInt8) : (ByteArray.mk #[d]).data.toList.contains c = (c == d) := contains_one d c

theorem emptyB_all (s : ByteArray) : emptyB s = s.data.toList.all blankU := by
  unfold emptyB
  rw [lst_isEmpty, trimB_data, Bool.eq_iff_iff, List.isEmpty_iff, tb_nil_iff, List.all_eq_true]
  simp only [blanks_contains]

/-! ## from behind -/

theorem ext_size (s : ByteArray) (f k : Nat) (hk : k ≤ s.size) : (s.extract f k).size = k - f := by rw [ByteArray.size_extract]; omega

theorem ext_snoc (s : ByteArray) (f k : Nat) (hf : f < k) (hk : k ≤ s.size) :
    (s.extract f k).data.toList = (s.extract f (k - 1)).data.toList ++ [s[k - 1]'(by omega)] := by
  rw [Lib.extract_data, Lib.extract_data]
  have h1 : k - f = (k - 1 - f) + 1 := by omega
  rw [h1, List.take_succ_eq_append_getElem (by rw [List.length_drop, lst_size]; omega)]
  congr 2
  rw [List.getElem_drop]
  have : f + (k - 1 - f) = k - 1 := by omega
  simp only [this]; rfl

theorem back_yes (s set : ByteArray) (f k : Nat) (hf : f < k) (hk : k ≤ s.size) (h : set.data.toList.contains (s[k - 1]'(by omega)) = true) :
    trimR (s.extract f k) set = trimR (s.extract f (k - 1)) set := by
  apply ba_ext
  rw [trimR_data, trimR_data, ext_snoc s f k hf hk, trimRight_yes _ _ _ h]
theorem back_no (s set : ByteArray) (f k : Nat) (hf : f < k) (hk : k ≤ s.size) (h : set.data.toList.contains (s[k - 1]'(by omega)) = false) :
    trimR (s.extract f k) set = s.extract f k := by
  apply ba_ext
  rw [trimR_data, ext_snoc s f k hf hk, trimRight_no _ _ _ h]
theorem back_end (s set : ByteArray) (f : Nat) (hk : f ≤ s.size) : trimR (s.extract f f) set = s.extract f f :=
  trimR_empty _ _ (by rw [ext_size s f f hk]; omega)

theorem trimR_idem (s set : ByteArray) : trimR (trimR s set) set = trimR s set := by
  apply ba_ext
  rw [trimR_data, trimR_data, tr_idem]

theorem headF_yes (s : ByteArray) (h : headIs s = true) : headF s = (levelF s, headFrom s, headFrom s + (headC s).size) := by unfold headF; rw [if_pos h]
theorem headF_no (s : ByteArray) (h : headIs s = false) : headF s = (0, 0, 0) := by unfold headF; rw [h]; rfl

theorem headF_keep (s : ByteArray) (h : headIs s = true) (f to k : Nat) (hf : headFrom s = f) (hto : to ≤ s.size) (hk0 : f ≤ k) (hk1 : k ≤ to)
    (hC : s.extract f to = trimR (s.extract f s.size) blanksT) (hO : s.extract f k = trimR (s.extract f to) ⟨#[35]⟩)
    (hc : k = to ∨ ∃ h : f < k, blankU (s[k - 1]'(by omega)) = false) : headF s = (levelF s, f, to) := by
  have eo : headO s = s.extract f k := by unfold headO; rw [hf, ← hC, hO]
  have hcs : headC s = s.extract f to := by
    unfold headC
    rw [eo, hf, ← hC]
    rcases hc with rfl | ⟨hlt, hb⟩
    · have : trimR (s.extract f k) blanksT = s.extract f k := by rw [hC, trimR_idem]
      rw [this]; simp
    · have e1 := back_no s blanksT f k hlt (by omega) (by rw [blanks_contains]; exact hb)
      rw [e1, toList_ne (by rw [ext_size s f k (by omega)]; omega)]
      simp
  rw [headF_yes s h, hcs, hf, ext_size s f to hto, show f + (to - f) = to from by omega]

theorem size_isEmpty {s : ByteArray} (h : s.size = 0) : s.toList.isEmpty = true := by rw [toList_nil h]; rfl

theorem headF_cut (s : ByteArray) (h : headIs s = true) (f to k j : Nat) (hf : headFrom s = f) (hto : to ≤ s.size) (hk0 : f ≤ k) (hk1 : k ≤ to)
    (hC : s.extract f to = trimR (s.extract f s.size) blanksT) (hO : s.extract f k = trimR (s.extract f to) ⟨#[35]⟩)
    (hj0 : f ≤ j) (hj1 : j ≤ k) (hD : s.extract f j = trimR (s.extract f k) blanksT)
    (hc : k = f ∨ ∃ h : f < k, blankU (s[k - 1]'(by omega)) = true) : headF s = (levelF s, f, j) := by
  have eo : headO s = s.extract f k := by unfold headO; rw [hf, ← hC, hO]
  have hcs : headC s = s.extract f j := by
    unfold headC
    rw [eo, hf, ← hC, ← hD]
    rcases hc with rfl | ⟨hlt, hb⟩
    · rw [size_isEmpty (s := s.extract k k) (by rw [ext_size s k k (by omega)]; omega)]; rfl
    · have hne : ((s.extract f k).toList == (s.extract f j).toList) = false := by
        rw [beq_eq_false_iff_ne]
        intro e
        have e2 := toList_inj e
        rw [hD] at e2
        have e3 := congrArg (fun x : ByteArray => x.data.toList) e2
        simp only [trimR_data] at e3
        rw [ext_snoc s f k hlt (by omega), trimRight_yes _ _ _ (by rw [blanks_contains]; exact hb)] at e3
        have e4 := congrArg List.length e3
        obtain ⟨b, eb, _⟩ := tr_split (s.extract f (k - 1)).data.toList blanksT.data.toList
        have e5 := congrArg List.length eb
        simp only [List.length_append, List.length_singleton] at e4 e5
        omega
      rw [hne]; simp
  rw [headF_yes s h, hcs, hf, ext_size s f j (by omega), show f + (j - f) = j from by omega]

/-! ## items -/

def digitsT : ByteArray := ⟨#[48, 49, 50, 51, 52, 53, 54, 55, 56, 57]⟩
def digitU (c : UInt8) : Bool := decide (48 ≤ c.toNat) && decide (c.toNat ≤ 57)

theorem digits_ascii : Ascii digitsT.data.toList := by
  intro c hc
  have : c = 48 ∨ c = 49 ∨ c = 50 ∨ c = 51 ∨ c = 52 ∨ c = 53 ∨ c = 54 ∨ c = 55 ∨ c = 56 ∨ c = 57 := by simpa [digitsT] using hc
  rcases this with rfl | rfl | rfl | rfl | rfl | rfl | rfl | rfl | rfl | rfl <;> decide

set_option maxRecDepth 100000 in
theorem digits_fin : ∀ c : Fin 256, digitsT.data.toList.contains (UInt8.ofNat c.val) = digitU (UInt8.ofNat c.val) := by decide +kernel
theorem digits_contains (c : UInt8) : digitsT.data.toList.contains c = digitU c := by
  have := digits_fin ⟨c.toNat, c.toNat_lt⟩
  simpa using this

def decV (l : List UInt8) : Nat := l.foldl (fun v c => v * 10 + (c.toNat - 48)) 0

def markOK (n : Nat) (c : UInt8) : Bool := if n = 0 then c == 45 || (c == 43 || c == 42) else c == 46 || c == 41
def itemIs (s : ByteArray) : Bool := decide (lead s digitsT ≤ 9) && (decide (lead s digitsT < s.size) && (markOK (lead s digitsT) (s.get! (lead s digitsT)) && endsB (s.extract (lead s digitsT + 1) s.size)))
def itemNum (s : ByteArray) : Int := if lead s digitsT = 0 then -1 else (decV (s.data.toList.take (lead s digitsT)) : Nat)
def itemF (s : ByteArray) : Int × Int × Int := if itemIs s = true then (((s.get! (lead s digitsT)).toNat : Int), itemNum s, ((lead s digitsT + 1 : Nat) : Int)) else (0, 0, 0)

theorem decV_snoc (l : List UInt8) (c : UInt8) : decV (l ++ [c]) = decV l * 10 + (c.toNat - 48) := by unfold decV; rw [List.foldl_append]; rfl

theorem decV_lt (l : List UInt8) (h : ∀ c ∈ l, digitU c = true) : decV l < 10 ^ l.length := by
  obtain ⟨r, rfl⟩ : ∃ r, l = r.reverse := ⟨l.reverse, by simp⟩
  induction r with
  | nil => decide
  | cons d t ih =>
    rw [List.reverse_cons] at h ⊢
    rw [decV_snoc, List.length_append, List.length_singleton, Nat.pow_succ]
    have h1 := ih (fun c hc => h c (List.mem_append_left _ hc))
    have h2 := h d (List.mem_append_right _ (List.mem_singleton.2 rfl))
    unfold digitU at h2
    simp at h2
    omega

theorem digitVal_of (c : UInt8) (h : digitU c = true) : Lib.digitVal c = some (c.toNat - 48) := by
  unfold digitU at h
  simp at h
  unfold Lib.digitVal
  rw [if_pos h]

theorem decFrom_of (l : List UInt8) (h : ∀ c ∈ l, digitU c = true) : ∀ acc, Lib.decFrom acc l = some (l.foldl (fun v c => v * 10 + (c.toNat - 48)) acc) := by
  induction l with
  | nil => intro acc; rfl
  | cons d t ih =>
    intro acc
    unfold Lib.decFrom
    rw [digitVal_of d (h d (List.mem_cons_self ..))]
    simp only []
    rw [ih (fun c hc => h c (List.mem_cons_of_mem _ hc))]; rfl

theorem atoi_of (l : List UInt8) (h0 : l ≠ []) (h : ∀ c ∈ l, digitU c = true) : Lib.atoi l = some ((decV l : Nat) : Int) := by
  cases l with
  | nil => exact absurd rfl h0
  | cons d t =>
    have hd := h d (List.mem_cons_self ..)
    unfold digitU at hd
    simp at hd
    have n1 : (d == 45) = false := by rw [beq_eq_false_iff_ne]; rintro rfl; simp at hd
    have n2 : (d == 43) = false := by rw [beq_eq_false_iff_ne]; rintro rfl; simp at hd
    unfold Lib.atoi
    simp only [n1, n2, Bool.false_eq_true, if_false]
    unfold Lib.decNat
    simp only [List.isEmpty_cons, Bool.false_eq_true, if_false]
    rw [decFrom_of _ h]; rfl

theorem itemF_yes (s : ByteArray) (h : itemIs s = true) : itemF s = (((s.get! (lead s digitsT)).toNat : Int), itemNum s, ((lead s digitsT + 1 : Nat) : Int)) := by unfold itemF; rw [if_pos h]
theorem itemF_no (s : ByteArray) (h : itemIs s = false) : itemF s = (0, 0, 0) := by unfold itemF; rw [h]; rfl

theorem take_digits (s : ByteArray) (n : Nat) (h : n ≤ lead s digitsT) : ∀ c ∈ s.data.toList.take n, digitU c = true := by
  intro c hc
  rw [← digits_contains]
  refine lf_in s.data.toList digitsT.data.toList c ?_
  rw [lead_list] at h
  have e : s.data.toList.take n = (s.data.toList.take (leadFrom s.data.toList digitsT.data.toList)).take n := by rw [List.take_take, Nat.min_eq_left h]
  rw [e] at hc
  exact List.mem_of_mem_take hc

theorem itemNum_bd (s : ByteArray) (h : itemIs s = true) : -1 ≤ itemNum s ∧ itemNum s < 1000000000 := by
  unfold itemIs at h
  simp only [Bool.and_eq_true, decide_eq_true_eq] at h
  unfold itemNum
  split
  · omega
  · have := decV_lt (s.data.toList.take (lead s digitsT)) (take_digits s _ (Nat.le_refl _))
    have h2 : (s.data.toList.take (lead s digitsT)).length ≤ 9 := by rw [List.length_take]; omega
    have h3 := Nat.pow_le_pow_right (n := 10) (by omega) h2
    omega

end Go.Proofs.YtcpbljhogenjoaaDoor
