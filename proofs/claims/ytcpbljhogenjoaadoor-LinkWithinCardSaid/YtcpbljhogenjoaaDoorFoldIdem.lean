/- Plain: a folded label folds to itself. No walk here. -/
import Derived.Test.YtcpbljhogenjoaaDoorEncDec
import Derived.Test.YtcpbljhogenjoaaDoorFold2
import Derived.Lib.QuoteLoop
namespace Go.Proofs.YtcpbljhogenjoaaDoor
set_option linter.unusedVariables false
set_option linter.unusedSimpArgs false
open Go Go.RowKit Go.Lib

theorem upP_iff (r : Int) : withinB r upL = true ↔ (65 ≤ r ∧ r ≤ 90 ∨ 192 ≤ r ∧ r ≤ 222 ∨ 913 ≤ r ∧ r ≤ 939 ∨ 1040 ≤ r ∧ r ≤ 1071) := by
  unfold withinB upL; simp
theorem up2P_iff (r : Int) : withinB r up2L = true ↔ (1024 ≤ r ∧ r ≤ 1039) := by
  unfold withinB up2L; simp

theorem foldP_1 (r : Int) (h : 65 ≤ r ∧ r ≤ 90 ∨ 192 ≤ r ∧ r ≤ 222 ∧ r ≠ 215 ∨ 913 ≤ r ∧ r ≤ 939 ∧ r ≠ 930 ∨ 1040 ≤ r ∧ r ≤ 1071) : foldR r = Utf8.encode (r + 32) := by
  have : withinB r upL = true := (upP_iff r).2 (by omega)
  unfold foldR
  rw [if_neg (by omega)]
  exact if_pos this
theorem foldP_2 (r : Int) (h : 1024 ≤ r ∧ r ≤ 1039) : foldR r = Utf8.encode (r + 80) := by
  have h1 : ¬ withinB r upL = true := fun h2 => by have := (upP_iff r).1 h2; omega
  have h2 : withinB r up2L = true := (up2P_iff r).2 h
  unfold foldR
  rw [if_neg (by omega)]
  exact (if_neg h1).trans (if_pos h2)
theorem foldP_3 (r : Int) (h : r = 223 ∨ r = 7838) : foldR r = ⟨#[115, 115]⟩ := by
  have h1 : ¬ withinB r upL = true := fun h2 => by have := (upP_iff r).1 h2; omega
  have h2 : ¬ withinB r up2L = true := fun h2 => by have := (up2P_iff r).1 h2; omega
  unfold foldR
  rw [if_neg (by omega)]
  exact (if_neg h1).trans ((if_neg h2).trans (if_pos h))
theorem foldP_4 (r : Int) (h1 : ¬ (65 ≤ r ∧ r ≤ 90 ∨ 192 ≤ r ∧ r ≤ 222 ∧ r ≠ 215 ∨ 913 ≤ r ∧ r ≤ 939 ∧ r ≠ 930 ∨ 1040 ≤ r ∧ r ≤ 1071)) (h2 : ¬ (1024 ≤ r ∧ r ≤ 1039)) (h3 : ¬ (r = 223 ∨ r = 7838)) : foldR r = Utf8.encode r := by
  unfold foldR
  by_cases h0 : r = 215 ∨ r = 930
  · rw [if_pos h0]
  · rw [if_neg h0]
    have n1 : ¬ withinB r upL = true := fun h => by have := (upP_iff r).1 h; omega
    have n2 : ¬ withinB r up2L = true := fun h => by have := (up2P_iff r).1 h; omega
    exact (if_neg n1).trans ((if_neg n2).trans (if_neg h3))

theorem runeP_valid (s : ByteArray) (a : Nat) : ¬ (55296 ≤ (runeF s a).1 ∧ (runeF s a).1 < 57344) := by
  unfold runeF
  split
  · have h := decodeN_valid (s.size - a) (s.get! a).toNat (s.get! (a + 1)).toNat (s.get! (a + 2)).toNat (s.get! (a + 3)).toNat (UInt8.toNat_lt _)
    rw [← Lib.decode_at] at h
    rw [show ((a : Int)).toNat = a from Int.toNat_natCast a]
    show ¬ ((55296 : Int) ≤ ((Utf8.decode s a).1 : Nat) ∧ (((Utf8.decode s a).1 : Nat) : Int) < 57344)
    omega
  · decide


theorem blank_list (r : Int) : blankB r = true ↔ (9 ≤ r ∧ r ≤ 10 ∨ 12 ≤ r ∧ r ≤ 13 ∨ r = 32 ∨ r = 160 ∨ r = 5760 ∨ 8192 ≤ r ∧ r ≤ 8202 ∨ r = 8239 ∨ r = 8287 ∨ r = 12288) := by
  unfold blankB withinB blankL; simp; omega

/-- a character that is no blank and folds to itself -/
def Still (n : Nat) : Prop := ¬ (55296 ≤ n ∧ n < 57344) ∧ n ≤ 1114111 ∧ blankB n = false ∧ foldR n = Utf8.encode (n : Int)

theorem still_of (n : Nat) (hv : ¬ (55296 ≤ n ∧ n < 57344)) (h2 : n ≤ 1114111) (hb : blankB n = false)
    (h1 : ¬ ((65 : Int) ≤ n ∧ (n : Int) ≤ 90 ∨ (192 : Int) ≤ n ∧ (n : Int) ≤ 222 ∧ (n : Int) ≠ 215 ∨ (913 : Int) ≤ n ∧ (n : Int) ≤ 939 ∧ (n : Int) ≠ 930 ∨ (1040 : Int) ≤ n ∧ (n : Int) ≤ 1071)) (h3 : ¬ ((1024 : Int) ≤ n ∧ (n : Int) ≤ 1039)) (h4 : ¬ ((n : Int) = 223 ∨ (n : Int) = 7838)) : Still n :=
  ⟨hv, h2, hb, foldP_4 n h1 h3 h4⟩

/-- what a character is folded to: characters that stand still -/
theorem fold_pieces (n : Nat) (hv : ¬ (55296 ≤ n ∧ n < 57344)) (h2 : n ≤ 1114111) (hb : blankB n = false) :
    ∃ l : List Nat, l ≠ [] ∧ (∀ m ∈ l, Still m) ∧ (foldR n).data.toList = l.flatMap fun m : Nat => (Utf8.encode (m : Int)).data.toList := by
  have hnb : ∀ m : Nat, (97 ≤ m ∧ m ≤ 122 ∨ 224 ≤ m ∧ m ≤ 1119) → blankB m = false := by
    intro m hm
    cases h : blankB m with
    | false => rfl
    | true => have := (blank_list m).1 h; omega
  by_cases c1 : (65 : Int) ≤ n ∧ (n : Int) ≤ 90 ∨ (192 : Int) ≤ n ∧ (n : Int) ≤ 222 ∧ (n : Int) ≠ 215 ∨ (913 : Int) ≤ n ∧ (n : Int) ≤ 939 ∧ (n : Int) ≠ 930 ∨ (1040 : Int) ≤ n ∧ (n : Int) ≤ 1071
  · refine ⟨[n + 32], by simp, ?_, ?_⟩
    · intro m hm
      have : m = n + 32 := by simpa using hm
      subst this
      exact still_of _ (by omega) (by omega) (hnb _ (by omega)) (by omega) (by omega) (by omega)
    · rw [foldP_1 n c1]; simp
  · by_cases c2 : (1024 : Int) ≤ n ∧ (n : Int) ≤ 1039
    · refine ⟨[n + 80], by simp, ?_, ?_⟩
      · intro m hm
        have : m = n + 80 := by simpa using hm
        subst this
        exact still_of _ (by omega) (by omega) (hnb _ (by omega)) (by omega) (by omega) (by omega)
      · rw [foldP_2 n c2]; simp
    · by_cases c3 : (n : Int) = 223 ∨ (n : Int) = 7838
      · refine ⟨[115, 115], by simp, ?_, ?_⟩
        · intro m hm
          have : m = 115 := by simpa using hm
          subst this
          exact still_of _ (by omega) (by omega) (hnb _ (by omega)) (by omega) (by omega) (by omega)
        · rw [foldP_3 n c3]; decide +kernel
      · refine ⟨[n], by simp, ?_, ?_⟩
        · intro m hm
          have : m = n := by simpa using hm
          subst this
          exact still_of _ hv h2 hb c1 c2 c3
        · rw [foldP_4 n c1 c2 c3]; simp

/-- folding a text that begins so gets so far as this -/
def Fits (out : List UInt8) : Prop := ∀ (t : ByteArray) (rest : List UInt8), t.data.toList = out ++ rest → foldT t 0 [] false = foldT t out.length out false

theorem fits_nil : Fits [] := fun _ _ _ => rfl

theorem drop_at {t : ByteArray} {a b : List UInt8} (h : t.data.toList = a ++ b) : t.data.toList.drop a.length = b := by rw [h]; simp
theorem size_of_app {t : ByteArray} {a b : List UInt8} (h : t.data.toList = a ++ b) : t.size = a.length + b.length := by
  rw [← lst_size, h, List.length_append]

theorem rune_at (t : ByteArray) (a b rest : List UInt8) (n : Nat) (hs : ¬ (55296 ≤ n ∧ n < 57344)) (h2 : n ≤ 1114111) (hb : b = (Utf8.encode (n : Int)).data.toList ++ rest) (h : t.data.toList = a ++ b) (hpos : a.length < t.size) :
    runeF t a.length = ((n : Int), (((Utf8.encode (n : Int)).data.toList.length : Nat) : Int)) := by
  have hd := drop_at h
  rw [hb] at hd
  have := dec_enc t a.length n hs h2 rest hd
  unfold runeF
  rw [if_pos ⟨by omega, by omega⟩, Int.toNat_natCast, this]

theorem enc_pos (n : Int) : 1 ≤ (Utf8.encode n).data.toList.length := by
  unfold Utf8.encode
  simp only []
  generalize (if Utf8.valid n = true then n.toNat else Utf8.runeError) = c
  by_cases h1 : c < 128
  · rw [if_pos h1]; simp
  · rw [if_neg h1]
    by_cases h2 : c < 2048
    · rw [if_pos h2]; simp
    · rw [if_neg h2]
      by_cases h3 : c < 65536
      · rw [if_pos h3]; simp
      · rw [if_neg h3]; simp

/-- a character more -/
theorem step_still (t : ByteArray) (a rest out : List UInt8) (g : Bool) (n : Nat) (hn : Still n) (h : t.data.toList = a ++ ((Utf8.encode (n : Int)).data.toList ++ rest)) :
    foldT t a.length out g = foldT t (a ++ (Utf8.encode (n : Int)).data.toList).length ((if (g && !out.isEmpty) = true then out ++ [32] else out) ++ (Utf8.encode (n : Int)).data.toList) false := by
  obtain ⟨h1, h2, h3, h4⟩ := hn
  have hp := enc_pos n
  have hsz := size_of_app h
  rw [List.length_append] at hsz
  have hlt : a.length < t.size := by omega
  have hr := rune_at t a _ rest n h1 h2 rfl h hlt
  have := foldT_char t a.length out g hlt _ (by rw [hr]) hp (by rw [hr]; exact h3)
  rw [this, hr, List.length_append, h4]

theorem step_blank (t : ByteArray) (a rest out : List UInt8) (g : Bool) (h : t.data.toList = a ++ (32 :: rest)) :
    foldT t a.length out g = foldT t (a ++ [32]).length out true := by
  have hsz := size_of_app h
  simp only [List.length_cons] at hsz
  have hlt : a.length < t.size := by omega
  have h' : t.data.toList = a ++ ((Utf8.encode ((32 : Nat) : Int)).data.toList ++ rest) := by rw [h]; rfl
  have hr := rune_at t a _ rest 32 (by decide) (by decide) rfl h' hlt
  have := foldT_blank t a.length out g hlt 1 (by rw [hr]; rfl) (Nat.le_refl _) (by rw [hr]; decide)
  rw [this]; simp

theorem fits_pieces : ∀ (l : List Nat) (out : List UInt8), (∀ m ∈ l, Still m) → Fits out → Fits (out ++ l.flatMap fun m : Nat => (Utf8.encode (m : Int)).data.toList) := by
  intro l
  induction l with
  | nil => intro out _ h; rw [List.flatMap_nil, List.append_nil]; exact h
  | cons m l ih =>
    intro out hl h
    have hm := hl m (List.mem_cons_self ..)
    have h1 : Fits (out ++ (Utf8.encode (m : Int)).data.toList) := by
      intro t rest ht
      rw [List.append_assoc] at ht
      have key := step_still t out rest out false m hm ht
      rw [Bool.false_and, if_neg Bool.false_ne_true] at key
      exact (h t _ ht).trans key
    have := ih (out ++ (Utf8.encode (m : Int)).data.toList) (fun x hx => hl x (List.mem_cons_of_mem _ hx)) h1
    rw [List.flatMap_cons, ← List.append_assoc]
    exact this

theorem gap_ok (out : List UInt8) (ho : out ≠ []) : (true && !out.isEmpty) = true := by
  cases out with
  | nil => exact absurd rfl ho
  | cons a l => rfl
theorem app_1 (t : ByteArray) (out e rest : List UInt8) (ht : t.data.toList = out ++ [32] ++ e ++ rest) : t.data.toList = out ++ (32 :: (e ++ rest)) := by
  rw [ht, List.append_assoc, List.append_assoc]; rfl
theorem app_2 (t : ByteArray) (out e rest : List UInt8) (ht : t.data.toList = out ++ [32] ++ e ++ rest) : t.data.toList = (out ++ [32]) ++ (e ++ rest) := by
  rw [ht, List.append_assoc]
theorem fits_gap1 (m : Nat) (hm : Still m) (out : List UInt8) (ho : out ≠ []) (h : Fits out) : Fits ((out ++ [32]) ++ (Utf8.encode (m : Int)).data.toList) := by
  intro t rest ht
  have k1 := h t _ (app_1 t out _ rest ht)
  have k2 := step_blank t out _ out false (app_1 t out _ rest ht)
  have k3 := step_still t (out ++ [32]) rest out true m hm (app_2 t out _ rest ht)
  rw [if_pos (gap_ok out ho)] at k3
  exact k1.trans (k2.trans k3)

theorem fits_gap (l : List Nat) (out : List UInt8) (hl : ∀ m ∈ l, Still m) (hne : l ≠ []) (ho : out ≠ []) (h : Fits out) : Fits ((out ++ [32]) ++ l.flatMap fun m : Nat => (Utf8.encode (m : Int)).data.toList) := by
  match l, hne with
  | m :: l, _ =>
    have h1 := fits_gap1 m (hl m (List.mem_cons_self ..)) out ho h
    have := fits_pieces l _ (fun x hx => hl x (List.mem_cons_of_mem _ hx)) h1
    rw [List.flatMap_cons, ← List.append_assoc]
    exact this

theorem foldG_fits (s : ByteArray) : ∀ (f a : Nat) (out : List UInt8) (g : Bool), Fits out → Fits (foldG s f a out g) := by
  intro f
  induction f with
  | zero => intro a out g h; exact h
  | succ f ih =>
    intro a out g h
    rw [foldG]
    split
    · rename_i ha
      split
      · exact ih _ _ _ h
      · rename_i hb
        refine ih _ _ _ ?_
        have hv := runeP_valid s a
        have hbd := runeF_bd s a
        obtain ⟨n, hn⟩ : ∃ n : Nat, (runeF s a).1 = n := ⟨(runeF s a).1.toNat, by omega⟩
        rw [hn] at hb hv hbd ⊢
        obtain ⟨l, hne, hst, hfl⟩ := fold_pieces n (by omega) (by omega) (by simpa using hb)
        rw [hfl]
        split
        · rename_i hg
          exact fits_gap l out hst hne (by intro h0; subst h0; simp at hg) h
        · exact fits_pieces l out hst h
    · exact h

/-- folding what is folded changes nothing -/
theorem foldF_idem (s : ByteArray) : foldF (foldF s) = foldF s := by
  have h := foldG_fits s s.size 0 [] false fits_nil
  have h2 := h (foldF s) [] (by rw [List.append_nil]; rfl)
  have hz : (foldF s).size = (foldG s s.size 0 [] false).length := by rw [← lst_size]; rfl
  show (⟨(foldT (foldF s) 0 [] false).toArray⟩ : ByteArray) = ⟨(foldG s s.size 0 [] false).toArray⟩
  rw [h2, foldT_end _ _ _ _ (by rw [hz]; exact Nat.le_refl _)]

end Go.Proofs.YtcpbljhogenjoaaDoor
